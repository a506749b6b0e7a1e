/- A part of the proof of TopLines: contracts of the functions that it reaches. Conditions: as each states. -/
import Derived.Shelf.Strings.BuilderK
import Derived.Test.YtdlofedcpibjcaaGreatDoorA03
namespace Go.Proofs.YtdlofedcpibjcaaGreatDoor
open Go.RowKit Go.Proofs.Tryz
set_option linter.all false
set_option maxRecDepth 100000
set_option maxHeartbeats 25600000
open Go renaming World->W,Value->V,Addr->bQ,Act->a',Oper->bd,Program->cb,Ending->bp,TypeId->bj,Calls->ap
open Go.RowKit renaming Below->B,wrap64->aB,intOf->aw
open Option renaming some->A,none->Z
open Bool renaming true->T,false->F
open Go.Value renaming int->aa,slice->S,pointer->aM,agg->ao,bool->au,string->a7,tuple->aZ,ownBlock->af
open Go.IntKind renaming i64->ac,u64->b1
open Go.Ending renaming returned->aq
open Go.Obj renaming cells->az
open Go.World renaming setCell->aj,cell?->C,frozen?->aH
open List renaming length->L
open Go.Proofs.Tryz renaming prog->ab
open _root_ renaming Int->I,Nat->N,List->E
variable{a b c d e g:N}{w x:W}{i j k l:I}{u v y:V}{p:Prop}
def Su(i j:I)(k:V)(b c l d m:I)(n gk:N)(a e:I)(f:W)(o:bZ f n i j k b c l d m)(p:g5 f gk e)(q:0<=c)(r:c<=4294967296)(w: -9007199254740992<=a)(x:a<=9007199254740992):ap ab 246 #[a,aM (A n),aM (A gk)] f λs t=>s=aq (fj T c d b e a)/\B f f t:=by
 obtain⟨y,z,D,G,K,M,P,R⟩:=o;unfold g5 at p;by_cases g:b<=a
 ·have h:H (fj T c d b e a=0):=Q (by unfold fj;rw[am ⟨J,g⟩]);have u:decide (b<=a)=T:=by simpa using g
  clear g;go_in;go_wp2;go_ret;exact⟨nQ h.symm,aS _ _⟩
 have h:H (fj T c d b e a=dt c d (max a 0) e):=Q (by unfold fj;rw[ak aF]);have u:decide (b<=a)=F:=aF
 clear g;go_in;go_wp2_with fail;refine mU (uv i j k b c l d m (max a 0) e f q r O O) λU v=>?_;go_wp2;go_ret;exact⟨nQ h.symm,v⟩
def Sv(g h:I)(i:V)(f a j d k:I)(l gk:N)(b e:I)(c:W)(m:bZ c l g h i f a j d k)(n:g5 c gk e)(o:0<=a)(p:a<=4294967296)(u: -9007199254740992<=b)(v:b<=9007199254740992):ap ab 245 #[b,aM (A l),aM (A gk)] c λq r=>q=aq (fj F a d f e b)/\B c c r:=by obtain⟨w,x,y,z,G,K,M,P⟩:=m;unfold g5 at n;have s:H (fj F a d f e b=dt a d (max b 0) e):=Q (by unfold fj;rw[ak D]);go_in;go_wp2_with fail;refine mU (uv g h i f a j d k (max b 0) e c o p O O) λR t=>?_;go_wp2;go_ret;exact⟨nQ s.symm,t⟩
def pZ(f:Bool)(a b c d g:I)(h:N)(e:W)(k:bp)(i:W):Prop:=∃j,k=aq (aZ #[j,au (eF c a b d (c5 f b d a g c h)==0)])/\ay i e j (c5 f b d a g c h)/\B e e i
def Sw(g h:Int)(i:Value)(J' b a c j:Int)(p gk e:Nat)(d:Int)(f:World)(w:bZ f p g h i J' b a c j)(q:g5 f gk d)(s:0<=b)(U:b<=2147483648)(X:0<=a)(av:a<=2147483648)(x:0<=J')(Y:J'<=2147483648)(ax:e<=1000):Calls prog 244 #[.agg #[.int .i64 g,.int .i64 h,i,.int .i64 J',.int .i64 b,.int .i64 a,.int .i64 c,.int .i64 j],.int .i64 e,.func (.func 246) #[] #[.pointer (some ⟨p,0,none⟩),.pointer (some ⟨gk,0,none⟩)]] f (pZ true J' b a c d e f):=by
 obtain⟨CX,y,l,ad,m⟩:=da f g h i J' b a c j;have ae:=Q (w.bw l);have ag:=Q (q.bw l);have HD:=Q m;have aA:=m.lt;have ah:=m.c5;have D:me a J' b (c5 true b c J' d a e):=⟨X,O,x,O,nL⟩
 change H _ at y D;clear w q m ad;go_in;go_wp2_with fail;rw[y.oo];go_wp2_with fail;clear ah;generalize Dt:(f:Nat)=JG at*;have C9:=Q l;change H _ at Dt;clear l;go_loopw [8,9,14] (λai ak t wr=>∃(JN:Nat) (k:Value) (Jj:Int),JN<=e/\t= .int .i64 JN/\k=ai/\ak= .int .i64 Jj/\Jj=h9 true b c J' d a JN/\ay wr (CX:Nat) k (c5 true b c J' d a JN)/\Below (CX:Nat) CX wr) (λ_ _ t _=>e-(aw t).toNat);exact⟨0,_,a,Nat.zero_le _,rfl,rfl,rfl,rfl,ay.nil _ _,Below.refl _ _⟩;obtain⟨JN,k,Jj,q,rfl,rfl,rfl,DS,o,n⟩:=hrel;by_cases aC:JN<e
 ·have G:=y6 (abA:=true) (abC:=c) (abE:=d) (abF:=a) s x JN;have M:=rI (abA:=true) (abC:=c) (abD:=J') (abE:=d) Jj s;rw[<-DS]at G;have al:J'*(JN:Int)<=2147483648*1000:=Int.mul_le_mul Y O O O;have am:b*(JN:Int)<=2147483648*1000:=Int.mul_le_mul U O O O;have aD: -2147483648000<=Jj:=by omega
  have aE:Jj<=3000000000000:=O
  have Du:=Q (pM (abA:=true) (abB:=b) (abC:=c) (abD:=J') (abE:=d) (abF:=a) JN);have Gf:=Q (t8 (abA:=true) (abB:=b) (abC:=c) (abD:=J') (abE:=d) (abF:=a) JN);rw[<-DS]at Du Gf;obtain⟨IX,P⟩:=K (fj true b c J' d Jj);have R:=Q (Su g h i J' b a c j p gk Jj d wr (ae.oo.bw n) (ag.oo.bw n) s O O O);rw[<-P]at R M Du Gf;have aF:=Q DS;obtain⟨aG,aI⟩:=M;clear DS G al am P;go_wp2_with fail;refine mU R.oo λan v=>?_;have Ge:=n.trans (v.mono n.size);have HE:=o.bw v;have HF:=(HD.oo.bw Ge).c3;clear n v o;go_wp2_with (at_builtin;refine hP rfl _ _ rfl an (CX:Nat) k (c5 true b c J' d a JN) IX rfl rfl HE nL Ge.size ?_);exact v1
 have ar:JN=e:=O
 subst ar;obtain⟨CI,Ce,El,Em,En,DJ,FY,FZ⟩:=HD.oo.bw n;have C5:=Q (t7 g h i J' b a c j k (c5 true b c J' d a JN) wr o.ints D.oo);exact vV
def Sx(g h:Int)(i:Value)(J' b a c j:Int)(p gk e:Nat)(d:Int)(f:World)(w:bZ f p g h i J' b a c j)(q:g5 f gk d)(s:0<=b)(U:b<=2147483648)(X:0<=a)(av:a<=2147483648)(x:0<=J')(Y:J'<=2147483648)(ax:e<=1000):Calls prog 244 #[.agg #[.int .i64 g,.int .i64 h,i,.int .i64 J',.int .i64 b,.int .i64 a,.int .i64 c,.int .i64 j],.int .i64 e,.func (.func 245) #[] #[.pointer (some ⟨p,0,none⟩),.pointer (some ⟨gk,0,none⟩)]] f (pZ false J' b a c d e f):=by
 obtain⟨CX,y,l,ad,m⟩:=da f g h i J' b a c j;have ae:=Q (w.bw l);have ag:=Q (q.bw l);have HD:=Q m;have aA:=m.lt;have ah:=m.c5;have D:me a J' b (c5 false b c J' d a e):=⟨X,O,x,O,nL⟩
 change H _ at y D;clear w q m ad;go_in;go_wp2_with fail;rw[y.oo];go_wp2_with fail;clear ah;generalize Dt:(f:Nat)=JG at*;have C9:=Q l;change H _ at Dt;clear l;go_loopw [8,9,14] (λai ak t wr=>∃(JN:Nat) (k:Value) (Jj:Int),JN<=e/\t= .int .i64 JN/\k=ai/\ak= .int .i64 Jj/\Jj=h9 false b c J' d a JN/\ay wr (CX:Nat) k (c5 false b c J' d a JN)/\Below (CX:Nat) CX wr) (λ_ _ t _=>e-(aw t).toNat);exact⟨0,_,a,Nat.zero_le _,rfl,rfl,rfl,rfl,ay.nil _ _,Below.refl _ _⟩;obtain⟨JN,k,Jj,q,rfl,rfl,rfl,DS,o,n⟩:=hrel;by_cases aC:JN<e
 ·have G:=y6 (abA:=false) (abC:=c) (abE:=d) (abF:=a) s x JN;have M:=rI (abA:=false) (abC:=c) (abD:=J') (abE:=d) Jj s;rw[<-DS]at G;have al:J'*(JN:Int)<=2147483648*1000:=Int.mul_le_mul Y O O O;have am:b*(JN:Int)<=2147483648*1000:=Int.mul_le_mul U O O O;have aD: -2147483648000<=Jj:=by omega
  have aE:Jj<=3000000000000:=O
  have Du:=Q (pM (abA:=false) (abB:=b) (abC:=c) (abD:=J') (abE:=d) (abF:=a) JN);have Gf:=Q (t8 (abA:=false) (abB:=b) (abC:=c) (abD:=J') (abE:=d) (abF:=a) JN);rw[<-DS]at Du Gf;obtain⟨IX,P⟩:=K (fj false b c J' d Jj);have R:=Q (Sv g h i J' b a c j p gk Jj d wr (ae.oo.bw n) (ag.oo.bw n) s O O O);rw[<-P]at R M Du Gf;have aF:=Q DS;obtain⟨aG,aI⟩:=M;clear DS G al am P;go_wp2_with fail;refine mU R.oo λan v=>?_;have Ge:=n.trans (v.mono n.size);have HE:=o.bw v;have HF:=(HD.oo.bw Ge).c3;clear n v o;go_wp2_with (at_builtin;refine hP rfl _ _ rfl an (CX:Nat) k (c5 false b c J' d a JN) IX rfl rfl HE nL Ge.size ?_);exact v1
 have ar:JN=e:=O
 subst ar;obtain⟨CI,Ce,El,Em,En,DJ,FY,FZ⟩:=HD.oo.bw n;have C5:=Q (t7 g h i J' b a c j k (c5 false b c J' d a JN) wr o.ints D.oo);exact vV
def Sy(m n:I)(o:V)(a b c g p:I)(h:N)(e:I)(f:W)(D:0<=b)(G:b<=2147483648)(M:0<=c)(O:c<=2147483648)(P:0<=a)(R:a<=2147483648)(U:h<=1000):ap ab 226 #[ao #[m,n,o,a,b,c,g,p],h,e] f (pZ T a b c g e h f):=by
 have⟨j,q,i,r,s⟩:=da f m n o a b c g p;obtain⟨d,k⟩:∃d,j.alloc (az #[e] 3)=d:=⟨_,J⟩
 have l:B j j d:=by rw[<-k];exact(aS _ _).alloc (aL _) _
 have t:g5 d j e:=by unfold g5;rw[<-k];simp[go_sem]
 have u:=s.bw l;have X:=Q u;obtain⟨v,Y,ad,ae,ag,ah,ai,ak⟩:=u;have al:=Q (i.trans (l.mono i.size));have w:g5 d ((f:N)+1) e:=by rw[<-r];exact t
 have am:(f:N)<d.heap.size:=aR d _ v;have x:=Q (i.trans (l.mono i.size)).size;change H _ at w q k;clear s i l t r;go_in;go_wp2_with fail;rw[q,k];go_wp2_with fail;refine mE (Sw m n o a b c g p f ((f:N)+1) h e d X w D G M O P R U) λan Kl ⟨y,z⟩=>?_;have Ig:=Q (y.mono x.out);have Ih:=Q (al.oo.trans (z.mono x.out));clear y z v Y ad ae ag ah ai ak;have⟨ar,EN⟩:=K ((eF c a b g (c5 T b g a e c h)==0));exact ww
def Sz(m n:I)(o:V)(a b c g p:I)(h:N)(e:I)(f:W)(D:0<=b)(G:b<=2147483648)(M:0<=c)(O:c<=2147483648)(P:0<=a)(R:a<=2147483648)(U:h<=1000):ap ab 224 #[ao #[m,n,o,a,b,c,g,p],h,e] f (pZ F a b c g e h f):=by
 have⟨j,q,i,r,s⟩:=da f m n o a b c g p;obtain⟨d,k⟩:∃d,j.alloc (az #[e] 3)=d:=⟨_,J⟩
 have l:B j j d:=by rw[<-k];exact(aS _ _).alloc (aL _) _
 have t:g5 d j e:=by unfold g5;rw[<-k];simp[go_sem]
 have u:=s.bw l;have X:=Q u;obtain⟨v,Y,ad,ae,ag,ah,ai,ak⟩:=u;have al:=Q (i.trans (l.mono i.size));have w:g5 d ((f:N)+1) e:=by rw[<-r];exact t
 have am:(f:N)<d.heap.size:=aR d _ v;have x:=Q (i.trans (l.mono i.size)).size;change H _ at w q k;clear s i l t r;go_in;go_wp2_with fail;rw[q,k];go_wp2_with fail;refine mE (Sx m n o a b c g p f ((f:N)+1) h e d X w D G M O P R U) λan Kl ⟨y,z⟩=>?_;have Ig:=Q (y.mono x.out);have Ih:=Q (al.oo.trans (z.mono x.out));clear y z v Y ad ae ag ah ai ak;have⟨ar,EN⟩:=K ((eF c a b g (c5 F b g a e c h)==0));exact ww
def iR(b:ad)(a:br):I:=(gD b a (L a)).1
def ml(a b:I)(c:br)(d:ad):ag:=if iR d (db a b c)<0 then[]else mj a (b6 (db a b c) (iR d (db a b c)).toNat)
def oz(a b:I)(c:br)(d:ad):Bool:= !decide (iR d (db a b c)<0)
def z0(c d:I)(a:br):∀b∈db c d a,b∈a:=λb hp=>(List.mem_filter.1 hp).1
def SA(b c:I)(a:br):(db b c a).length<=L a:=List.length_filter_le _ _
def z1(b:ad)(a:br)(c:0<=iR b a):(iR b a).toNat<L a:=by unfold iR at*;rcases RQ b a (L a) with d|d;omega;rw[d]at c;simp[gD]at c
def SB(k a:I)(i ag:V)(l m n o p c:I)(b:br)(d:ad)(e:W)(hp:cA e i b)(aW:∀j∈b,j<18446744073709551616)(aF:L b<=1000)(aY:aX e ag d)(aG:∀a0∈d,bB a0=T):ap ab 193 #[ao #[k,(a:I),i,l,m,n,o,p],(c:I),ag] e (lc e (ml a c b d) (oz a c b d)):=by
 have⟨a2,aI,M,bi,a3⟩:=da e k a i l m n o p;have a4:=Q (Sn k a i l m n o p c b a2 (hp.bw M) aF);have a5:=Q (aY.bw M);have a6:=M.size;obtain⟨u,v,w,x,y,z,D,G⟩:=a3;have ah:∀j∈db a c b,j<18446744073709551616:=λj hp=>aW j (z0 _ _ _ j hp);have aK:(db a c b).length<=1000:=a1 (SA _ _ _) aF;have ai:=z1 d (db a c b);have P:ml a c b d=if iR d (db a c b)<0 then[]else mj a (b6 (db a c b) (iR d (db a c b)).toNat):=J;have R:oz a c b d= !decide (iR d (db a c b)<0):=J;generalize db a c b=g at*;change H _ at aI aG ah aK ai P R;go_in;go_upto_region 1 with(fail)
 rw[aI];go_wp2_with fail;refine mE a4 λaL a8 ⟨a9,al⟩=>?_;have aN:=Q a9.words;have ba:=Q (a5.oo.bw al);obtain⟨u,v,w,x,y,z,D,G⟩:bZ aL e k a i l m n o p:=bZ.bw ⟨u,v,w,x,y,z,D,G⟩ al;have aO:=Q (M.trans (al.mono a6));go_wp2_with fail;refine mU (RR a8 ag g d aL aN ah ba aG aK) λU Y=>?_;have⟨r,ar⟩:=K (iR d g);have aP:(gD d g (L g)).1=r:=ar.symm;rw[aP];rw[<-ar]at ai P R;generalize(gD d g (L g)).2=bk;obtain⟨bl,bb,bm,rfl,av,_,_,aQ⟩:=(aN.bw Y).open;obtain⟨u,v,w,x,y,z,D,G⟩:bZ U e k a i l m n o p:=bZ.bw ⟨u,v,w,x,y,z,D,G⟩ Y;have ax:=Q (aO.oo.trans (Y.mono aO.size));have aR:=ax.size;change H _ at aQ av;clear ar aP Y;by_cases ae:r<0
 ·have ay:decide (r<0)=T:=by simpa using ae
  have aA:H (ml a c b d=[]):=Q (by rw[P,am ae]);have aC:H (oz a c b d=F):=Q (by rw[R,ay];rfl);go_wp2;go_ret2;rw[aA,aC];exact⟨_,J,dv.nil _ _,ax⟩
 have ay:decide (r<0)=F:=X ae
 obtain⟨t,rfl⟩:=dw (bh (0<=r));have aD:=ai O;rw[cW,av]at aD;obtain⟨r,bc,rfl,_,be⟩:=aQ t aD;have aA:H (ml a c b d=mj a (b6 g t)):=Q (by rw[P,ak ae,cW]);have aC:H (oz a c b d=T):=Q (by rw[R,ay];rfl);have aE:=λbf=>R2 k a i l m n o p (b6 g t) bf (ah _ (m0 (by rw[av];exact aD)));generalize b6 g t=j at*;have bn:=aJ t;have bo:(t:I)<bb:=O
 replace aE:=Q aE;go_upto_region 5 with fail;go_region_held3 (λh=>(C h e=A (aa ac k)/\C h ⟨e,1,Z⟩=A (aa ac a)/\C h ⟨e,2,Z⟩=A i/\C h ⟨e,3,Z⟩=A (aa ac l)/\C h ⟨e,4,Z⟩=A (aa ac m)/\C h ⟨e,5,Z⟩=A (aa ac n)/\C h ⟨e,6,Z⟩=A (aa ac o)/\C h ⟨e,7,Z⟩=A (aa ac p)/\C h ⟨r,bc+t,Z⟩=A (aa b1 (j:I)))) (first|go_keep|exact⟨s f u,s f v,s f w,s f x,s f y,s f z,s f D,s f G,s f be⟩)
  (first
   |(go_at_call 220;refine mE (aE _) λbq bs ⟨bg,aT⟩=>?_;(first|have f:=q (aS U U) aT|have f:=q (an U) aT);have aU:=Q (bg.mono aR)))
 all_goals have aV:=Q (ax.trans (f.mono aR));go_wp2;go_ret2;rw[aA,aC];exact⟨_,J,by first|exact aU|exact aU.bw (an _),by first|exact aV.out|exact aV.out.drew⟩
def ep(a:Bool)(b c d e:I)(f:N):ag:=g0 (c5 a b 2 c d e f)
def iS(d:Bool)(a b e c:I)(f:N):Bool:=eF c b a 2 (c5 d a 2 b e c f)==0
def p0(a b c f e:I)(g:ad)(d:N):Bool:=iS T b c e a d&&(!iS F b c e a d||decide (hv 2 a c b f g (ep T b c e a d) d<=hv 2 a c b f g (ep F b c e a d) d))
def nr(a b c f d:I)(g:ad)(e:N):ag:=if p0 a b c f d g e=T then ep T b c d a e else if iS F b c d a e=T then ep F b c d a e else[]
def p1(a b c f d:I)(g:ad)(e:N):Bool:=p0 a b c f d g e||iS F b c d a e
def uw(b:Bool)(c d e f:I)(a:N):(ep b c d e f a).length<=a:=by have:=ua (c5 b c 2 d e f a) (c5 b c 2 d e f a).length;rw[lA]at this;unfold ep g0;rw[lA];exact this
def ux{JT:Bool}{J' Jv Kd:I}{J0:N}(b:0<=i)(c:i<=2147483648):∀d∈ep JT i J' Jv Kd J0,bB d.2=T:=by unfold ep g0;exact Qn _ (Qd b c J0) _ (aL _)
def SC(m:I)(n aA:V)(a c b f e:I)(d:N)(g:ad)(X:W)(w:eH b a c 2 f)(bo:d<=64)(bq:aX X aA g)(br:∀aU,0<=b3 g aU/\b3 g aU<=9007199254740992):ap ab 195 #[ao #[(2:I),m,n,a,c,b,(2:I),f],d,e,aA] X (lc X (nr b c a f e g d) (p1 b c a f e g d)):=by
 have⟨b2,aV,x,b4,bs⟩:=da X 2 m n a c b 2 f;have b5:=w.k9;have b6:=w.gC;have b7:=w.jk;have b8:=w.jl;have b9:=w.fJ;have b':=w.jm;have aC:=Q (λh=>Sz 2 m n a c b 2 f d e h O O O O O O O);have aD:=Q (λh=>Sy 2 m n a c b 2 f d e h O O O O O O O);have aW:=Q (λh Y bt l ae bu bv=>zZ 2 m n aA Y a c b 2 f d g bt h (.inr ⟨J,w⟩) bo ((bq.bw x).bw l) br ae bu bv);have ca:=uw T c a e b d;have cc:=uw F c a e b d;have bx:=ux (JT:=T) (J':=a) (Jv:=e) (Kd:=b) (J0:=d) (bh (0<=c)) O;have bA:=ux (JT:=F) (J':=a) (Jv:=e) (Kd:=b) (J0:=d) (bh (0<=c)) O;have i:nr b c a f e g d=if p0 b c a f e g d=T then ep T c a e b d else if iS F c a e b d=T then ep F c a e b d else[]:=J;have j:p1 b c a f e g d=(p0 b c a f e g d||iS F c a e b d):=J;have bB:p0 b c a f e g d=(iS T c a e b d&&(!iS F c a e b d||decide (hv 2 b a c f g (ep T c a e b d) d<=hv 2 b a c f g (ep F c a e b d) d))):=J;rw[bB]at i j;generalize nr b c a f e g d=ag at*;generalize p1 b c a f e g d=cd at*;have aY:(c5 F c 2 a e b d).length<=1048576:=nL
 have a0:(c5 T c 2 a e b d).length<=1048576:=nL
 have bC:(eF b a c 2 (c5 F c 2 a e b d)==0)=iS F c a e b d:=J;have bD:(eF b a c 2 (c5 T c 2 a e b d)==0)=iS T c a e b d:=J;unfold pZ at aC aD;rw[bC]at aC;rw[bD]at aD;have a1:g0 (c5 F c 2 a e b d)=ep F c a e b d:=J;have a2:g0 (c5 T c 2 a e b d)=ep T c a e b d:=J;generalize iS F c a e b d=a3 at*;generalize iS T c a e b d=bE at*;have bF:=Q (λh Y l ae=>aW h Y _ l ae O bx);have bG:=Q (λh Y l ae=>aW h Y _ l ae O bA);generalize hv 2 b a c f g (ep T c a e b d) d=bH at*;generalize hv 2 b a c f g (ep F c a e b d) d=bI at*;generalize ep T c a e b d=a4 at*;generalize ep F c a e b d=a5 at*;generalize c5 F c 2 a e b d=bJ at*;generalize c5 T c 2 a e b d=bK at*;have ah:=x.size;obtain⟨y,z,D,G,M,P,R,U⟩:=bs;change H _ at aV i j aY a0 a1 a2;go_in;go_upto_region 1 with(fail)
 rw[aV];generalize o:X.heap.size=k at*;change H _ at o;go_wp2_with fail;refine mE (aC _) λa6 bL ⟨bM,a8⟩=>?_;have bN:=Q bM.ints;obtain⟨aE,aF,aG,aI,aJ,aK,aL,aN⟩:bZ a6 k 2 m n a c b 2 f:=bZ.bw ⟨y,z,D,G,M,P,R,U⟩ a8;have a9:=Q a8;go_wp2_with fail;refine mE (y7 bL bJ a6 bN aY) λbO ba ⟨bb,bc⟩=>?_;rw[a1]at bb;obtain⟨y,z,D,G,M,P,R,U⟩:bZ bO k 2 m n a c b 2 f:=bZ.bw ⟨aE,aF,aG,aI,aJ,aK,aL,aN⟩ bc;have bP:=Q bb;have be:=Q (q a9 bc);have ce:=be.size;have cf:=a9.size;go_wp2_with fail;refine mE (aD _) λbf bR ⟨bS,aO⟩=>?_;have bT:=Q bS.ints;obtain⟨aE,aF,aG,aI,aJ,aK,aL,aN⟩:bZ bf k 2 m n a c b 2 f:=bZ.bw ⟨y,z,D,G,M,P,R,U⟩ aO;have bg:=Q (bP.oo.bw aO);have al:=Q (q be aO);have cg:=al.size;cases bE with
  |false=>
   rw[Bool.false_and]at i j;cases a3 with
    |false=>have s:H (ag=[]):=Q (by rw[i,ak av,ak av]);have t:=Q j.oo;go_wp2;go_ret2;rw[s,t];exact⟨_,J,dv.nil _ _,by rw[o];exact x.trans (al.mono ah)⟩
    |true=>have s:H (ag=a5):=Q (by rw[i,ak av,am J]);have t:=Q j.oo;go_wp2;go_ret2;rw[s,t];exact⟨_,J,by rw[o];exact bg.mono O,by rw[o];exact x.trans (al.mono ah)⟩
  |true=>
   rw[Bool.true_and]at i j;go_wp2_with fail;refine mE (y7 bR bK bf bT a0) λu bi ⟨bk,aP⟩=>?_;rw[a2]at bk;have aQ:=Q bk;have bl:=Q (bg.oo.bw aP);obtain⟨y,z,D,G,M,P,R,U⟩:bZ u k 2 m n a c b 2 f:=bZ.bw ⟨aE,aF,aG,aI,aJ,aK,aL,aN⟩ aP;have ai:=Q (q al aP);have ch:=ai.size;cases a3 with
    |false=>rw[Bool.not_false,Bool.true_or]at i j;have s:H (ag=a4):=Q (by rw[i,am J]);have t:=Q j.oo;go_upto_region 6 with fail;go_quiet (fail);go_wp2;go_ret2;rw[s,t];exact⟨_,J,by rw[o];exact aQ.mono O,by rw[o];exact x.trans ((eb ai _).mono ah)⟩
    |true=>
     rw[Bool.not_true,Bool.false_or]at i j;have bU:=Q (λh l=>bF h bi (q ai l) (aQ.sk.bw l));have ar:=aS u.heap.size u;have⟨bm,aR⟩:=K (decide (bH<=bI));rw[<-aR]at i j;change H _ at aR;go_upto_region 6 with fail;go_cut [49] (λbV bW=>bV=au bm/\B u.heap.size u bW);case first=>
      go_region_held3 (λv=>(C v ⟨k,0,Z⟩=A (aa ac 2)/\C v ⟨k,1,Z⟩=A (aa ac m)/\C v ⟨k,2,Z⟩=A n/\C v ⟨k,3,Z⟩=A (aa ac a)/\C v ⟨k,4,Z⟩=A (aa ac c)/\C v ⟨k,5,Z⟩=A (aa ac b)/\C v ⟨k,6,Z⟩=A (aa ac 2)/\C v ⟨k,7,Z⟩=A (aa ac f))) (first|go_keep|exact rU p ⟨y,z,D,G,M,P,R,U⟩|exact rU r ⟨y,z,D,G,M,P,R,U⟩)
       (first
        |(go_at_call_of 165 bi;refine(bU _ ?_).mono ?_;(first|exact r|exact q r (an _)|exact ar|exact an _);rintro bX ci ⟨rfl,ax⟩;(first|have p:=q r ax|have p:=q (q r (an _)) ax|have p:=q ar ax|have p:=q (an u) ax))
        |(go_at_call_of 165 ba;refine((λ(h:W) (l:B u.heap.size u h)=>bG h ba (q ai l) (bl.sk.bw l)) _ ?_).mono ?_;(first|exact p|exact q p (an _)|exact ar|exact an _);rintro bX cj ⟨rfl,ay⟩;(first|have r:=q p ay|have r:=q (q p (an _)) ay|have r:=q ar ay|have r:=q (an u) ay)))
      all_goals go_wp2;go_meet;exact⟨by rw[aR],by first|exact r|exact r.drew|exact p|exact p.drew⟩
     obtain⟨rfl,aT⟩:=hcut;obtain⟨ck,rfl⟩:=K wc;have bn:=Q (q ai aT);have bY:=Q (aQ.oo.bw aT);have b0:=Q (bl.oo.bw aT);cases bm with
      |true=>have s:H (ag=a4):=Q (by rw[i,am J]);have t:=Q j.oo;go_wp2;go_ret2;rw[s,t];exact⟨_,J,by rw[o];exact bY.mono O,by rw[o];exact x.trans (bn.mono ah)⟩
      |false=>have s:H (ag=a5):=Q (by rw[i,ak av];simp);have t:=Q j.oo;go_wp2;go_ret2;rw[s,t];exact⟨_,J,by rw[o];exact b0.mono O,by rw[o];exact x.trans (bn.mono ah)⟩
def SD(b:I)(e g:V)(h i j k l f:I)(m:N)(a:br)(c:ad)(d:W)(hp:cA d e a)(n:∀p∈a,p<18446744073709551616)(q:L a<=1000)(r:aX d g c)(s:∀t∈c,bB t=T):ap ab 164 #[ao #[(1:I),b,e,h,i,j,k,l],m,f,g] d (lc d (ml b f a c) (oz b f a c)):=by
 have⟨u,R,B5,v,Hw⟩:=da d 1 b e h i j k l;have Hx:=Q (SB 1 b e g h i j k l f a c u (hp.bw B5) n q (r.bw B5) s);exact vZ
def SE(i:I)(j k:V)(a b c d g:I)(f:N)(e:ad)(h:W)(m:eH c a b 2 d)(n:f<=64)(p:aX h k e)(q:∀l,0<=b3 e l/\b3 e l<=9007199254740992):ap ab 164 #[ao #[(2:I),i,j,a,b,c,(2:I),d],f,g,k] h (lc h (nr c b a d g e f) (p1 c b a d g e f)):=by
 have⟨r,R,B5,s,Hw⟩:=da h 2 i j a b c 2 d;have Hx:=Q (SC i j k a b c d g f e r m n (p.bw B5) q);exact vZ
def SF(m:I)(n o:V)(a b c d j:I)(h:N)(e:ad)(f:W)(z:eH c a b 1 d)(D:h<=64)(G:aX f o e)(K:∀u,0<=b3 e u/\b3 e u<=9007199254740992):ap ab 164 #[ao #[(2:I),m,n,a,b,c,(1:I),d],h,j,o] f (rT c b a d j e h f):=by
 have⟨v,w,k,an,M⟩:=da f 2 m n a b c 1 d;have O:=Q (Sk 2 m n o a b c d j h e v z D (G.bw k) K);obtain⟨ar,av,ax,ay,aA,aC,aD,aE⟩:=M;change H _ at w;go_in;go_upto_region 1 with(fail)
 rw[w];go_wp2_with fail;refine O.mono ?_;rintro p q i;have x:∀(r:ag) (l:Bool),lc v r l p q->∃g,p=aq (aZ #[g,au l])/\lc f r l p q:=λr l ⟨g,y,P,R⟩=>⟨g,y,g,y,P.mono k.size,k.trans (R.mono k.size)⟩
 rcases i with⟨s,i⟩|⟨U,X,s,Y,ae,ah,ai,i⟩;·obtain⟨g,rfl,t⟩:=x _ _ i;have ak:=Q s;have al:=Q t;go_wp2;go_ret2;exact .inl ⟨ak,al⟩
 obtain⟨g,rfl,t⟩:=x _ _ i;have am:=Q (show rT c b a d j e h f _ q from .inr ⟨U,X,s,Y,ae,ah,ai,t⟩);go_wp2;go_ret2;exact am
def rV(b c d e f:I)(g:ad)(a:N):E a4×Bool:=match ct b c d e f g a a with
 |none=>([],F)
 |some h=>(g0 (js b c d (mk (ct b c d e f g a) (a+1) h.2) a),T)
def eJ(a:Cu)(b:I)(c:ad)(d:N):E a4×Bool:=if a.kd=1 then(ml a.dm b a.ps c,oz a.dm b a.ps c)else if a.ru=1 then rV a.st a.sz a.rt a.hd b c d else(nr a.st a.sz a.rt a.hd b c d,p1 a.st a.sz a.rt a.hd b c d)
def dR(b:N)(a:Cu):Prop:=(a.kd=1/\a.ps.length<=1000/\∀c∈a.ps,c<2^b)\/(a.kd=2/\eH a.st a.rt a.sz a.ru a.hd)
def dR.words{IZ:Cu}(d:dR a IZ)(f:a<=64)(h:IZ.kd=1):IZ.ps.length<=1000/\∀b∈IZ.ps,b<18446744073709551616:=by rcases d with⟨_,c,g⟩|⟨c,_⟩;exact⟨c,λb hp=>cg (g b hp) (by have:=Nat.pow_le_pow_right (show 0<2 by decide) f;simpa using this)⟩;omega
def uy(a:Cu)(g i:V)(f:I)(c:N)(b:ad)(d:W)(z:dR c a)(q:c<=64)(hp:cA d g a.ps)(r:aX d i b)(IQ:∀j∈b,0<=j/\j<=9007199254740992):ap ab 164 #[ao #[a.kd,a.dm,g,a.rt,a.sz,a.st,a.ru,a.hd],c,f,i] d (lc d (eJ a f b c).1 (eJ a f b c).2):=by
 have w:∀s,0<=b3 b s/\b3 b s<=9007199254740992:=λs=>vD
 unfold eJ;obtain⟨D,k,x,l,m,n,y,o⟩:=a;rcases z with⟨e,G,H⟩|⟨e,p⟩;have t:=dR.words (IZ:=⟨D,k,x,l,m,n,y,o⟩) (.inl ⟨e,G,H⟩) q e;simp only at e t hp⊢;subst e;rw[am J];exact SD k g i l m n y o f c x b d hp t.2 t.1 r (λj K=>ek.2 (Y (IQ j K)));simp only at e p hp⊢;subst e;rw[ak av];rcases p.ru with u|u;subst u;rw[am J];refine(SF k g i l m n o f c b d p q r w).mono ?_;unfold rV;rintro P Q (⟨v,h⟩|⟨R,U,v,M,_,_,_,h⟩);rw[v];exact h;rw[v];subst M;exact h;subst u;rw[ak av];exact SE k g i l m n o f c b d p q r w
def z2(h:ad)(c:N):∀d∈c6 h c,∃a:N,d.1=(a:I)/\a<c:=by
 induction c with
  |zero=>intro d b;cases b
  |succ c g=>intro d b;rw[c6]at b;split at b;rcases eh.1 b with e|e;have⟨a,f,i⟩:=g d e;exact⟨a,f,O⟩;simp at e;subst e;exact⟨c,J,O⟩;have⟨a,f,i⟩:=g d b;exact⟨a,f,O⟩
def rW{IZ:Cu}{Jv:I}{Jd:ad}(o:dR a IZ)(k:a<=64):(∀c∈(eJ IZ Jv Jd a).1,∃b:N,c.1=(b:I)/\b<a)/\(eJ IZ Jv Jd a).1.length<=64:=by
 unfold eJ;split;rename_i h;simp only;unfold ml;split;exact⟨λc d=>(by cases d),D⟩;rename_i i;have l:=z1 Jd (db IZ.dm Jv IZ.ps) O;have p:∀q∈IZ.ps,q<2^a:=by rcases o with⟨_,_,f⟩|⟨f,_⟩;exact f;omega
 have r:b6 (db IZ.dm Jv IZ.ps) (iR Jd (db IZ.dm Jv IZ.ps)).toNat<2^a:=p _ (z0 _ _ _ _ (by rw[mZ l];exact dY l));generalize b6 (db IZ.dm Jv IZ.ps) (iR Jd (db IZ.dm Jv IZ.ps)).toNat=s at*;unfold mj;constructor;intro c d;obtain⟨u,m,rfl⟩:=List.mem_map.1 d;unfold a8 at m;obtain⟨b,t,rfl⟩:=List.mem_map.1 m;have i:s.testBit b=T:=by have:=(List.mem_filter.1 t).2;simpa using this
 refine⟨b,J,?_⟩;rcases Nat.lt_or_ge b a with f|f;exact f;rw[Nat.testBit_lt_two_pow (cg r (Nat.pow_le_pow_right av f))]at i;cases i;rw[de];exact lD _ _ _;split;unfold rV;split;exact⟨λc d=>(by cases d),D⟩;simp only;constructor;intro c d;have⟨b,h,g⟩:=z2 _ _ c d;rw[rQ]at g;exact⟨b,h,g⟩;unfold g0;refine a1 (ua _ _) ?_;rw[rQ];exact k;simp only;unfold nr;have n:∀j,(∀c∈ep j IZ.sz IZ.rt Jv IZ.st a,∃b:N,c.1=(b:I)/\b<a)/\(ep j IZ.sz IZ.rt Jv IZ.st a).length<=64:=λj=>⟨λc d=>by have⟨b,h,g⟩:=z2 _ _ c d;rw[lA]at g;exact⟨b,h,g⟩,a1 (uw _ _ _ _ _ _) k⟩
 split;exact n T;split;exact n F;exact⟨λc d=>(by cases d),D⟩
section
attribute [local go_sem] Oper.semAt_some
def z3:V->N
 |S _ a _=>a
 |_=>0
structure ld(a:N)(m f1 n o p q:V)(f:N)(g:ai)(h i len:I)(e:ag)(j k:V)(c:ar)(left:ag)(b:W):Prop where
 inst:ci b a m f1 n o p q
 res:C b ⟨a+1,0,Z⟩=A (S Z 0 0)
 fQ:aH b ⟨a+1,0,Z⟩=F
 d:C b ⟨a+2,0,Z⟩=A k
 z4:aH b ⟨a+2,0,Z⟩=F
 lf:aW 89 b (a+3) j left
 off:aI bb (λl=>l<a+3\/af j=A l) b k c
 eq:iN f g h i len left.length c left=e2 f g h i len e
 a6:a6 c+left.length<=L e
 len:L c+left.length<=L e
def ld.bw{f g h l m:V}{n:ai}{o left:ag}{p:ar}(c:ld a u v y f g h b n i j k o l m p left w)(e:B w w x):ld a u v y f g h b n i j k o l m p left x:=⟨c.inst.bw e,s e c.res,aY e (aR _ _ c.res) c.fQ,s e c.d,aY e (aR _ _ c.d) c.z4,c.lf.bw e,c.off.bw e,c.eq,c.a6,c.len⟩
def ld.round{U ad ae aA tv':V}{h:ai}{ah left:ag}{f:ar}{W1 W':W}(z:ld a u v y U ad ae g h i j k ah (S (A ⟨b,0,Z⟩) c e) aA f left w)(aE:0<left.length)(aF:B w.heap.size w W1)(aG:(c0 g h i j k f (al left (cO g h i j k f left))).1=T)(aJ:aI bb (λq=>q<w.heap.size) W1 tv' (dF f (al left (cO g h i j k f left)).1 (al left (cO g h i j k f left)).2 (c0 g h i j k f (al left (cO g h i j k f left)))))(ak:aW 89 W' (a+3) (S (A ⟨b,0,Z⟩) (c-1) e) (left.eraseIdx (cO g h i j k f left)))(an:W1.grownBy W' (A b)):ld a u v y U ad ae g h i j k ah (S (A ⟨b,0,Z⟩) (c-1) e) tv' (dF f (al left (cO g h i j k f left)).1 (al left (cO g h i j k f left)).2 (c0 g h i j k f (al left (cO g h i j k f left)))) (left.eraseIdx (cO g h i j k f left)) (aj W' ⟨a+2,0,Z⟩ tv'):=by
 have aS:=z.lf.lt b J;have G:M (λq=>q=b) W1 W':=M.grown an λ_ p=>X p.symm
 have Q:M (λq=>q=a+2) W' (aj W' ⟨a+2,0,Z⟩ tv'):=M.grown (bn _ _ _) (λq p=>X p.symm);have t:=z.bw aF;have aK:=zw (I9:=g) (I0:=h) (Kv:=i) (Jv:=j) (JV:=k) (Jj:=f) aE;have R:(left.eraseIdx (cO g h i j k f left)).length=left.length-1:=by rw[List.length_eraseIdx,am aK]
 refine⟨(t.inst.bl G O).bl Q O,Q.cell (G.cell t.res O) O,?_,bP _ _ _ (by rw[G.cell t.d O];rfl),?_,ak.aO Q (λaL aN p=>Y ((ak.lt aL aN).1)),?_,?_,?_,?_⟩;rw[bs];exact G.free t.fQ (aR _ _ t.res) O;rw[bs];exact G.free t.z4 (aR _ _ t.d) O;refine aI.set (G:=λq=>q<a+3\/(S (A ⟨b,0,Z⟩) (c-1) e).ownBlock=A q) ?_ _ _ (.inl D) (λ_ p=>p);have aT:a+2<w.heap.size:=by have:=aR _ _ z.d;simpa using this
 refine aI.grown (G:=λq=>q<a+3\/(S (A ⟨b,0,Z⟩) (c-1) e).ownBlock=A q) (aJ.mono λq p=>?_) an (λq p=>.inr (by simpa[af]using p)) (λ_ p=>p);rcases p with p|p;omega;simp only[af,a2]at p;omega;have av:=z.eq;rw[R];obtain⟨ax,ay⟩:∃ax,left.length=ax+1:=⟨left.length-1,O⟩
 rw[ay,iN,am aG]at av;rw[ay];exact av;have:=ow (I9:=g) (I0:=h) (Kv:=i) (Jv:=j) (JV:=k) (Jj:=f) (al left (cO g h i j k f left));have aQ:=z.a6;rw[R];omega;have:=pS f (al left (cO g h i j k f left)).1 (al left (cO g h i j k f left)).2 (c0 g h i j k f (al left (cO g h i j k f left)));have aQ:=z.len;rw[R];omega
def ie{Kz:W}{Kl:V}(d:B w w x)(h:w<=a):B w w (aj x a u):=d.trans ((M.grown (I':=λc=>c=a) (bn _ _ _) (λc f=>X f.symm)).bg d.size λc k f=>O)
def SG(aK k g h:I)(aN:bz)(c aO:N)(b9 a5:V)(m:ai)(G:ag)(t:W)(b':c<=1000000)(ca:bt t b9 m)(cc:ba t a5 G)(cd:L G<=1000000):ap ab 257 #[ao #[aK,k,g,h,S aN c aO,b9],a5] t (hs t (e2 c m k g h G).2 (e2 c m k g h G).1):=by
 obtain⟨df,cC,bl,ce,cD⟩:=bR t aK k g h (S aN c aO) b9;obtain⟨bK,cE,cf,bL,bM,ch⟩:=cP df (S Z 0 0);obtain⟨cF,cG,bm,bo,aC,aD⟩:=cP bK (S Z 0 0);rw[ce]at bM ch bL;rw[bL]at aC aD bo;have ci:=q bl (q cf bm);have cj:=cD.bw (q cf bm);have ck:=s bm bM;have cl:=aY bm (aR _ _ bM) ch;have dg:=Q (qZ a5 G cF (cc.bw ci) cd);have bO:=Q (λ(u:W) (P:B t t u)=>ca.bw P);obtain⟨a8,a9,be,rfl,_,_,_⟩:=ca.open;obtain⟨dW,dX,dY,rfl,_,_,_⟩:=cc.open;obtain⟨l,R⟩:=K (t:N);rw[<-R]at bO ck cl aC aD cj;have dh:H ((cF:N)=l+3):=Q O;have dZ:=cd;have cH:=Q (U ck cl);have cI:=Q (U aC aD);have dj:=Q cj;change H _ at cC cE cG ci;change H _ at R;clear ca cc bl cf bm bo cD cj bM ch ck cl aC aD cd;go_in;go_upto_region 1 with fail;rw[cC,cE];go_upto_region 2 with fail;rw[cG];try rw[bL]
 try rw[ce]
 clear ce bL;rw[<-R];try simp only[Nat.add_assoc,Nat.reduceAdd]
 go_wp2_with fail;refine mF dg λcJ dk dl a0 ⟨cK,a1⟩=>?_;have bo:=dh.oo;have cL:ld l aK k g h (S aN c aO) (S a8 a9 be) c m k g h G (S dk dl a0) (S Z 0 0) [] G cJ:=⟨dj.bw a1,s a1 cH.1,aY a1 O cH.2,s a1 cI.1,aY a1 O cI.2,by rw[<-bo];exact cK,λdm _ _=>jQ dm,J,by simp[a6],D⟩
 have cM:B l t cJ:=by rw[R];exact q ci a1
 change H _ at cL cM;clear bo cK a1;go_wp2;go_loopw [7] (λcm wr=>∃(left:ag) (v:ar) (cN:V),ld l aK k g h (S aN c aO) (S a8 a9 be) c m k g h G cm cN v left wr/\B l t wr) (λcm _=>z3 cm);exact⟨_,_,_,cL,cM⟩;obtain⟨left,v,cN,n,aP⟩:=hrel;obtain⟨ad,rfl⟩:=K wr;have bS:l<=(ad:N):=bi aP.size R.oo
 obtain⟨dn,ay,bq,rfl,bh,_,cn⟩:=n.lf.di.open;obtain⟨w,x,y,rfl,_,_,_⟩:=n.off.now.open;have dq:=n.a6;have d0:=n.len;have dr:ay<=1000000:=O
 by_cases d1:0<ay
 ·have d2:(0:I)<(ay:I):=by omega
  obtain⟨o,rfl⟩:∃o,dn=A ⟨o,0,Z⟩:=by rcases bW n.lf with⟨i,_⟩|⟨o,_,i,_⟩<;>simp only[bf]at i;omega;exact⟨o,i.1⟩
  obtain⟨br,bs,bu,bv,a0,bx⟩:=n.inst;have a3:=n.d;have co:=zw (I9:=c) (I0:=m) (Kv:=k) (Jv:=g) (JV:=h) (Jj:=v) (JU:=left) O;have cQ:=Rp (I9:=c) (I0:=m) (Kv:=k) (Jv:=g) (JV:=h) (Jj:=v) (JU:=left) O;have dv:=Q (zc aK k g h aN c aO (S a8 a9 be) (S w x y) m v ad b' (bO ad aP) n.off.now O);have cR:=Q (λ(u:W) (cS cT a5 cW:V) (cp:Bool) (cq:I) (P:B ad ad u) (bT:j8 u c m g h v (S w x y) cS cp cT cq a5 cW)=>QX aK k g h aN c aO (S a8 a9 be) (S w x y) cS cT a5 cW (S (A ⟨o,0,Z⟩) ay bq) cp cq m v left u b' bT (bO u (aP.trans (P.mono bS))) O (n.lf.di.bw P) O);obtain⟨ae,bA⟩:=K (cO c m k g h v left);rw[cQ,<-bA]at cR;rw[<-bA,bh]at co;have dw:=Q (λ(u:W) (aQ aS:I) (P:B ad ad u)=>ul aK k g h aN c aO (S a8 a9 be) (S w x y) m v aQ aS u b' (bO u (aP.trans (P.mono bS))) (n.off.now.bw P) O O);have dx:=Q (λ(u:W) (P:B ad ad u)=>Rh (l+3) o ay bq ae left u bh.symm co dr (n.lf.bw P));have bB:=Q (λ(cX aE:W) (cY:V)=>n.round (W1:=cX) (W':=aE) (tv':=cY) O);rw[<-bA]at bB;have bC:=Q n;have dy:=Q aP;have cZ:=Q (U bA bh);have dz:=Q cn;clear n aP cQ bA bh cn;go_wp2_with fail;refine dv.mono ?_;rintro i dA ⟨d3,d4,d5,cp,d6,d7,d8,cq,d9,d',ea,eb,ec,ed,rfl,bT,cr,_⟩;have dB:=Q (cR.oo dA _ _ _ _ _ _ cr bT);change H _ at cr;clear br bs bu bv a0 bx a3 bT;go_wp2_with fail;refine mU dB λj c1=>?_;have a4:=q cr c1;have bV:=bC.bw a4;obtain⟨br,bs,bu,bv,a0,bx⟩:=bV.inst;have a3:=bV.d;obtain⟨ee,ef,c2,aV,f1⟩:=dz ae co;simp only[a2,bN]at c2;obtain⟨rfl,rfl,_⟩:=c2;have aV:=s a4 aV;have f1:=s a4 f1;rw[bX]at aV f1;obtain⟨⟨aQ,aS⟩,cs⟩:=K (al left ae);rw[<-cs]at aV f1 bB;try simp only at aV f1 bB
  obtain⟨c3,bY⟩:=K ((c0 c m k g h v (aQ,aS)).1);obtain⟨bZ,b2⟩:=K (dF v aQ aS (c0 c m k g h v (aQ,aS)));have ct:=Q (λ(u:W) (P:B (j:N) j u)=>dw.oo u aQ aS (a4.trans (P.mono a4.size)));rw[show eG (cU c m k g h v aQ aS)=c0 c m k g h v (aQ,aS)from J,<-b2,<-bY]at ct;rw[<-b2,<-bY]at bB;have cu:=Q a4;have dC:=Q bV;have dD:=Q (U bY b2);have eg:=aJ ae;have eh:(ae:I)<(ay:I):=O
  change H _ at cs;clear bY b2 bV a4 c1;go_upto_region 5 with fail;go_cut [9,10] (λdE dG cv=>∃bD c4 bE b,dE=aM (A ⟨bD,0,Z⟩)/\dG=au c3/\C cv ⟨bD,0,Z⟩=A (S c4 bE b)/\aI bb (λb=>b<(j:N)) cv (S c4 bE b) bZ/\B j j cv/\j<=bD);case first=>
   refine i' ((.p 2 (.p 3 (.p 4 (.r 0 (.r 1 (.r 5 (.f 6 (.p 7 (.p 8 (.p 9 (.a 10 (.z 11 (.p 12 .d)))))) 10 (.a 6 (.p 7 (.p 8 (.p 9 (.z 11 (.p 12 .d)))))))))))))) (dp j) aT aT (.mk nH) ?_;iterate 6 refine mS ?_
   refine gN (λb3 aF=>?_) (λb3 aF=>?_)
   ·go_simp;refine mF (ct _ (an _)) λe ah ak am ⟨bF,aA⟩=>?_;have aW:B j j e:=q (an j) aA;refine aF _ _ (.mk aW) ?_;iterate 3 refine mS ?_
    obtain⟨av,dH,b5,ei,Cm,CC⟩:=cP e (S Z 0 0);have bG:=q aW b5;refine aU λb3 aF=>?_;go_simp;try rw[dH]
    refine aF _ _ (.mk bG) ?_;clear br bs bu bv a0 bx a3 aV f1;have Cr:(aj av e (S ah ak am)).cell? e=A (S ah ak am)/\aI bb (λb=>b<(j:N)) (aj av e (S ah ak am)) (S ah ak am) bZ/\B j j (aj av e (S ah ak am)):=⟨bP _ _ _ kz,(bF.bw (ie (Kl:=undef) (Kz:=t) b5 (aL _))).mono λb ax=>ax,ie (Kl:=undef) (Kz:=t) bG aW.size⟩
    iterate 2 refine mS ?_
    refine bc ?_;clear Cm CC;go_wp2;go_meet;exact⟨_,_,_,_,J,J,Cr.1,Cr.2.1,Cr.2.2,aW.size⟩
   obtain⟨e,dI,aA,ej,Cm,CC⟩:=cP j (S Z 0 0);have aW:B j j e.drew:=q aA (an _);go_simp;try rw[dI]
   refine aF _ _ (.mk aW) ?_;refine aU λb3 aF=>?_;go_simp;refine mF (ct _ (by first|exact aW|exact q aW (an _)|exact aA)) λav ah ak am ⟨dK,b5⟩=>?_;have cw:B e e av:=q (an e) b5;have bG:=q aA cw;refine aF _ _ (.mk bG) ?_;clear br bs bu bv a0 bx a3 aV f1;iterate 3 refine mS ?_
   have Cm:=s cw Cm;have CC:=aY cw O CC;have c5:(j:N)<e.drew:=by show (j:N)<e;omega
   have Cr:(aj av j (S ah ak am)).cell? j=A (S ah ak am)/\aI bb (λb=>b<(j:N)) (aj av j (S ah ak am)) (S ah ak am) bZ/\B j j (aj av j (S ah ak am)):=⟨bP _ _ _ kz,dK.set _ _ c5 (λb ax=>Nat.lt_trans ax c5),ie (Kl:=undef) (Kz:=t) bG (aL _)⟩
   exact wb
  obtain⟨bD,cx,cy,cz,rfl,rfl,Cm,bF,aA,ek⟩:=hcut;obtain⟨e,rfl⟩:=K wc;clear br bs bu bv a0 bx a3 aV f1;have aG:=dC.bw aA;have bk:=q cu aA;have bH:=dy.trans (bk.mono bS);have c6:l<=(e:N):=Y bk.size
  cases c3 with
   |false=>
    have aX:=aG.eq;obtain⟨bE,c7⟩:∃bE,left.length=bE+1:=⟨left.length-1,Y cZ.2⟩
    rw[c7,iN,<-cZ.1,<-cs,<-dD.1]at aX;simp only[gL,if_false]at aX;have a3:=aG.d;have Ct:=aG.res;have dL:=aG.fQ;have bI:(e.setCell ⟨l+1,0,none⟩ (.slice w x y)).cell? ⟨l+1,0,none⟩=some (.slice w x y):=World.cell?_setCell_same' _ _ _ mO;have bJ:hs t (e2 c m k g h G).2 (e2 c m k g h G).1 (aq (aZ #[ao #[S w x y],au F])) (aj e ⟨l+1,0,Z⟩ (S w x y)):=by rw[<-aX];exact⟨_,_,_,rfl,aG.off.set _ _ (.inl D) (λb ax=>.inl (Y R.oo)),by rw[<-R.oo];exact bH.trans ((M.grown (I':=λb=>b=l+1) (bn _ _ _) (λb i=>X i.symm)).bg c6 λb ax i=>O)⟩
    change H _ at bJ bI;clear aX c7 aG bk bH Cm bF aA;go_wp2_with fail;have cA:=bI.oo;exact b0 (v:=aZ #[ao #[S w x y],au F]) (by simp[results,results257,go_sem,cA]) J bJ
   |true=>
    have c8:=dx e.drew (q bk (an _));have c9:∀aE,rM (l+3) o ay bq e.drew (left.eraseIdx ae) (.returned (.slice (some ⟨o,0,none⟩) (ay-1) bq)) aE->ld l (.int .i64 aK) (.int .i64 k) (.int .i64 g) (.int .i64 h) (.slice aN c aO) (.slice a8 a9 be) c m k g h G (.slice (some ⟨o,0,none⟩) (ay-1) bq) (.slice cx cy cz) bZ (left.eraseIdx ae) (aE.setCell ⟨l+2,0,none⟩ (.slice cx cy cz))/\Below l t (aE.setCell ⟨l+2,0,none⟩ (.slice cx cy cz)):=by
     intro aE ⟨_,dM,c'⟩;have dN:=q bk (an e);refine⟨bB _ _ _ dN J (bF.bw (an _)|>.mono λb ax=>cg ax cu.size) dM c',?_⟩;have dO:M (λb=>b=o) e.drew aE:=M.grown c' λ_ i=>X i.symm
     have el:=bC.lf.lt o J;have bl:B l t aE:=(bH.trans ((an e).mono c6)).trans (dO.bg (by have:=bH.size;have:=R.oo;have:(e.drew:N)=e:=J;have:=bC.d;omega) λb ax i=>O);exact bl.trans ((M.grown (I':=λb=>b=l+2) (bn _ _ _) (λb i=>X i.symm)).bg (bi bl.size R.oo) λb ax i=>O)
    have aC:=aG.d;have aD:=aG.z4;have da:l+2≠o:=λi=>Y ((bC.lf.lt o J).1)
    have dP:bD≠o:=λi=>bi ((bC.lf.lt o J).2) cu.size
    have dQ:=bU.cell (G:=λb=>b=o) Cm dP;have dR:=Q c8;have cB:=Q (U aC aD);change H _ at c9;clear aG bk bH Cm bF aA c8 aC aD;go_upto_region 8 with fail;refine od (λb=>b=o) [1,2,3,4,100,205,306,7] ?_;iterate 4 refine mS ?_
    try simp only[dJ]
    try rw[show aB ((ae:I)+1)=(ae:I)+1 from cV O O]
    refine mS ?_;refine aU λb3 aF=>?_;go_simp;try rw[show aB ((ae:I)+1)=(ae:I)+1 from cV O O]
    refine dR.mono ?_;rintro i av db;obtain⟨dc,dd⟩:=c9 av (by obtain⟨_,dS,dT⟩:=db;exact⟨J,dS,dT⟩);obtain⟨rfl,dU,de⟩:=db;have b8:M (λb=>b=o) e av:=(M.bw (I':=λ_=>False) (an e)).trans (M.grown de (I':=λb=>b=o) λ_ i=>X i.symm) (λ_ _ i=>i.elim) (λ_ _ i=>i);refine aF _ _ (.mk b8) ?_;clear dQ;have aC:=b8.cell cB.1 da;have aD:=b8.free cB.2 (aR _ _ cB.1) da;change H _ at dc dd;clear dU de b8;refine mS ?_;clear aC aD;refine mS ?_;refine bc ?_;go_wp2;go_roundw;exact⟨_,_,_,dc,dd⟩;simp only[z3];omega
 have dV:ay=0:=O
 subst dV;have aX:=n.eq;rw[bh,iN]at aX;have a3:=n.d;have Ct:=n.res;have dL:=n.fQ;have bI:(ad.setCell ⟨l+1,0,none⟩ (.slice w x y)).cell? ⟨l+1,0,none⟩=some (.slice w x y):=World.cell?_setCell_same' _ _ _ mO;have bJ:hs t (e2 c m k g h G).2 (e2 c m k g h G).1 (aq (aZ #[ao #[S w x y],au T])) (aj ad ⟨l+1,0,Z⟩ (S w x y)):=by rw[<-aX];exact⟨_,_,_,rfl,n.off.set _ _ (.inl D) (λb ax=>.inl (Y R.oo)),by rw[<-R.oo];exact aP.trans ((M.grown (I':=λb=>b=l+1) (bn _ _ _) (λb i=>X i.symm)).bg bS λb ax i=>O)⟩
 change H _ at bJ bI;clear aX n aP cn bh dq;go_wp2_with fail;have cA:=bI.oo;exact b0 (v:=aZ #[ao #[S w x y],au T]) (by simp[results,results257,go_sem,cA]) J bJ
def z5(a:ar):a6 (a.filter λb=>decide (b≠[]))<=a6 a:=by
 unfold a6;induction a with
  |nil=>simp
  |cons b a c=>rw[List.filter_cons];split<;>simp only[dE,d5]<;>omega
def z6(b:N)(I0:ai)(c d e:I)(a:ag):a6 (hq b I0 c d e a)<=L a:=by have f:=gt.start a (L a:I);have g:=gt.fold (I9:=b) (I0:=I0) (veh:=c) (cap:=d) (len:=e) (f0 I0 (cF (a.map (·.1)))) (λJ4 h=>vA) _ f;have i:=g.1.sum;unfold hq ro;refine a1 (z5 _) ?_;rw[i];exact aL _
def uz(a:ag):a6 (dT a)=L a:=by
 unfold a6 dT;induction a with
  |nil=>rfl
  |cons c a b=>simp only[dE,d5,dx,et]at b⊢;omega
def SH(b:N)(c:ai)(d e f:I)(g:N):∀(a:ar)(left:ag),a6 (iN b c d e f g a left).2<=a6 a+g:=by
 induction g with
  |zero=>intro a left;simp[iN]
  |succ g h=>intro a left;rw[iN];split;have i:=h (dF a (al left (cO b c d e f a left)).1 (al left (cO b c d e f a left)).2 (c0 b c d e f a (al left (cO b c d e f a left)))) (left.eraseIdx (cO b c d e f a left));have j:=ow (I9:=b) (I0:=c) (Kv:=d) (Jv:=e) (JV:=f) (Jj:=a) (al left (cO b c d e f a left));omega;simp
def z7(b:N)(c:ai)(d e f:I)(a:ag):a6 (e2 b c d e f a).2<=L a:=by have:=SH b c d e f (L a) [] a;unfold e2;simpa[a6]using this
def aI.oT{d:Type}{e:W->V->d->Prop}{J0:N}{f:d}(g:aI e (λc=>c<J0) w u f)(j:b<J0)(l:a<=J0):aI e (λc=>c<a) (aj w b v) u f:=g.set _ _ j (λc n=>cg n l)
def fR(e:B a w x)(k:a<=b)(j:a<=w):B a w (aj x b u):=e.trans ((M.grown (I':=λd=>d=b) (bn _ _ _) (λd h=>X h.symm)).bg (a1 j e.size) λd n h=>O)
def uA(G M:N)(P R j k d:I)(t u l:V)(m:ai)(e:ar)(a:W)(X:∃aG v aJ,t=S aG v aJ)(ad:ci a G P R j k t u)(ae:C a ⟨M,0,Z⟩=A (aa ac d))(w:bt a u m)(x:bb a l e)(aK:a6 e<=1000000)(aN:d<=1000000):ap ab 250 #[ao #[l],aM (A ⟨G,0,Z⟩),aM (A ⟨M,0,Z⟩)] a (qJ a (dr m j k e d.toNat)):=by
 have⟨aO,ag,ah,ak,al,am⟩:=cP a l;have⟨y,an,n,av,f,o⟩:=cP aO (S Z 0 0);rw[ak]at f o av;have b:=q ah n;have aP:=ad.bw b;have aQ:=s b ae;have ax:=s n al;have ay:=aY n O am;have aR:=Q (yg P R j k d t u l m e y X (w.bw b) (x.bw b) aK aN);obtain⟨a3,a4,a5,rfl⟩:=X;obtain⟨a8,a9,ba,rfl,_,_,_⟩:=w.open;obtain⟨bc,be,bf,rfl,_,_,_⟩:=x.open;obtain⟨aS,aT,aU,aV,aW,aX⟩:=aP;have p:=Q (U ax (U ay (U f o)));have z:H (y.heap.size=a.heap.size+2):=Q O;have aA:=Q b;change H _ at ag an;clear b;clear w x ah n ak av ad al am f o ay ae;go_in;go_upto_region 1 with fail;rw[ag,an];go_wp2_with fail;refine aR.mono ?_;rintro bg a0 ⟨g,h,i,bh,rfl,aC,c⟩;have bi:=s c p.1;have bk:=aY c (Y z.oo) p.2.1;have f:=s c p.2.2.1;have o:=aY c (Y z.oo) p.2.2.2;have⟨aD,r⟩:=K ((aj a0 ⟨a.heap.size,0,Z⟩ (S g h i)).setCell ⟨a.heap.size+1,0,Z⟩ (S g h i));have aE:qJ a (dr m j k e d.toNat) (aq (ao #[S g h i])) aD:=by rw[r];have bl:=z.oo;have a1:=aA.trans (c.mono aA.size);refine⟨_,_,_,J,aI.oT (J0:=a.heap.size+2) (aI.oT (J0:=y.heap.size) aC O O) O O,?_⟩;exact fR (fR a1 (aL _) (aL _)) O (aL _)
 have aF:C aD ⟨a.heap.size+1,0,Z⟩=A (S g h i):=by rw[r];exact bP _ _ _ (by rw[cq _ _ _ _ D,f];rfl)
 change H _ at aE aF;change H _ at r;clear aC c aS aT aU aV aW aX aQ ax;go_wp2_with fail;try rw[<-r]
 have a2:=aF.oo;exact b0 (v:=ao #[S g h i]) (by simp[results,results250,go_sem,a2]) J aE
def SI(l:N)(i:V)(b:ag)(a:W)(m:C a l=A i)(j:ba a i b)(y:L b<=1000000):ap ab 251 #[aM (A l)] a (hs a (dT b) T):=by
 have⟨n,o,c,k,p,q⟩:=cP a (S Z 0 0);have z:=s c m;have D:=Q (xF i b n (j.bw c) y);obtain⟨P,R,X,rfl,_,_,_⟩:=j.open;have r:=Q (U p q);have t:=Q c;change H _ at o k;clear c;clear j m p q;go_in;go_upto_region 1 with fail;rw[o];go_wp2_with fail;refine mF D λG d e f ⟨u,g⟩=>?_;have Ct:=s g r.1;have ad:=aY g (Y k.oo) r.2;have⟨v,h⟩:=K (aj G a (S d e f));have w:hs a (dT b) T (aq (aZ #[ao #[S d e f],au T])) v:=by rw[h];have ae:=k.oo;exact⟨_,_,_,J,aI.oT (J0:=(n:N)) u O O,fR (t.trans (g.mono t.size)) (aL _) (aL _)⟩
 have x:C v a=A (S d e f):=by rw[h];exact bP _ _ _ mO
 change H _ at w x;change H _ at h;clear u g z;go_wp2_with fail;try rw[<-h]
 have M:=x.oo;exact b0 (v:=aZ #[ao #[S d e f],au T]) (by simp[results,results251,go_sem,M]) J w
def ig(d:N)(e:ai)(f g h:I)(c:I):ag->aV->Bool×aV
 |[],b=>(T,b)
 |a::i,b=>if(c0 d e f g h (aC b a.1.toNat) (c,a.2)).1 then ig d e f g h c i (b.set a.1.toNat (dF (aC b a.1.toNat) c a.2 (c0 d e f g h (aC b a.1.toNat) (c,a.2))))else(F,[])
def hw(a:a0)(d:ai)(e c f:I)(h b:N)(g:aV):Bool×aV:=if(eJ (aQ a b) c (g.map (eo (L a) d e c f b (jq (aQ a b)))) h).2 then ig (L a) d e c f b (eJ (aQ a b) c (g.map (eo (L a) d e c f b (jq (aQ a b)))) h).1 g else(F,[])
def fl(a:W)(b:Bool×aV)(g:bp)(c:W):Prop:=∃d e f,g=aq (aZ #[ao #[S d e f],au b.1])/\aI bq (λh=>h<(a:N)) c (S d e f) b.2/\B a a c
def uB(c:aV)(a b:N)(f:ar)(d:a<L c):aC (c.set a f) b=if b=a then f else aC c b:=by unfold aC;by_cases e:b=a;subst e;simp[List.getD,d];rw[ak e];simp[List.getD,List.getElem?_set_ne (λd=>e d.symm)]
structure le(c g:N)(h f1 i j k l:V)(m:N)(n:ai)(o p r:I)(s:I)(t:N)(u:ag)(v:Bool×aV)(d:N)(e:V)(w:aP)(a:aV)(x:N)(b:W):Prop where
 inst:ci b c h f1 i j k l
 res:C b ⟨c+2,0,Z⟩=A (S Z 0 0)
 fQ:aH b ⟨c+2,0,Z⟩=F
 q:C b ⟨x,0,Z⟩=A e
 own:f5 g b e w a
 ln:L a=t
 eq:ig m n o p r s (u.drop d) a=v
 a6:∀f,a6 (aC a f)<=800000+d/\(aC a f).length<=800000+d
def le.bw{m n o p:V}{r:ai}{t:ag}{z:Bool×aV}{D:aP}{G:aV}(f:le a b u v y m n o g r i j k l d t z e p D G c w)(h:B w w x):le a b u v y m n o g r i j k l d t z e p D G c x:=⟨f.inst.bw h,s h f.res,aY h (aR _ _ f.res) f.fQ,s h f.q,f.own.bw h,f.ln,f.eq,f.a6⟩
def le.round{o n p r t k e u d:Nat}{v f1 w y z D tv':Value}{f:Nat}{g:List (List Int)}{h i j c:Int}{l:List (Int×Int)}{G:Bool×List (List (List (Int×Int)))}{H:List Value}{a:List (List (List (Int×Int)))}{m:World}{Jk:Int×Int}(b:le o n v f1 w y z D f g h i j c r l G k (.slice (some e) t u) H a p m)(ak:k<l.length)(R:l.drop k=Jk::l.drop (k+1))(U:Jk.1=(d:Int))(Y:d<r)(ad:(c0 f g h i j (aC a d) (c,Jk.2)).1=true)(ae:aI bb (λx=>x<n\/x=e) m tv' (dF (aC a d) c Jk.2 (c0 f g h i j (aC a d) (c,Jk.2))))(al:o+3<=n)(ag:p≠e):le o n v f1 w y z D f g h i j c r l G (k+1) (.slice (some e) t u) (H.set d tv') (a.set d (dF (aC a d) c Jk.2 (c0 f g h i j (aC a d) (c,Jk.2)))) p (m.setCell ⟨e,d,none⟩ tv'):=by
 have an:=bI b.own.1 e J;have s:M (λx=>x=e) m (m.setCell ⟨e,d,none⟩ tv'):=M.grown (bn _ _ _) (λx ah=>X ah.symm);have K:d<a.length:=by rw[b.ln];exact Y
 have P:=b.eq;rw[R,ig,U,cW,am ad]at P;refine⟨b.inst.bl s O,s.cell b.res O,?_,s.cell b.q ag,b.own.put K ae,by rw[b'];exact b.ln,P,λQ=>?_⟩;rw[bs];exact b.fQ;rw[uB a d Q _ K];split;have ai:=ow (I9:=f) (I0:=g) (Kv:=h) (Jv:=i) (JV:=j) (Jj:=aC a d) (c,Jk.2);have av:=pS (aC a d) c Jk.2 (c0 f g h i j (aC a d) (c,Jk.2));have ax:=b.a6 d;simp only at ai;omega;have:=b.a6 Q;omega
def SJ(g b:Nat)(j e k:Int)(cn co b5:Value)(h:List Cu)(o:List (List Int))(w:List (List (List (Int×Int))))(l:World)(cZ:bG l cn h)(c1:h.length<=1000000)(bu:b<h.length)(c2:dR g (aQ h b))(dw:g<=64)(cp:bt l co o)(ay:bq l b5 w)(dx:w.length=g)(cq:∀aA,a6 (aC w aA)<=800000/\(aC w aA).length<=800000)(cr:∀n∈w.map (eo h.length o j e k b (jq (aQ h b))),0<=n/\n<=9007199254740992):Calls prog 231 #[.agg #[.int .i64 g,.int .i64 j,.int .i64 e,.int .i64 k,cn,co],.agg #[b5],.int .i64 b] l (fl l (hw h o j e k g b w)):=by
 obtain⟨eM,dy,dz,dA,dB⟩:=bR l (g:I) j e k cn co;obtain⟨cs,dC,c3,c4,c5⟩:=ec eM b5;obtain⟨bx,dD,ct,dE,bl,bH⟩:=gB cs (S Z 0 0);rw[dA]at c5 c4;rw[c4]at bl bH dE;have cu:=q dz (q c3 ct);have c6:=dB.bw (q c3 ct);have dG:=s ct c5;have dH:=Q (λ(c:W) (t:B l l c)=>cp.bw t);have eN:=Q (λ(c:W) (t:B l l c)=>ay.bw t);have c7:eE w:=λaA=>⟨a1 (cq aA).1 av,a1 (cq aA).2 av⟩
 have cv:=Q (λ(c:W) (t:B l l c)=>Rs g j e k cn co b5 h o w b c (cZ.bw t) c1 bu (cp.bw t) (ay.bw t) c7);have dI:=Q (λ(c:W) (bJ b6:V) (bz:ad) (hp:cA c bJ (aQ h b).ps) (cw:aX c b6 bz) (a2:∀n∈bz,0<=n/\n<=9007199254740992)=>uy (aQ h b) bJ b6 e g bz c c2 dw hp cw a2);have dJ:=Q (λ(c:W) (t:B l l c)=>un b5 w c (ay.bw t) c7);have bA:=rW (IZ:=aQ h b) (Jv:=e) (Jd:=w.map (eo (L h) o j e k b (jq (aQ h b)))) c2 dw;have bB:hw h o j e k g b w=if(eJ (aQ h b) e (w.map (eo (L h) o j e k b (jq (aQ h b)))) g).2 then ig (L h) o j e k b (eJ (aQ h b) e (w.map (eo (L h) o j e k b (jq (aQ h b)))) g).1 w else(F,[]):=J;have dK:=cZ.bw cu;obtain⟨cx,cy,cz,rfl,_,_,_⟩:=cp.open;obtain⟨fx,ag,cB,rfl,dL,_,dM⟩:=dK.open;rw[dL]at c1 bu bA bB cv cr;obtain⟨cC,cD,bJ,rfl,_,cE⟩:=dM b bu;obtain⟨fy,fz,fA,rfl,_,_,_⟩:=ay.open;obtain⟨bz,dN⟩:=K (w.map (eo ag o j e k b (jq (aQ h b))));rw[<-dN]at bA bB cv cr;obtain⟨⟨a4,dO⟩,dP⟩:=K (eJ (aQ h b) e bz g);have cF:=Q (λ(c:W) (b6:V) (hp:cA c bJ (aQ h b).ps) (cw:aX c b6 bz)=>dI c bJ b6 bz hp cw cr);rw[<-dP]at cF bA bB;simp only at cF bA bB;obtain⟨bC,dQ⟩:=K (hw h o j e k g b w);rw[<-dQ]at bB⊢;obtain⟨eO,dS⟩:=K (aQ h b);rw[<-dS]at cE cF;obtain⟨⟨fB,fC,fD,rfl⟩,_⟩:(∃ae g ah,bJ=S ae g ah)/\True:=⟨by obtain⟨ae,ah,u,_⟩:=cE.ft;exact⟨ae,_,ah,u⟩,trivial⟩
 obtain⟨x,c8⟩:=K (l:N);rw[<-c8]at dH eN cv dJ c6 dG bl bH;have y:=Q (U c8 (bh ((bx:N)=x+3)));have eP:=Q (λ(c:W) (dT:V) (aD:ar) (ai:I) (t:B x l c) (eQ:bb c dT aD) (cG:a6 aD<=1000000) (eR:L aD+1<=1000000)=>ul g j e k (A ⟨cC,cD,Z⟩) ag cB (S cx cy cz) dT o aD b ai c c1 (dH c t) eQ cG eR);have eS:=Q cE;have eT:=Q c6;have c9:=Q (U dG (U bl bH));have cH:=Q (U dx cq);obtain⟨bK,bL,bM,bN,bO,bS⟩:=c6;obtain⟨dU,dV,dW,dX,d0,d1,d2,d3,_⟩:=cE;have eV:=aJ b;have eW:(b:I)<ag:=O
 change H _ at dy dC dD cu bB bA;clear cZ dK cp ay dz c3 ct dA c4 dE dB dM dx cq cr c7 c2 dL dN dP dQ dS c5 bl bH c8 dI;go_in;go_upto_region 1 with fail;rw[dy,dC,dD];rw[<-y.1];go_upto_region 1 with fail;go_cut [8,9] (λKl b7 bT=>∃ae b8 ah,Kl=S ae b8 ah/\b7=au dO/\dv bT x (S ae b8 ah) a4/\B bx bx bT);case first=>
  refine bv [0,2,5,7,11,101,3,104,106,108,109,110,212,213,14,15,16,17,18] ?_;iterate 12 refine mS ?_
  refine aU λb9 aG=>?_;go_simp;have cI:B x l bx:=by have ay:=cu.oo;rw[<-y.1]at ay;exact ay
  refine mE (cv _ (cI.trans ((an bx).mono (Y y.oo)))) λeX eY ⟨d4,eZ⟩=>?_;obtain⟨fE,fF,fG,rfl⟩:∃ae g ah,eY=S ae g ah:=gM d4;have cJ:=q (an bx) eZ;refine aG _ _ (.mk cJ) ?_;refine aU λb9 aG=>?_;go_simp;refine mE (cF eX _ (eS.ft.bw cJ) d4.ints) λfH e0 ⟨b',e1⟩=>?_;obtain⟨fI,fJ,fK,rfl⟩:∃ae g ah,e0=S ae g ah:=by rcases bW b' with⟨rfl,_⟩|⟨_,_,rfl,_⟩<;>exact⟨_,_,_,J⟩
  have d5:=q cJ e1;refine aG _ _ (.mk d5) ?_;clear bK bL bM bN bO bS dU dV dW dX d0 d1 d2 d3;iterate 5 refine mS ?_
  refine bc ?_;go_wp2;go_meet;exact⟨_,_,_,J,J,b'.mono (bi cJ.size y.oo),d5⟩
 obtain⟨e2,bD,e3,rfl,rfl,b',bE⟩:=hcut;obtain⟨ak,rfl⟩:=K wc;clear bK bL bM bN bO bS dU dV dW dX d0 d1 d2 d3;have a5:=y.2;have a8:=bE.size;have cI:B x l bx:=by have ay:=cu.oo;rw[<-y.1]at ay;exact ay
 have d6:=cI.trans (bE.mono O);have e4:=s bE c9.1;have c':=s bE c9.2.1;have d7:=aY bE O c9.2.2;have bU:=bB.oo;have e5:=Q (eT.oo.bw bE);have ca:=Q d6;have d8:=Q (U c' d7);have e6:=Q b';clear bE d6 cI b';cases dO with
  |false=>
   simp only[gL,if_false]at bU;have HV:(ak.setCell ⟨x+2,0,none⟩ (.slice none 0 0)).cell? ⟨x+2,0,none⟩=some (.slice none 0 0):=World.cell?_setCell_same' _ _ _ (by rw[c'];rfl);have m:fl l bC (aq (aZ #[ao #[S Z 0 0],au F])) (aj ak ⟨x+2,0,Z⟩ (S Z 0 0)):=by rw[bU];exact⟨_,_,_,J,λda _ _=>m2 da,by rw[<-y.oo.1];exact fR ca.oo O (Y y.oo.1)⟩
   change H _ at m HV;clear bU a5 a8;exact wk
  |true=>
   simp only[if_true]at bU;have d9:=dJ ak ca;have e7:=Q d9;have e8:=Q bU;have cc:=Q (U a5 a8);clear bU d9 a5 a8;go_wp2_with fail;refine e7.mono ?_;rintro u db ⟨a9,am,be,cd,rfl,ce,dc⟩;obtain⟨e9,d',dd,e',eb⟩:=ec db (S a9 am be);have cf:=q dc dd;have a5:=cc.1;have a8:=cc.2;have fa:=dc.size;have de:am=g:=by have cw:=ce.len;rcases bW ce.1 with⟨u,fb⟩|⟨_,_,u,_⟩<;>simp only[bf]at u;have:=cH.1;omega;have:=cH.1;omega
   have df:le x ak (g:I) j e k (S (A ⟨cC,cD,Z⟩) ag cB) (S cx cy cz) ag o j e k b g a4 bC 0 (S a9 am be) cd w db e9:=⟨e5.bw cf,s cf d8.1,aY cf O d8.2,eb,ce.bw dd,cH.1,by rw[List.drop_zero];exact e8.symm,λaA=>Y (cH.2 aA)⟩
   obtain⟨cg,cK⟩:=K (db:N);rw[<-cK]at df;have fL:ak<=cg:=O
   have fc:=Q (λn (u:(S a9 am be).ownBlock=A n)=>(by rw[cK];exact(bI ce.1 n u).2:n<cg));have fd:ba ak (S e2 bD e3) a4:=e6.sk;obtain⟨_,_,_,ed,dg,_,ee⟩:=fd.open;simp only[bf]at ed;obtain⟨rfl,rfl,rfl⟩:=ed;have fM:bD<=64:=Y bA.2
   have ef:=Q (U df cf);change H _ at d' dg ee de;change H _ at cK;clear ce dc dd e' eb cf a5 a8 fa df e4 c' d7;go_upto_region 5 with fail;try rw[d']
   try rw[<-cK]
   go_wp2;go_loopw [12,13,14,15,40] (λae b7 ah G aA wr=>∃(P:N) (eg eh ei ej:V) (cd:aP) (bV:aV),eg=ae/\eh=b7/\ei=ah/\ej=G/\aA=P/\P<=bD/\le x ak (g:I) j e k (S (A ⟨cC,cD,Z⟩) ag cB) (S cx cy cz) ag o j e k b g a4 bC P (S a9 am be) cd bV cg wr/\B ak ak wr) (λ_ _ _ _ aA _=>bD-(aw aA).toNat);exact⟨0,_,_,_,_,_,_,J,J,J,J,J,a3 _,ef.1,ef.2⟩;obtain⟨P,eg,eh,ei,ej,cd,bV,rfl,rfl,rfl,rfl,rfl,fN,R,a2⟩:=hrel;obtain⟨bm,rfl⟩:=K wr;by_cases Ch:P<bD
   ·obtain⟨fO,fP,rfl,ch,f1⟩:=ee P Ch;have ch:=bk a2 (aR _ _ ch) ch;have f1:=bk a2 (aR _ _ f1) f1;have eV:=aJ P;have eW:(P:I)<bD:=by omega
    obtain⟨c,t⟩:=K (al a4 P);rw[<-t]at ch f1;have bX:P<L a4:=by rw[dg];exact Ch
    have dh:a4.drop P=c::a4.drop (P+1):=by rw[List.drop_eq_getElem_cons bX,t,jP bX]
    obtain⟨G,ek,di⟩:=bA.1 c (by rw[t,jP bX];exact dY bX);obtain⟨fS,ai⟩:=c;simp only at ch f1 ek;subst ek;have dj:G<L bV:=by rw[R.ln];exact di
    obtain⟨aO,rfl⟩:∃aO,a9=A ⟨aO,0,Z⟩:=by rcases bW R.own.1 with⟨u,fb⟩|⟨aO,_,u,_⟩<;>simp only[bf]at u;omega;exact⟨aO,u.1⟩
    have el:=bI R.own.1 aO J;have dk:=R.own.cell dj;have ci:=(R.own.2 G dj).now;obtain⟨fe,ff,fg,em,_,_,_⟩:=ci.open;rw[em]at dk ci;have en:=R.a6 G;have ep:cg≠aO:=Y (fc aO J)
    have cL:=Q (λ(fh:W) (er:V) (cM:le x (ak:N) (aa ac g) (aa ac j) (aa ac e) (aa ac k) (S (A ⟨cC,cD,Z⟩) ag cB) (S cx cy cz) ag o j e k b g a4 bC P (S (A ⟨aO,0,Z⟩) am be) cd bV cg fh)=>cM.round (tv':=er) (Jk:=((G:I),ai)) (d:=G) bX dh J di);have bZ:ig ag o j e k b (a4.drop P) bV=bC:=R.eq;rw[dh,ig]at bZ;simp only[cW]at bZ;obtain⟨aD,cG⟩:=K (aC bV G);rw[<-cG]at ci en cL bZ;obtain⟨bF,es,et,eu,ev,ew⟩:∃bF,bm.alloc (az #[(G:I),ai] 224)=bF/\B bm bm bF/\bF.heap.size=(bm:N)+1/\C bF bm=A (aa ac G)/\C bF ⟨bm,1,Z⟩=A (aa ac ai):=⟨_,J,aN _ _,D,aE,aE⟩
    obtain⟨i,ex,cN,fi,u0,u1⟩:=eU bF b ai;rw[eu]at u0 u1;have b2:=q et cN;have cO:=R.bw b2;have b3:=s cN ev;have cQ:=s cN ew;have cj:=s b2 dk;have ey:=ci.bw b2;have dl:=a2.trans (b2.mono a2.size);have dm:=ca.trans (dl.mono (Y cc.oo));have dn:=Q (λ(c:W) (t:B i i c)=>eP c (S fe ff fg) aD ai (dm.trans (t.mono (bi dm.size y.oo))) (ey.bw t) O O);obtain⟨bK,bL,bM,bN,bO,bS⟩:=cO.inst;have cR:=cO.q;have fT:(G:I)<am:=Y de.oo
    have fU:=aJ G;obtain⟨ez,cS⟩:=K ((c0 ag o j e k aD (↑b,ai)).1);obtain⟨dq,cT⟩:=K (dF aD b ai (c0 ag o j e k aD (↑b,ai)));rw[show eG (cU ag o j e k aD b ai)=c0 ag o j e k aD (↑b,ai)from J,<-cT,<-cS]at dn;simp only at cL;rw[<-cT,<-cS]at cL;rw[<-cT,<-cS]at bZ;have fj:=Q cO;have fk:=Q dl;have fm:=Q (U el (U ep (U b2.size a2.size)));have fV:=Q (U b3 cQ);change H _ at es ex;change H _ at bZ;clear R a2 t bX dh di el ep en dk ci ey em cG cS cT et cN b2 eu fi ev ew cO dl dm dj;go_upto_region 9 with fail;rw[es];rw[ex];go_cut [14,15] (λfn b7 bT=>∃cV ae b8 u,fn=aM (A ⟨cV,0,Z⟩)/\b7=au ez/\C bT ⟨cV,0,Z⟩=A (S ae b8 u)/\aI bb (λn=>n<(i:N)) bT (S ae b8 u) dq/\B i i bT/\i<=cV);case first=>
     clear cQ;refine i' ((.p 1 (.p 3 (.r 0 (.r 2 (.r 4 (.p 5 (.r 6 (.r 7 (.f 8 (.p 9 (.p 10 (.p 11 (.a 12 (.z 13 (.p 14 .d)))))) 12 (.a 8 (.p 9 (.p 10 (.p 11 (.z 13 (.p 14 .d)))))))))))))))) (dp i) aT aT (.mk nH) ?_;iterate 8 refine mS ?_
     refine gN (λb9 aG=>?_) (λb9 aG=>?_)
     ·go_simp;refine mF (dn _ (an _)) λv aS aW a0 ⟨ck,ax⟩=>?_;have bo:B i i v:=q (an i) ax;refine aG _ _ (.mk bo) ?_;iterate 3 refine mS ?_
      obtain⟨br,fo,cX,fW,Cm,CC⟩:=cP v (S Z 0 0);have cl:=q bo cX;refine aU λb9 aG=>?_;go_simp;try rw[fo]
      refine aG _ _ (.mk cl) ?_;clear bK bL bM bN bO bS cR b3 cj u0 u1;have Cr:(aj br v (S aS aW a0)).cell? v=A (S aS aW a0)/\aI bb (λn=>n<(i:N)) (aj br v (S aS aW a0)) (S aS aW a0) dq/\B i i (aj br v (S aS aW a0)):=⟨bP _ _ _ kz,(ck.bw (ie (Kl:=undef) (Kz:=l) cX (aL _))).mono λb bu=>bu,ie (Kl:=undef) (Kz:=l) cl bo.size⟩
      iterate 2 refine mS ?_
      refine bc ?_;clear Cm CC;go_wp2;go_meet;exact⟨_,_,_,_,J,J,Cr.1,Cr.2.1,Cr.2.2,bo.size⟩
     obtain⟨v,fp,ax,fX,Cm,CC⟩:=cP i (S Z 0 0);have bo:B i i v.drew:=q ax (an _);go_simp;try rw[fp]
     refine aG _ _ (.mk bo) ?_;refine aU λb9 aG=>?_;go_simp;refine mF (dn _ (by first|exact bo|exact q bo (an _)|exact ax)) λbr aS aW a0 ⟨fq,cX⟩=>?_;have dr:B v v br:=q (an v) cX;have cl:=q ax dr;refine aG _ _ (.mk cl) ?_;clear bK bL bM bN bO bS cR b3 cj u0 u1;iterate 3 refine mS ?_
     have Cm:=s dr Cm;have CC:=aY dr O CC;have eA:(i:N)<v.drew:=by show (i:N)<v;omega
     have Cr:(aj br i (S aS aW a0)).cell? i=A (S aS aW a0)/\aI bb (λn=>n<(i:N)) (aj br i (S aS aW a0)) (S aS aW a0) dq/\B i i (aj br i (S aS aW a0)):=⟨bP _ _ _ kz,fq.set _ _ eA (λb bu=>Nat.lt_trans bu eA),ie (Kl:=undef) (Kz:=l) cl (aL _)⟩
     exact wb
    obtain⟨cV,eB,eC,eD,rfl,rfl,Cm,ck,ax,eF⟩:=hcut;obtain⟨v,rfl⟩:=K wc;clear bK bL bM bN bO bS u0 u1;have eH:=fm.oo;have a5:=y.2;have a8:=cc.2;have bs:=fj.bw ax;have cm:=fk.trans (ax.mono O);have ds:=ca.trans (cm.mono O);have fr:=s ax b3;have fs:=bs.q;have cY:=bZ.oo;cases ez with
     |false=>
      simp only[gL,if_false]at cY;have bl:=bs.res;have bH:=bs.fQ;have HV:(v.setCell ⟨x+2,0,none⟩ (.slice none 0 0)).cell? ⟨x+2,0,none⟩=some (.slice none 0 0):=World.cell?_setCell_same' _ _ _ (by rw[bl];rfl);have m:fl l bC (aq (aZ #[ao #[S Z 0 0],au F])) (aj v ⟨x+2,0,Z⟩ (S Z 0 0)):=by rw[<-cY];exact⟨_,_,_,J,λda _ _=>m2 da,by rw[<-y.oo.1];exact fR ds O (Y y.oo.1)⟩
      change H _ at m HV;clear cY eH a5 a8 bs cm ds fr fs Cm ck ax eF b3 cQ cR cj;exact wk
     |true=>
      have fY:=s ax cj;have fZ:aH v ⟨aO,G,Z⟩=F:=by have cM:=bs.own.1;have fu:=bs.ln;rw[fu,<-de]at cM;exact uk cM G
      have eI:=cL v (S eB eC eD) bs J (ck.mono λn dt=>by rcases dt with u|u<;>omega) O O;have eK:B ak ak (aj v ⟨aO,G,Z⟩ (S eB eC eD)):=cm.trans ((M.grown (I':=λn=>n=aO) (bn _ _ _) (λn u=>X u.symm)).bg cm.size λn dt u=>O);change H _ at eI eK;clear cY eH a5 a8 bs cm ds ck ax eF b3 cQ cR cj;go_wp2;go_roundw;case rel=>exact⟨P+1,_,_,_,_,_,_,J,J,J,J,aK,O,eI,eK⟩
      exact bY
   have fv:P=bD:=O
   subst fv;have du:=R.eq;rw[List.drop_of_length_le (by rw[dg];exact aL _),ig]at du;have f2:=R.q;have bl:=R.res;have bH:=R.fQ;have a5:=y.2;have a8:=cc.2;have eL:=ca.trans (a2.mono O);have HV:(bm.setCell ⟨x+2,0,none⟩ (.slice a9 am be)).cell? ⟨x+2,0,none⟩=some (.slice a9 am be):=World.cell?_setCell_same' _ _ _ (by rw[bl];rfl);have m:fl l bC (aq (aZ #[ao #[S a9 am be],au T])) (aj bm ⟨x+2,0,Z⟩ (S a9 am be)):=by rw[<-du];exact⟨_,_,_,rfl,(R.own.off (by rw[R.ln];omega)).set _ _ aF (λn dt=>Y y.oo.1),by rw[<-y.oo.1];exact fR eL O (Y y.oo.1)⟩
   change H _ at m HV;clear du R a2 eL a5 a8;go_wp2_with fail;have D6:=HV.oo;exact b0 (v:=aZ #[ao #[S a9 am be],au T]) vy J m
end
def SK(b:I)(a:ar):a6 (fN b a (L a))<=a6 a/\(fN b a (L a)).length<=L a:=by
 unfold fN;rw[List.take_length];refine⟨a1 (z5 _) ?_,a1 (List.length_filter_le _ _) (by rw[de];exact aL _)⟩;unfold a6;induction a with
  |nil=>simp
  |cons c a d=>simp only[dE,d5];have:(ic b c).length<=L c:=List.length_filter_le _ _;omega
def SL(b:I)(a:aV):(hu b a).length=L a:=by simp[hu]
def SM(c:I)(a:aV)(b:N):a6 (aC (hu c a) b)<=a6 (aC a b)/\(aC (hu c a) b).length<=(aC a b).length:=by
 by_cases e:b<L a;have d:aC (hu c a) b=fN c (aC a b) (aC a b).length:=by unfold hu aC;simp[List.getD,e]
 rw[d];exact SK c _;have d:aC (hu c a) b=[]:=by unfold hu aC;simp[List.getD,List.getElem?_eq_none (bh ((L a)<=b))]
 rw[d];simp[a6]
def SN{e:ai}:∀(d:ag) (b:aV),(∀f∈d,∃h:N,f.1=(h:I)/\h<L b)->(ig a e i j k l d b).1=T->(ig a e i j k l d b).2.length=L b/\∀c,a6 (aC (ig a e i j k l d b).2 c)<=a6 (aC b c)+L d/\(aC (ig a e i j k l d b).2 c).length<=(aC b c).length+L d:=by
 intro d;induction d with
  |nil=>intro b _ _;exact⟨J,λc=>⟨aL _,aL _⟩⟩
  |cons f M v=>intro b s q;rw[ig]at q⊢;split at q;rename_i w;rw[am w];have⟨h,x,y⟩:=s f (fV ..);rw[x,cW]at q⊢;have t:=v (b.set h (dF (aC b h) l f.2 (c0 a e i j k (aC b h) (l,f.2)))) (λz D=>by have⟨r,G,H⟩:=s z (fs _ D);exact⟨r,G,by rw[b'];exact H⟩) q;refine⟨by rw[t.1,b'],λc=>?_⟩;have u:=t.2 c;rw[uB b h c _ y]at u;split at u;rename_i r;subst r;have K:=ow (I9:=a) (I0:=e) (Kv:=i) (Jv:=j) (JV:=k) (Jj:=aC b c) (l,f.2);have P:=pS (aC b c) l f.2 (c0 a e i j k (aC b c) (l,f.2));simp only at K;rw[dx];omega;rw[dx];omega;cases q
def SO{d:a0}{l:ai}{c:aV}(r:dR a (aQ d b))(s:a<=64)(t:L c=a)(m:(hw d l i j k a b c).1=T):(hw d l i j k a b c).2.length=a/\∀h,a6 (aC (hw d l i j k a b c).2 h)<=a6 (aC c h)+64/\(aC (hw d l i j k a b c).2 h).length<=(aC c h).length+64:=by unfold hw at m⊢;split at m;rename_i u;rw[am u];have p:=rW (IZ:=aQ d b) (Jv:=j) (Jd:=c.map (eo (L d) l i j k b (jq (aQ d b)))) r s;have q:=SN _ c (λv w=>by have⟨x,y,D⟩:=p.1 v w;exact⟨x,y,O⟩) m;exact⟨by rw[q.1,t],λh=>bi (q.2 h) p.2⟩;cases m
def p2(b:ai):Prop:=∀a,a6 a<=1000000->L a<=1000000->0<=cl b a/\cl b a<=9007199254740992
def SP{d:ai}{e:I}{b:aV}(p:p2 d)(q:eE b):∀o∈b.map (eo a d i j k l e),0<=o/\o<=9007199254740992:=by intro o r;obtain⟨s,t,rfl⟩:=List.mem_map.1 r;obtain⟨c,u,rfl⟩:=gP t;have v:=q c;rw[show aC b c=b[c] by simp[aC,u]]at v;unfold eo;split;have w:=ow (I9:=a) (I0:=d) (Kv:=i) (Jv:=j) (JV:=k) (Jj:=b[c]) (l,e);have x:=pS b[c] l e (c0 a d i j k b[c] (l,e));simp only at w;have y:=p b[c] O O;have z:=p (dF b[c] l e (c0 a d i j k b[c] (l,e))) O O;rw[cV O O];omega;omega
def SQ(b:aV)(a c:N)(d:∀e,a6 (aC b e)<=c):(dq b a).length<=a*c:=by
 induction a with
  |zero=>simp[dq]
  |succ a f=>
   rw[dq,bL,Nat.succ_mul];have g:(ee a (aC b a)).length=a6 (aC b a):=by unfold ee a6 ed;rw[List.length_flatten,List.map_map];congr 1;apply List.map_congr_left;intro h _;simp
   have:=d a;omega
def uC{a:aV}(b:eE a)(c:L a<=64):kj a:=by unfold kj;have e:=SQ a (L a) 900000 (λd=>(b d).1);have f:L a*900000<=64*900000:=Nat.mul_le_mul_right _ c;omega
def SR{b:aD}{c:ar}(j:bb w u c)(e:∀f,f<(w:N)->¬b f):aI bb b w u c:=λl m g=>by
 obtain⟨n,o,p,q,r⟩:=j
 refine⟨n,o,p,q,λs t=>?_⟩
 have⟨a,v,x,ha,h,hp⟩:=r s t
 have i:=aR _ _ h
 exact⟨a,v,x,ha,(ey (g a i (e a i))).trans h,K8 hp e l m g⟩
def SS{I5:aD}{b:aV}(i:bq w u b)(d:∀e,e<(w:N)->¬I5 e):aI bq I5 w u b:=λk l f=>by
 obtain⟨m,n,o,p,q⟩:=i
 refine⟨m,n,o,p,λr s=>?_⟩
 have⟨a,t,v,ha,g,hp⟩:=q r s
 have h:=aR _ _ g
 exact⟨a,t,v,ha,(ey (f a h (d a h))).trans g,SR hp d k l f⟩
def e4(a:br)(b:aV):aV:=a.foldl (λ(c:aV) (d:N)=>hu (d:I) c) b
def gE(b:a0)(c:ai)(d e f:I)(g:N):br->aV->Bool×aV
 |[],a=>(T,a)
 |h::i,a=>if(hw b c d e f g h a).1 then gE b c d e f g i (hw b c d e f g h a).2 else(F,[])
def hx(b:a0)(c:ai)(f g h:I)(d:N)(a:br)(e:aV):Bool×aV:=if(gE b c f g h d a (e4 a e)).1=T/\k3 (L b) c f g h (gE b c f g h d a (e4 a e)).2=T/\ht b c (gE b c f g h d a (e4 a e)).2 d<ht b c e d then(T,(gE b c f g h d a (e4 a e)).2)else(F,e)
def b8(d b:N)(a:aV):Prop:=L a=d/\∀c,a6 (aC a c)+b<=800000/\(aC a c).length+b<=800000
def b8.hL{c:aV}(d:b8 a b c):eE c:=λe=>Y (d.2 e)
def b8.mono{d:aV}(e:b8 a b d)(j:c<=b):b8 a c d:=⟨e.1,λi=>Y (e.2 i)⟩
def b8.Wv{c:aV}(d:b8 a b c)(e:I):b8 a b (hu e c):=⟨by rw[SL];exact d.1,λf=>bi (d.2 f) (SM e c f)⟩
def b8.put{d:a0}{f:ai}{m:N}{e:aV}(g:b8 a (m+64) e)(o:dR a (aQ d b))(p:a<=64)(q:(hw d f i j k a b e).1=T):b8 a m (hw d f i j k a b e).2:=by have l:=SO o p g.1 q;exact⟨l.1,λn=>bi (g.2 n) (l.2 n)⟩
structure iT(e:W)(a:N)(f f1 g h i j k c:V)(l:aV)(b:W):Prop where
 inst:ci b a f f1 g h i j
 p:C b ⟨a+1,0,Z⟩=A k
 res:C b ⟨a+2,0,Z⟩=A (S Z 0 0)
 fQ:aH b ⟨a+2,0,Z⟩=F
 q:C b ⟨a+3,0,Z⟩=A c
 uD:aH b ⟨a+3,0,Z⟩=F
 off:aI bq (λd=>a<=d/\d<a+4) b c l
 bF:B a e b
def iT.lt{c a:World}{b:Nat}{d f1 e f g h i j:Value}{k:List (List (List (Int×Int)))}(l:iT c b d f1 e f g h i j k a):b+3<(a:Nat):=aR _ _ l.q
def iT.bw{d:W}{e f g h i:V}{j:aV}(b:iT w a u v y e f g h i j x)(c:B x x d):iT w a u v y e f g h i j d:=⟨b.inst.bw c,s c b.p,s c b.res,aY c (aR _ _ b.res) b.fQ,s c b.q,aY c (aR _ _ b.q) b.uD,b.off.bw c,b.bF.trans (c.mono (Y b.lt))⟩
def iT.set{h i j k l v':V}{m Q':aV}(b:iT w a u v y h i j k l m x)(s:aI bq (λc=>a<=c/\c<a+4) x v' Q'):iT w a u v y h i j k v' Q' (aj x ⟨a+3,0,Z⟩ v'):=by have f:M (λc=>c=a+3) x (aj x ⟨a+3,0,Z⟩ v'):=M.grown (bn _ _ _) (λc g=>X g.symm);exact⟨b.inst.bl f O,f.cell b.p O,f.cell b.res O,by rw[bs];exact b.fQ,bP _ _ _ (by rw[b.q];rfl),by rw[bs];exact b.uD,s.set _ _ D (λc g=>g),b.bF.trans (f.bg (Y b.lt) λc t g=>O)⟩
def SU(a:br)(b:N)(c:aV):e4 (a++[b]) c=hu (b:I) (e4 a c):=by unfold e4;rw[List.foldl_append];rfl
def uE(d:br):∀(c:aV),b8 a b c->b8 a b (e4 d c):=by
 induction d with
  |nil=>intro c e;exact e
  |cons h d i=>intro c e;exact i _ (e.Wv h)
section
attribute [local go_sem] Oper.semAt_some
def z8(c:N)(j k l:I)(av ad ax cO:V)(d:a0)(o:ai)(i:aV)(a:br)(r:W)(ba:bG r av d)(bK:L d<=1000000)(ca:∀G,G<L d->dR c (aQ d G))(cP:c<=64)(cQ:np d)(bs:bt r ad o)(cR:p2 o)(t:bq r ax i)(bL:b8 c 128 i)(cS:aX r cO (a.map λ(f:N)=>(f:I)))(cT:∀f∈a,f<L d)(cU:L a<=2):ap ab 198 #[ao #[c,j,k,l,av,ad],ao #[ax],cO] r (fl r (hx d o j k l c a i)):=by
 obtain⟨dB,cV,cW,cc,cX⟩:=bR r c j k l av ad;obtain⟨cY,cZ,c0,dC,bM⟩:=ec dB ax;obtain⟨c1,c2,cd,dD,bu,bx⟩:=gB cY (S Z 0 0);obtain⟨dE,c3,c4,dF,ce,cf⟩:=gB c1 ax;have cg:cY.heap.size=r.heap.size+2:=O
 have ch:c1.heap.size=r.heap.size+3:=O
 rw[cc]at bM;rw[cg]at bu bx;rw[ch]at ce cf;have dG:=s cd bM;have bN:=c4;have ci:=q cd bN;have cj:=q c0 ci;have bO:=q cW cj;obtain⟨v,aN⟩:=K r.heap.size;have c5:iT r v c j k l av ad ax ax i dE:=by rw[aN];exact⟨cX.bw cj,s ci bM,s bN bu,aY bN O bx,ce,cf,(SS t (I5:=λn=>r.heap.size<=n) (λG ck=>O)).step bO.size (λG ck _=>bO.block G ck) (λG _ aO=>aO.1),bO⟩
 have IF:=aN;have dH:=Q (λ(b:W) (f:N) (ah:f<L d)=>(by obtain⟨y,aP,aO⟩:=ba.shape;rw[aO];have:=zx c j k l y (L d) aP ad f b bK;rwa [show decide (0<=(f:I)/\(f:I)<(L d:I))=T by simp;omega]at this:ap ab 229 #[ao #[c,j,k,l,av,ad],(f:I)] b (k4 b T)));have dI:=Q (λ(b:W) (u:V) (e:aV) (f:N) (aS:bq b u e) (ag:eE e)=>Rv u e f b aS ag);have dJ:=Q (λ(b:W) (u:V) (e:aV) (f:N) (IG:B v r b) (ah:f<L d) (aS:bq b u e) (ag:b8 c 64 e)=>SJ c f j k l av ad u d o e b (ba.bw mK) bK ah (ca f ah) cP (bs.bw mK) aS ag.1 (λal=>Y (ag.2 al)) (SP cR ag.hL));have c6:=Q (λ(b:W) (IG:B v r b)=>uo ax i b (t.bw mK) bL.hL);have dK:=Q (λ(b:W) (u:V) (e:aV) (IG:B v r b) (aS:bq b u e) (ag:eE e)=>(by obtain⟨y,aP,aO⟩:=ba.shape;subst aO;exact PW c j k l y (L d) aP ad u o e b (bs.bw mK) aS bK ag:ap ab 232 #[ao #[c,j,k,l,av,ad],ao #[u]] b (k4 b (k3 (L d) o j k l e))));have c7:=Q (λ(b:W) (u:V) (e:aV) (IG:B v r b) (aS:bq b u e) (ag:eE e) (ef:L e=c)=>zB c j k l av ad u d o e b (ba.bw mK) bK cQ (bs.bw mK) aS (uC ag O) ag);have dL:=Q (λ(b:W) (IG:B v r b)=>(t.bw mK:bq b ax i));have c8:b8 c 128 (e4 a i):=uE a i bL;have cl:hx d o j k l c a i=if(gE d o j k l c a (e4 a i)).1=T/\k3 (L d) o j k l (gE d o j k l c a (e4 a i)).2=T/\ht d o (gE d o j k l c a (e4 a i)).2 c<ht d o i c then(T,(gE d o j k l c a (e4 a i)).2)else(F,i):=J;obtain⟨dM,c9⟩:=K (hx d o j k l c a i);rw[<-c9]at cl⊢;obtain⟨cn,co,cp,rfl,_,_,_⟩:=bs.open;obtain⟨cq,cr,aP,rfl,_,_,_⟩:=ba.open;obtain⟨cs,ct,cu,rfl,_,_,_⟩:=t.open;obtain⟨dN,ay,eg,rfl,cv,_,c'⟩:=cS.open;rw[de]at cv;have da:=Q (λ(b:W) (IG:B v r b) g (db:g<ay)=>(by
  obtain⟨aA,bb,aO,ar⟩:=c' g db;have D5:g<L a:=O
  refine⟨aA,bb,aO,?_⟩;rw[show ae (a.map λ(f:N)=>(f:I)) g=((a.getD g 0:N):I) by simp[ae,List.getD,D5]]at ar;exact bk IG (by rw[IF];have:=aR _ _ ar;simpa using this) ar:∃aA bb,dN=A ⟨aA,bb,Z⟩/\C b ⟨aA,bb+g,Z⟩=A (aa ac ((a.getD g 0:N):I))))
 have aT:=Q (U cT (U cv cU));have cw:=Q bL;change H _ at cV cZ c2 c3 c5 c8 cl;clear bL;have eh:ay<=2:=O
 change H _ at aN ca;clear cW c0 cd c4 dD dF cX bM bu bx ce cf bN ci cj bO ba bs t cS c' cT cv cU c9 IF cR cQ;go_in;go_upto_region 1 with fail;rw[cV,cZ,c2];go_upto_region 2 with fail;rw[c3];clear dG;try rw[ch]
 try rw[cg]
 try rw[cc]
 clear cc dC cg ch;rw[<-aN];try simp only[Nat.add_assoc,Nat.reduceAdd]
 go_wp2;go_loopw [11,17] (λy al wr=>∃(g:N) (bA u:V),bA=y/\al=g/\g<=ay/\iT r v c j k l (S cq cr aP) (S cn co cp) (S cs ct cu) u (e4 (a.take g) i) wr) (λ_ al _=>ay-(aw al).toNat);exact⟨0,_,_,J,J,a3 _,c5⟩;obtain⟨g,bA,u,rfl,rfl,db,h⟩:=hrel;obtain⟨x,rfl⟩:=K wr;obtain⟨ei,ej,ek,rfl,_,_,_⟩:=h.off.now.open;by_cases Ch:g<ay
 ·obtain⟨aA,bb,rfl,ar⟩:=da x h.bF g Ch;have dO:=aJ g;have dP:(g:I)<(ay:I):=by omega
  have D5:g<L a:=Y aT.2.1
  have aC:a.getD g 0<L d:=aT.1 _ vB;have cx:e4 (a.take (g+1)) i=hu ((a.getD g 0:N):I) (e4 (a.take g) i):=by rw[eR D5,SU];simp[List.getD,D5]
  have dc:eE (e4 (a.take g) i):=(uE _ i cw).hL;obtain⟨f,ah⟩:=K (a.getD g 0);rw[<-ah]at ar aC cx;have dQ:=Q (dH.oo x f aC);have aD:=Q h;have el:=Q h.lt;obtain⟨aW,a1,a2,a4,a5,a6⟩:=h.inst;change H _ at cx dc;clear h D5 aC ah;go_wp2_with fail;refine mU dQ λR z=>?_;have w:=aD.bw z;have bS:=w.q;have dS:=Q (dI.oo R _ _ f w.off.now dc);have be:=Q w;clear aW a1 a2 a4 a5 a6 ar w z;go_wp2_with fail;refine mF dS λbT dT dU dV ⟨dd,bU⟩=>?_;have aE:=be.bw bU;have em:=aE.q;have en:=aE.uD;have cy:=be.lt;have df:=aE.set (v':=S dT dU dV) (Q':=hu (f:I) (e4 (a.take g) i)) (dd.mono λn dg=>Y dg.2);change H _ at df;clear aE bU dd bS cy;go_wp2;go_roundw;case rel=>exact⟨g+1,_,_,J,aK,O,by rw[cx];exact df⟩
  exact bY
 have dX:g=ay:=O
 subst dX;have dh:a.take g=a:=cm (by rw[aT.2.1];exact aL _);rw[dh]at h;have aD:=Q h;have bB:∃cz,cz=gE d o j k l c a (e4 a i):=⟨_,J⟩
 obtain⟨cz,bB⟩:=bB;have bW:=cl.oo;rw[<-bB]at bW;have d0:=Q bB;change H _ at bW;clear h dh bB;go_wp2;go_loopw [9,13,33] (λG y al wr=>∃(n:N) (di bA u:V) (e:aV),di=G/\bA=y/\al=(n:I)/\n<=g/\iT r v c j k l (S cq cr aP) (S cn co cp) (S cs ct cu) u e wr/\gE d o j k l c (a.drop n) e=cz/\b8 c (64*(2-n)) e/\(0<n->aI bq (λG=>G<v+4) wr u e)/\(n=0->e=e4 a i)) (λ_ _ al _=>g-(aw al).toNat);exact⟨0,_,_,_,_,J,J,J,a3 _,aD,by rw[List.drop_zero];exact d0.symm,c8,λt=>absurd t (Nat.lt_irrefl _),λ_=>rfl⟩;obtain⟨n,di,bA,u,e,rfl,rfl,rfl,dg,h,M,a8,cA,cB⟩:=hrel;obtain⟨x,rfl⟩:=K wr;obtain⟨bC,bD,bE,rfl,_,_,_⟩:=h.off.now.open;have dj:=Q (λ(bX bZ:W) (u:V) (e:aV) (h:iT r v c j k l (S cq cr aP) (S cn co cp) (S cs ct cu) u e bX) (y:bz) (bf f:N) (d1:aI bq (λG=>G<bX.heap.size) bZ (S y bf f) i) (d2:B bX.heap.size bX bZ)=>(show(aj bZ ⟨v+2,0,Z⟩ (S y bf f)).cell? ⟨v+2,0,Z⟩=A (S y bf f)/\fl r (F,i) (aq (aZ #[ao #[S y bf f],au F])) (aj bZ ⟨v+2,0,Z⟩ (S y bf f))from by have dl:=h.bw d2;have eo:=h.lt;have cC:=aN.oo;refine⟨bP _ _ _ (by rw[dl.res];rfl),y,bf,f,J,?_,?_⟩;exact d1.set _ _ aF (λG ck=>O);rw[<-aN];exact fR dl.bF O O));by_cases Ch:n<g
 ·obtain⟨aA,bb,rfl,ar⟩:=da x h.bF n Ch;have dO:=aJ n;have dP:(n:I)<(g:I):=by omega
  have D5:n<L a:=Y aT.2.1
  have aC:a.getD n 0<L d:=aT.1 _ vB;have dm:a.drop n=a.getD n 0::a.drop (n+1):=by rw[List.drop_eq_getElem_cons D5];simp[List.getD,D5]
  rw[dm,gE]at M;obtain⟨f,ah⟩:=K (a.getD n 0);rw[<-ah]at ar aC M;have dp:=Q (dJ.oo x _ e f h.bF aC h.off.now (a8.mono O));have cD:=Q (λ(t:(hw d o j k l c f e).1=T)=>b8.put (m:=64*(2-(n+1))) (a8.mono O) (ca f aC) cP t);obtain⟨⟨d3,bV⟩,dq⟩:=K (hw d o j k l c f e);rw[<-dq]at dp M cD;try simp only at M cD
  have aD:=Q h;have dr:=Q M;obtain⟨aW,a1,a2,a4,a5,a6⟩:=h.inst;have bH:=h.q;clear h M a8 D5 aC ah dm dq cA cB;go_wp2_with fail;refine mF dp λR b2 b3 b5 ⟨cE,z⟩=>?_;have w:=aD.bw z;have bS:=w.q;have d4:=w.uD;have d5:=aD.lt;have cF:aI bq (λb6=>b6<v+4) (R.setCell ⟨v+3,0,none⟩ (.slice b2 b3 b5)) (.slice b2 b3 b5) bV:=cE.set _ _ aF (λb6 cG=>O);have aE:=w.set (v':=S b2 b3 b5) (Q':=bV) (cE.mono λb6 cG=>Y cG.2);obtain⟨bT,b7⟩:=K (aj R ⟨v+3,0,Z⟩ (S b2 b3 b5));rw[<-b7]at aE cF;have bg:=Q aE;change H _ at cF b7;clear aW a1 a2 a4 a5 a6 bH ar w aE z cE d5;cases d3 with
   |false=>have M:=dr.oo;simp only[gL,if_false]at M;have P:=bW.oo;rw[<-M]at P;simp only[gL,false_and,if_false]at P;have d6:=bg.p;have cH:=Q (c6.oo bT bg.bF);change H _ at P;clear M;go_upto_region 14 with fail;rw[<-b7];clear bS d4;go_wp2_with fail;refine mF cH λb9 Ij Ik Il ⟨bI,X⟩=>?_;obtain⟨aG,m⟩:=dj bT b9 _ _ bg Ij Ik Il bI X;have bu:=(bg.bw X).res;have bx:=(bg.bw X).fQ;change H _ at aG m;clear bI X d6;go_wp2_with fail;have D6:=aG.oo;rw[P];exact wy
   |true=>
    have cI:=dr.oo;simp only[if_true]at cI;change H _ at cI;go_wp2_with fail;try rw[<-b7]
    go_roundw;case rel=>exact⟨n+1,_,_,_,_,J,J,aK,O,bg,cI,cD dk,λ_=>cF,λt=>absurd t (Nat.succ_ne_zero _)⟩
    exact bY
 have d7:n=g:=O
 subst d7;rw[List.drop_of_length_le (by rw[aT.2.1];exact aL _),gE]at M;have P:=bW.oo;rw[<-M]at P;simp only[true_and]at P;have cJ:=a8.hL;have ds:n=0->e=i:=λt=>by rw[cB t];have:a=[]:=dn.1 (Y aT.2.1);rw[this];rfl
 have b':n=0->ht d o e c=ht d o i c:=λt=>by rw[ds t]
 have cK:=Q (λ(b:W) (IG:B x.heap.size x b)=>dK b _ e ((h.bw IG).bF) ((h.bw IG).off.now) cJ);have dt:=Q (λ(b:W) (IG:B x.heap.size x b)=>c7 b _ e ((h.bw IG).bF) ((h.bw IG).off.now) cJ a8.1);have du:=Q (λ(b:W) (IG:B x.heap.size x b)=>c7 b _ i ((h.bw IG).bF) (dL b (h.bw IG).bF) cw.hL cw.1);obtain⟨bh,dv⟩:=K (k3 (L d) o j k l e);obtain⟨bi,dw⟩:=K (ht d o e c);obtain⟨bl,dx⟩:=K (ht d o i c);rw[<-dv]at cK P;rw[<-dw]at dt P b';rw[<-dx]at du P b';have dy:=Q (U cA b');have aD:=Q h;have ep:=Q a8;obtain⟨aW,a1,a2,a4,a5,a6⟩:=h.inst;have bH:=h.q;have cL:=h.p;change H _ at P;clear h M cJ a8 dv dw dx cA cB ds b';go_upto_region 16 with fail;go_cut [61] (λaA d8=>aA=au (!bh||decide (bl<=bi))/\B x.heap.size x d8);case first=>
  cases bh with
   |false=>
    refine bv [100,101,202,3,4,105,106,108,109,207,210,11,12] ?_;iterate 2 refine mS ?_
    refine aU λcM a9=>?_;go_simp;refine mU (cK _ (an _)) λR z=>?_;have bm:=q (an x) z;refine a9 _ _ (.mk bm) ?_;iterate 6 refine mS ?_
    refine qO ?_;refine qO ?_;iterate 2 refine mS ?_
    refine bc ?_;clear aW a1 a2 a4 a5 a6 bH cL;go_wp2;go_meet;exact⟨J,bm⟩
   |true=>
    have eq:∀(dz:Bool),dz=decide (bl<=bi)->decide (bl<=bi)=dz:=λ_ t=>t.symm;refine bv [100,101,202,3,4,105,106,108,109,207,210,11,12] ?_;iterate 2 refine mS ?_
    refine aU λcM a9=>?_;go_simp;refine mU (cK _ (an _)) λR z=>?_;have bm:=q (an x) z;refine a9 _ _ (.mk bm) ?_;iterate 6 refine mS ?_
    refine aU λcM a9=>?_;go_simp;refine mU (dt _ bm) λbT bU=>?_;have cN:=q bm bU;refine a9 _ _ (.mk cN) ?_;refine aU λcM a9=>?_;go_simp;refine mU (du _ cN) λb9 X=>?_;have dA:=q cN X;refine a9 _ _ (.mk dA) ?_;iterate 2 refine mS ?_
    refine bc ?_;clear aW a1 a2 a4 a5 a6 bH cL;go_wp2;go_meet;exact⟨D,dA⟩
 obtain⟨rfl,z⟩:=hcut;obtain⟨R,rfl⟩:=K wc;clear aW a1 a2 a4 a5 a6 bH cL;have w:=aD.bw z;have bn:=P.oo;by_cases bo:bh=T/\bi<bl
 ·rw[am bo]at bn;have bJ:(!bh||decide (bl<=bi))=F:=by rw[bo.1];simp;omega
  have bS:=w.q;have d9:=w.res;have er:=w.fQ;have cC:=aN.oo;have cy:=w.lt;have aG:(R.setCell ⟨v+2,0,none⟩ (.slice bC bD bE)).cell? ⟨v+2,0,none⟩=some (.slice bC bD bE):=World.cell?_setCell_same' _ _ _ (by rw[d9];rfl);have m:fl r dM (aq (aZ #[ao #[S bC bD bE],au T])) (aj R ⟨v+2,0,Z⟩ (S bC bD bE)):=by
   rw[bn];refine⟨_,_,_,J,?_,by rw[<-cC];exact fR w.bF O O⟩;have d':0<n:=Nat.pos_of_ne_zero λt=>Y (dy.2 t)
   exact((dy.1 d').bw z).set _ _ D (λb6 cG=>O)
  rw[bJ];change H _ at m aG;clear bn bo w z cC bJ cy;go_wp2_with fail;have D6:=aG.oo;exact b0 (v:=aZ #[ao #[S bC bD bE],au T]) vx J m
 rw[ak bo]at bn;have bJ:(!bh||decide (bl<=bi))=T:=by
  cases bh with
   |false=>rfl
   |true=>simp;exact Int.not_lt.1 λt=>bo ⟨J,t⟩
 have eb:=w.p;have cH:=Q (c6.oo R w.bF);have ed:=Q bn;have be:=Q w;rw[bJ];clear bn bo w z bJ;go_wp2_with fail;refine mF cH λb9 Ij Ik Il ⟨bI,X⟩=>?_;obtain⟨aG,m⟩:=dj R b9 _ _ be Ij Ik Il bI X;have bu:=(be.bw X).res;have bx:=(be.bw X).fQ;change H _ at aG m;clear bI X eb;go_wp2_with fail;have D6:=aG.oo;rw[ed];exact wy
def uF{d:a0}{m:ai}{JZ:N}{b:br}{n:aV}(h:∀e∈b,dR a (aQ d e))(t:a<=64)(o:b8 a (JZ+64*L b) n):b8 a JZ (hx d m i j k a b n).2:=by
 have u:∀(b:br) (f:aV),(∀e∈b,dR a (aQ d e))->b8 a (JZ+64*L b) f->(gE d m i j k a b f).1=T->b8 a JZ (gE d m i j k a b f).2:=by
  intro b;induction b with
   |nil=>intro f _ g _;exact g.mono O
   |cons e b v=>intro f h g l;rw[gE]at l⊢;split at l;rename_i s;rw[am s];exact v _ (λw x=>h w (fs _ x)) (b8.put (by refine g.mono ?_;rw[dx];omega) (h e (fV ..)) t s) l;cases l
 unfold hx;split;rename_i g;exact u b _ h (uE b n o) g.1;exact o.mono O
structure e5(b:W)(c:N)(f g:V)(a:a0)(d:ai):Prop where
 cu:bG b f a
 ln:L a<=1000000
 ok:∀e,e<L a->dR c (aQ a e)
 dG:c<=64
 tb:np a
 gr:bt b g d
 db:p2 d
def e5.bw{Kx:W}{c:a0}{d:ai}(b:e5 w a u v c d)(f:B w w Kx):e5 Kx a u v c d:=⟨b.cu.bw f,b.ln,b.ok,b.dG,b.tb,b.gr.bw f,b.db⟩
def SV(c d:N)(e f g:I)(n o p:V)(h:a0)(r:ai)(i:aV)(a:W)(t:e5 a c n o h r)(M:bq a p i)(an:b8 c 128 i)(ha:d<L h):ap ab 171 #[ao #[c,e,f,g,n,o],ao #[p],d] a (fl a (hx h r e f g c [d] i)):=by
 have⟨aW,ar,av,P,R⟩:=bR a c e f g n o;have⟨ax,ay,X,bk,u⟩:=ec aW p;have⟨aA,aC,v,a1,j,w⟩:=gB ax (S Z 0 0);have⟨Y,aD,x,a2,ad⟩:=xh aA d;have ag:ax.heap.size=a.heap.size+2:=O
 have ah:aA.heap.size=a.heap.size+3:=O
 rw[P]at u;rw[ag]at j w;rw[ah]at ad;have ak:=q v x;have al:=q X ak;have y:=q av al;have a3:=R.bw al;have a4:=s v u;have a5:=s ak u;have a6:=R.bw (q X v);have aE:=s x j;have aG:=aY x O w;have b:=t.bw y;have aI:aX Y (S (A ⟨a.heap.size+3,0,Z⟩) 1 1) ([d].map λ(aJ:N)=>(aJ:I)):=⟨_,1,J,D,D,λbl aK=>⟨_,_,J,by simp at aK;subst aK;simpa[ae]using ad⟩⟩
 have aN:=Q (z8 c e f g n o p _ h r i [d] Y b.cu b.ln b.ok b.dG b.tb b.gr b.db (M.bw y) an aI (λaJ aO=>by simp at aO;subst aO;exact ha) D);have⟨⟨am,a8⟩,aP⟩:=K (hx h r e f g c [d] i);rw[<-aP]at aN⊢;obtain⟨bm,bn,bo,rfl,_,_,_⟩:=t.gr.open;obtain⟨br,bs,bt,rfl,_,_,_⟩:=t.cu.open;obtain⟨bu,bv,bx,rfl,_,_,_⟩:=M.open;have z:=Q (U aE (U aG (U y (bh (Y.heap.size=a.heap.size+4)))));obtain⟨a9,ba,bb,bc,be,bf⟩:=a6;change H _ at ar ay aC aD;clear t b M an aI av X v x a1 a2 R a3 ak al y u a5 j w aE aG ad aP;go_in;go_upto_region 1 with fail;rw[ar,ay,aC];try rw[ag]
 try rw[ah]
 try rw[P]
 go_wp2_with (rw[aD]);refine mF aN λaQ k l m ⟨aR,G⟩=>?_;have bg:=z.2.2.2;have aS:=z.2.2.1.trans (G.mono O);have j:=s G z.1;have w:=aY G O z.2.1;have aT:(aj aQ ⟨a.heap.size+2,0,Z⟩ (S k l m)).cell? ⟨a.heap.size+2,0,Z⟩=A (S k l m):=bP _ _ _ (by rw[j];rfl);have aU:fl a (am,a8) (aq (aZ #[ao #[S k l m],au am])) (aj aQ ⟨a.heap.size+2,0,Z⟩ (S k l m)):=⟨_,_,_,J,aR.set _ _ aF (λbz bA=>O),fR aS O (aL _)⟩
 change H _ at aU aT;clear aR G aS bg a9 ba bb bc be bf a4 ag ah P;go_wp2_with fail;have bi:=aT.oo;exact b0 (v:=aZ #[ao #[S k l m],au am]) (by simp[results,results171,go_sem,bi]) J aU
def SW(a:W)(c d:I):∃b,a.alloc (az #[c,d] 3)=b/\B a a b/\b.heap.size=(a:N)+1/\C b a=A (aa ac c)/\C b ⟨a,1,Z⟩=A (aa ac d):=⟨_,J,aN _ _,D,aE,aE⟩
def SX(e b c:N)(h i j:I)(p r t:V)(f:a0)(u:ai)(k:aV)(a:W)(v:e5 a e p r f u)(R:bq a t k)(ax:b8 e 128 k)(ha:b<L f)(bs:c<L f)(a3:b≠c):ap ab 172 #[ao #[e,h,i,j,p,r],ao #[t],b,c] a (fl a (hx f u h i j e [b,c] k)):=by
 have⟨a4,ay,aA,X,Y⟩:=bR a e h i j p r;have⟨aC,aD,ad,bt,w⟩:=ec a4 t;have⟨aE,aG,x,a5,l,y⟩:=gB aC (S Z 0 0);have⟨ag,aI,z,a6,ah,ak⟩:=SW aE b c;have al:aC.heap.size=a.heap.size+2:=O
 have am:aE.heap.size=a.heap.size+3:=O
 rw[X]at w;rw[al]at l y;rw[am]at ah ak;have an:=q x z;have ar:=q ad an;have G:=q aA ar;have a8:=Y.bw ar;have a9:=s x w;have ba:=s an w;have bb:=Y.bw (q ad x);have aJ:=s z l;have aK:=aY z O y;have d:=v.bw G;have aN:aX ag (S (A ⟨a.heap.size+3,0,Z⟩) 2 2) ([b,c].map λ(aO:N)=>(aO:I)):=⟨_,2,J,D,D,λaP bc=>⟨_,_,J,by
  have be:aP=0\/aP=1:=by simp at bc;omega
  rcases be with g|g;subst g;simpa[ae]using ah;subst g;simpa[ae]using ak⟩⟩
 have aQ:=Q (z8 e h i j p r t _ f u k [b,c] ag d.cu d.ln d.ok d.dG d.tb d.gr d.db (R.bw G) ax aN (λaO aR=>by simp at aR;rcases aR with g|g<;>(subst g;assumption)) D);have⟨⟨av,bf⟩,aS⟩:=K (hx f u h i j e [b,c] k);rw[<-aS]at aQ⊢;obtain⟨bu,bv,bx,rfl,_,_,_⟩:=v.gr.open;obtain⟨bz,bA,bB,rfl,_,_,_⟩:=v.cu.open;obtain⟨bC,bD,bE,rfl,_,_,_⟩:=R.open;have M:=Q (U aJ (U aK (U G (bh (ag.heap.size=a.heap.size+4)))));obtain⟨bg,bi,bk,bl,bm,bn⟩:=bb;change H _ at ay aD aG aI;clear v d R ax aN aA ad x z a5 a6 Y a8 an ar G w ba l y aJ aK ah ak aS;have bF:((b:I)==(c:I))=F:=aF
 clear a3;go_in;go_upto_region 1 with fail;rw[ay,aD,aG];try rw[al]
 try rw[am]
 try rw[X]
 go_wp2_with (rw[aI]);refine mF aQ λaT m n o ⟨aU,P⟩=>?_;have bo:=M.2.2.2;have aW:=M.2.2.1.trans (P.mono O);have l:=s P M.1;have y:=aY P O M.2.1;have a1:(aj aT ⟨a.heap.size+2,0,Z⟩ (S m n o)).cell? ⟨a.heap.size+2,0,Z⟩=A (S m n o):=bP _ _ _ (by rw[l];rfl);have a2:fl a (av,bf) (aq (aZ #[ao #[S m n o],au av])) (aj aT ⟨a.heap.size+2,0,Z⟩ (S m n o)):=⟨_,_,_,J,aU.set _ _ aF (λbG bH=>O),fR aW O (aL _)⟩
 change H _ at a2 a1;clear aU P aW bo bg bi bk bl bm bn a9 al am X;go_wp2_with fail;have br:=a1.oo;exact b0 (v:=aZ #[ao #[S m n o],au av]) (by simp[results,results172,go_sem,br]) J a2
def SY(g w:N)(x y z:I)(l m h:V)(al:a0)(am:ai)(b:aV)(a:W)(n:e5 a g l m al am)(o:bq a h b)(D:b8 g 128 b):ap ab 172 #[ao #[aa ac g,aa ac x,aa ac y,aa ac z,l,m],ao #[h],aa ac w,aa ac w] a (fl a (F,b)):=by
 have⟨an,G,K,p,ar⟩:=bR a (aa ac g) (aa ac x) (aa ac y) (aa ac z) l m;have⟨M,P,R,aD,r⟩:=ec an h;have⟨X,Y,t,av,c,i⟩:=gB M (S Z 0 0);have u:M.heap.size=a.heap.size+2:=O
 rw[p]at r;rw[u]at c i;have v:=q K (q R t);have ax:=s t r;have ay:=Q (uo h b X (o.bw v) D.hL);obtain⟨aE,aG,aI,rfl,_,_,_⟩:=n.gr.open;obtain⟨aJ,aK,aN,rfl,_,_,_⟩:=n.cu.open;obtain⟨aO,aP,aQ,rfl,_,_,_⟩:=o.open;have j:=Q (U c (U i (U v (bh (X.heap.size=a.heap.size+3)))));change H _ at G P Y;clear n o D K R t av ar v r c i;go_in;go_upto_region 1 with fail;rw[G.oo,P.oo,Y.oo];try rw[u]
 try rw[p]
 go_wp2_with fail;refine mF ay.oo λad d e f ⟨ae,k⟩=>?_;have aA:=j.oo.2.2.2;have ag:=j.oo.2.2.1.trans (k.mono O);have c:=s k j.oo.1;have i:=aY k O j.oo.2.1;have ah:(aj ad ⟨a.heap.size+2,0,Z⟩ (S d e f)).cell? ⟨a.heap.size+2,0,Z⟩=A (S d e f):=bP _ _ _ (by rw[c];rfl);have ak:fl a (F,b) (aq (aZ #[ao #[S d e f],au F])) (aj ad ⟨a.heap.size+2,0,Z⟩ (S d e f)):=⟨_,_,_,J,ae.set _ _ aF (λaR aS=>O),fR ag O (aL _)⟩
 change H _ at ak ah;clear ae k ag aA ax u p;go_wp2_with fail;have aC:=ah.oo;exact b0 (v:=aZ #[ao #[S d e f],au F]) (by simp[results,results172,go_sem,aC]) J ak.oo
def lf(b:ai)(d e:I)(c f:N)(a:aV):Bool×aV:=if cl b (aC a c)<=cl b (dr b d e (aC a c) f)then(F,a)else(T,a.set c (dr b d e (aC a c) f))
def SZ{h:ai}{f:aV}(e:b8 a b f)(n:c<a):b8 a b (lf h i j c d f).2:=by unfold lf;split;exact e;refine⟨by rw[b'];exact e.1,λl=>?_⟩;simp only;rw[uB f c l _ (by rw[e.1];exact n)];split;have r:=lU h i j (aC f c) d;have s:=e.2 c;omega;exact e.2 l
def S0(R c:N)(bA u v P:I)(b9 b' bB:V)(dt:a0)(l:ai)(j:aV)(g:W)(a9:e5 g R b9 b' dt l)(ca:bq g bB j)(bC:b8 R 0 j)(dX:c<R)(du:P<=1000000):ap ab 173 #[ao #[aa ac R,aa ac bA,aa ac u,aa ac v,b9,b'],ao #[bB],aa ac c,aa ac P] g (fl g (lf l u v c P.toNat j)):=by
 obtain⟨dv,cz,cA,bD,cB⟩:=bR g R bA u v b9 b';obtain⟨ba,cC,cc,dY,cd⟩:=ec dv bB;obtain⟨bE,cD,bF,dw,bG,bH⟩:=gB ba (S Z 0 0);have bJ:(ba:N)=(g:N)+2:=O
 rw[bD]at cd;rw[bJ]at bG bH;have ce:=q cA (q cc bF);have cE:=s bF cd;have cf:=cB.bw (q cc bF);have dZ:=a9.dG;have cg:=Q (λ(e:W) (m:B g g e)=>a9.gr.bw m);have cF:=un bB j bE (ca.bw ce) bC.hL;have cG:=bC.1;have cH:=bC.2 c;obtain⟨cI,cJ,cK,rfl,_,_,_⟩:=a9.gr.open;obtain⟨cL,cM,cN,rfl,_,_,_⟩:=a9.cu.open;obtain⟨d0,d1,d2,rfl,_,_,_⟩:=ca.open;have be:lf l u v c P.toNat j=if cl l (aC j c)<=cl l (dr l u v (aC j c) P.toNat)then(F,j)else(T,j.set c (dr l u v (aC j c) P.toNat)):=J;obtain⟨cO,cQ⟩:=K (lf l u v c P.toNat j);rw[<-cQ]at be⊢;have ch:=(lU l u v (aC j c) P.toNat).1;have bK:=Q (λ(e:W) (bi:V) (m:B g g e) (ci:bb e bi (aC j c))=>yg R bA u v P (S cL cM cN) (S cI cJ cK) bi l (aC j c) e ⟨_,_,_,J⟩ (cg e m) ci O du);have cj:=Q (λ(e:W) (bi:V) (ad:ar) (m:B g g e) (ci:bb e bi ad) (bk:cx ad)=>qF R bA u v (S cL cM cN) (S cI cJ cK) bi l ad e ⟨_,_,_,J⟩ (cg e m) ci bk);obtain⟨ad,bk⟩:=K (aC j c);rw[<-bk]at be ch bK cH;obtain⟨ay,cR⟩:=K (dr l u v ad P.toNat);rw[<-cR]at be ch bK;have cS:cx ad:=cx.of O;have cT:cx ay:=cx.of O;obtain⟨ae,aK⟩:=K (g:N);rw[<-aK]at cg bK cj cE cf bG bH;have cU:B ae g bE:=by rw[aK];exact ce
 have cV:=Q (U aK (bh ((bE:N)=ae+3)));have cW:=Q (U bG bH);have cX:=Q cf;have cY:=Q (U cS cT);have aN:=Q (U bk cG);have dx:=Q cU;have dy:=Q cF;change H _ at cz cC cD be;clear cU cF;clear a9 ca bC cA cc bF dw cB ce cd bG bH cf cQ bk cR cS cT cH ch cG;go_in;go_upto_region 1 with fail;rw[cz,cC,cD];try rw[bJ]
 try rw[bD]
 rw[<-aK];rw[<-aK]at bJ bD;clear aK;go_wp2_with fail;refine dy.mono ?_;rintro i dz ⟨cZ,n,w,d3,rfl,bl,ck⟩;obtain⟨b,c0,bL,c1,bM⟩:=ec dz (S cZ n w);have d4:=cV.2;have aO:=q ck bL;have c2:n=R:=by have cm:=aN.2;rcases bW bl.1 with⟨i,dA⟩|⟨_,_,i,_⟩<;>simp only[bf]at i<;>omega
 have bN:c<L j:=Y aN.2
 obtain⟨h,rfl⟩:∃h,cZ=A ⟨h,0,Z⟩:=by rcases bW bl.1 with⟨i,dA⟩|⟨h,_,i,_⟩<;>simp only[bf]at i;omega;exact⟨h,i.1⟩
 have c3:=bI bl.1 h J;have bO:=bl.bw bL;have bm:=bO.cell bN;have aP:=(bO.2 c bN).now;rw[<-aN.1]at aP;obtain⟨d5,d6,d7,c4,_,_,_⟩:=aP.open;rw[c4]at bm aP;obtain⟨aQ,aR,aS,aW,aX,a1⟩:=cX.bw aO;have dB:=s aO cW.1;have dC:=aY aO O cW.2;have a2:=dx.trans (aO.mono O);have d8:(c:I)<n:=O
 have d9:=aJ c;have d':c<n:=O
 have ea:=bL.size;have eb:=ck.size;have c5:=Q (λ(e:W) (m:B b b e)=>bK e _ (a2.trans (m.mono O)) (aP.bw m));have dD:=Q bO;have dE:=Q (cX.oo.bw aO);have cn:=Q (U dB (U dC a2));have dF:=Q aP;have dH:=Q bm;have c6:=Q bM;have ed:=Q c1;change H _ at c0;change H _ at c3 c2;clear bl ck bL aO bO aP c4 a2 cE bD bJ;go_upto_region 4 with(rw[c0])
 go_cut [11] (λdI bo=>∃bS c7 c8 i,dI=aM (A ⟨bS,0,Z⟩)/\C bo ⟨bS,0,Z⟩=A (S c7 c8 i)/\aI bb (λk=>k<(b:N)) bo (S c7 c8 i) ay/\B b b bo/\b<=bS);case first=>
  refine i' ((.p 1 (.p 3 (.p 6 (.r 0 (.r 2 (.p 4 (.r 5 (.f 7 (.p 8 (.p 9 (.p 10 (.a 11 (.z 12 (.p 13 .d)))))) 11 (.a 7 (.p 8 (.p 9 (.p 10 (.z 12 (.p 13 .d))))))))))))))) (dp b) aT aT (.mk nH) ?_;iterate 7 refine mS ?_
  refine gN (λa3 o=>?_) (λa3 o=>?_)
  ·go_simp;refine(c5 _ (an _)).mono ?_;rintro i t ⟨x,y,G,dJ,rfl,dK,br⟩;have ag:B b b t:=q (an b) br;refine o _ _ (.mk ag) ?_;iterate 3 refine mS ?_
   obtain⟨ah,dL,bT,ee,Cm,bs⟩:=cP t (S Z 0 0);have bt:=q ag bT;refine aU λa3 o=>?_;go_simp;try rw[dL]
   refine o _ _ (.mk bt) ?_;clear aQ aR aS aW aX a1 bM bm;have aA:(aj ah t (S x y G)).cell? t=A (S x y G)/\aI bb (λk=>k<(b:N)) (aj ah t (S x y G)) (S x y G) ay/\B b b (aj ah t (S x y G)):=⟨bP _ _ _ kz,(dK.bw (ie (Kl:=undef) (Kz:=g) bT (aL _))).mono λdM co=>co,ie (Kl:=undef) (Kz:=g) bt ag.size⟩
   iterate 2 refine mS ?_
   refine bc ?_;clear Cm bs;go_wp2;go_meet;exact⟨_,_,_,_,J,aA.1,aA.2.1,aA.2.2,ag.size⟩
  obtain⟨t,dN,br,ef,Cm,bs⟩:=cP b (S Z 0 0);have ag:B b b t.drew:=q br (an _);go_simp;try rw[dN]
  refine o _ _ (.mk ag) ?_;refine aU λa3 o=>?_;go_simp;refine(c5 _ (by first|exact ag|exact q ag (an _)|exact br)).mono ?_;rintro i ah ⟨x,y,G,dJ,rfl,dO,bT⟩;have cp:B t t ah:=q (an t) bT;have bt:=q br cp;refine o _ _ (.mk bt) ?_;clear aQ aR aS aW aX a1 bM bm;iterate 3 refine mS ?_
  have Cm:=s cp Cm;have bs:=aY cp O bs;have c9:(b:N)<t.drew:=by show (b:N)<t;omega
  have aA:(aj ah b (S x y G)).cell? b=A (S x y G)/\aI bb (λk=>k<(b:N)) (aj ah b (S x y G)) (S x y G) ay/\B b b (aj ah b (S x y G)):=⟨bP _ _ _ kz,dO.set _ _ c9 (λdM co=>Nat.lt_trans co c9),ie (Kl:=undef) (Kz:=g) bt (aL _)⟩
  refine b4 λa3 o=>?_;try rw[c1]at*
  go_simp;refine o _ _ ?_;refine mS ?_;refine bc ?_;clear Cm bs;go_wp2;go_meet;exact⟨_,_,_,_,J,aA.1,aA.2.1,aA.2.2,aL _⟩
 obtain⟨bS,c',da,db,rfl,cq,cr,al,dP⟩:=hcut;obtain⟨aD,rfl⟩:=K wc;clear aQ aR aS aW aX a1 bM bm;obtain⟨aQ,aR,aS,aW,aX,a1⟩:=dE.bw al;have dc:=s al c6;have dd:=s al dH;have a2:=cn.2.2;have bV:=a2.trans (al.mono O);have de:=Q (λ(e:W) (m:B aD aD e)=>cj e _ ay (bV.trans (m.mono (Y al.size))) (cr.bw m).now cY.2);have df:=Q (λ(e:W) (m:B aD aD e)=>cj e _ ad (bV.trans (m.mono (Y al.size))) (dF.bw (q al m)) cY.1);have bX:=be.oo;obtain⟨bY,dg⟩:=K (cl l ay);obtain⟨bZ,dh⟩:=K (cl l ad);rw[<-dg]at de bX;rw[<-dh]at df bX;have cs:=Q (U cq (U cr (U al dP)));have dQ:=Q bV;change H _ at bX;clear dg dh bV a2 cr;go_upto_region 5 with fail;go_cut [46] (λdR bo=>dR=au (decide (bZ<=bY))/\B aD aD bo);case first=>
  refine bv [4,6,100,101,103,105,7,108,202,209,10] ?_;iterate 8 refine mS ?_
  refine aU λa3 o=>?_;go_simp;refine mU (de _ (an _)) λaE av=>?_;have ax:=q (an aD) av;refine o _ _ (.mk ax) ?_;refine aU λa3 o=>?_;go_simp;refine mU (df _ ax) λb2 dS=>?_;have di:=q ax dS;refine o _ _ (.mk di) ?_;clear aQ aR aS aW aX a1 dc dd cq;refine mS ?_;refine bc ?_;go_wp2;go_meet;exact⟨D,di⟩
 obtain⟨rfl,av⟩:=hcut;obtain⟨aE,rfl⟩:=K wc;clear aQ aR aS aW aX a1 dc dd cq;have ax:=cs.2.2.1;have aG:=q ax av;have dj:=s aG c6;have dk:=s av cs.1;have ct:=s aG cn.1;have dl:=aY aG O cn.2.1;have b3:=dQ.trans (av.mono (Y ax.size));have a4:=dD.bw aG;have b5:=cV.1;have dm:=aG.size;have a5:=bX.oo;have cv:=c2.oo;have dn:=c3.oo;by_cases a6:bZ<=bY
 ·have bu:decide (bZ<=bY)=T:=by simpa using a6
  rw[am a6]at a5;have bx:(aE.setCell ⟨ae+2,0,none⟩ (.slice (some ⟨h,0,none⟩) n w)).cell? ⟨ae+2,0,none⟩=some (.slice (some ⟨h,0,none⟩) n w):=World.cell?_setCell_same' _ _ _ (by rw[ct];rfl);have bz:fl g cO (aq (aZ #[ao #[S (A ⟨h,0,Z⟩) n w],au F])) (aj aE ⟨ae+2,0,Z⟩ (S (A ⟨h,0,Z⟩) n w)):=by rw[a5];exact⟨_,_,_,rfl,(a4.off (Y aN.oo.2)).set _ _ aF (λk b6=>O),by rw[<-b5];exact fR b3 O O⟩
  rw[bu];change H _ at bz bx;clear a6 bu a5 a4 b3 aG ax av dk b5 dm cv dn;go_wp2_with fail;have cw:=bx.oo;exact b0 (v:=aZ #[ao #[S (A ⟨h,0,Z⟩) n w],au F]) (by simp[results,results173,go_sem,cw]) J bz
 have bu:decide (bZ<=bY)=F:=X a6
 rw[ak a6]at a5;have dT:=a4.cell bN;have dU:aH aE ⟨h,c,Z⟩=F:=by have cm:=a4.1;rw[aN.2,<-cv]at cm;exact uk cm c
 have dq:aI bb (λk=>k<(bE:N)\/k=h) aE (S c' da db) ay:=(cs.2.1.bw av).mono λk b6=>by rcases b6 with i|i<;>omega
 have cy:=a4.put bN dq;obtain⟨b2,b7⟩:=K (aj aE ⟨h,c,Z⟩ (S c' da db));rw[<-b7]at cy;have a8:M (λk=>k=h) aE b2:=by rw[b7];exact M.grown (bn _ _ _) (λk i=>X i.symm)
 have eg:=a8.cell dj O;have dV:=a8.cell ct O;have eh:=a8.free dl O O;have ds:=b3.trans (a8.bg O λk b6 i=>O);have dW:=a8.size;have bx:(b2.setCell ⟨ae+2,0,none⟩ (.slice (some ⟨h,0,none⟩) n w)).cell? ⟨ae+2,0,none⟩=some (.slice (some ⟨h,0,none⟩) n w):=World.cell?_setCell_same' _ _ _ (by rw[dV];rfl);have bz:fl g cO (aq (aZ #[ao #[S (A ⟨h,0,Z⟩) n w],au T])) (aj b2 ⟨ae+2,0,Z⟩ (S (A ⟨h,0,Z⟩) n w)):=by rw[a5];exact⟨_,_,_,rfl,(cy.off (by rw[List.length_set];have:=aN.oo.2;omega)).set _ _ aF (λk b6=>O),by rw[<-b5];exact fR ds O O⟩
 rw[bu];change H _ at bz bx;change H _ at b7;clear a6 bu a5 a4 b3 ds aG ax av b5 dm cv dn cy dq a8 ct dl dW;go_upto_region 8 with fail;rw[<-b7];clear dT dU dk dj;go_wp2_with fail;have cw:=bx.oo;exact b0 (v:=aZ #[ao #[S (A ⟨h,0,Z⟩) n w],au T]) (by simp[results,results173,go_sem,cw]) J bz
end
def z9(a:I)(d:W):ap ab 36 #[a] d (k4 d (decide (0<=a/\a<=1000000000000000000))):=by
 by_cases b:0<=a
 ·have e:decide (0<=a)=T:=by simpa using b
  by_cases c:a<=1000000000000000000
  ·have f:decide (a<=1000000000000000000)=T:=by simpa using c
   have B6:H (decide (0<=a/\a<=1000000000000000000)=T):=Q (by simp[b,c]);exact nR
  have f:decide (a<=1000000000000000000)=F:=X c
  have B6:H (decide (0<=a/\a<=1000000000000000000)=F):=Q (by simp[b,c]);exact nR
 have e:decide (0<=a)=F:=X b
 have B6:H (decide (0<=a/\a<=1000000000000000000)=F):=Q (by simp[b]);exact nR
abbrev f6:=aV
def hy(a:f6)(b:N):Zaa:=[cR,a5 (L a:I)]::(a.take b).flatMap k5
def gF(a:f6)(b c:N):Zaa:=hy a b++[e1,a5 ((aC a b).length:I)]::((aC a b).take c).map fI
def S1(a:f6):hy a (L a)=en a:=by unfold hy en;rw[List.take_length]
def z'(a:f6)(b:N)(c:b<L a):a.take (b+1)=a.take b++[aC a b]:=by rw[eR c];simp[aC,c]
def S2(a:ar)(b:N)(h:b<L a):a.take (b+1)=a.take b++[ah a b]:=sB
def S3(b:f6)(c a:N)(d:a<(aC b c).length):gF b c (a+1)=gF b c a++[fI (ah (aC b c) a)]:=by unfold gF;rw[S2 _ a d];simp
def Aa(a:f6)(b:N)(c:b<L a):gF a b (aC a b).length=hy a (b+1):=by unfold gF hy;rw[List.take_length,z' a b c];simp[k5]
def Ab(a:f6)(b:N):∃c,en a=hy a b++c:=⟨(a.drop b).flatMap k5,by unfold en hy;rw[List.cons_append,<-List.flatMap_append,g']⟩
def Ac(a:f6)(b c:N)(e:b<L a):∃d,en a=gF a b c++d:=by
 have⟨d,f⟩:=Ab a (b+1);refine⟨((aC a b).drop c).map fI++d,?_⟩;rw[f,<-Aa a b e];unfold gF;rw[List.take_length];conv=>lhs;rw[<-g' c (aC a b),ck]
 simp only[ev,List.cons_append,g']
def ns(a:f6):Prop:=∀b c d,(0<=(al (ah (aC a b) c) d).1/\(al (ah (aC a b) c) d).1<=1000000000000000000)/\0<=(al (ah (aC a b) c) d).2/\(al (ah (aC a b) c) d).2<=1000000000000000000
def oA(a:I)(b:0<=a)(c:a<=1000000000000000000):(a5 a).size<=20:=by show(Lib.itoa a).toArray.size<=20;rw[List.size_toArray];unfold Lib.itoa;rw[ak O];exact yT 19 a.toNat (Nat.lt_of_le_of_lt (bh (a.toNat<=1000000000000000000)) av)
def jw(a:bD):(cB a).size<=cv a+1:=by unfold cB;rw[ByteArray.size_append,yS];have:=t4 a;have:gO.size=1:=J;omega
def Ad(a:ag)(j:L a<=1000000)(d:∀c,(0<=(al a c).1/\(al a c).1<=1000000000000000000)/\0<=(al a c).2/\(al a c).2<=1000000000000000000):cv (fI a)<=26+42*L a:=by
 have k:=oA (L a:I) O O;have g:∀a:ag,(∀b∈a,(0<=b.1/\b.1<=1000000000000000000)/\0<=b.2/\b.2<=1000000000000000000)->cv (a.flatMap λb=>[a5 b.1,a5 b.2])<=42*L a:=by
  intro a;induction a with
   |nil=>intro _;simp[cv]
   |cons b a h=>intro d;have e:=d b fV;have:=oA b.1 e.1.1 e.1.2;have:=oA b.2 e.2.1 e.2.2;have:=h λb f=>d b (fs _ f);simp only[cv,List.flatMap_cons,ck,List.sum_append,dE,List.map_nil,d5,List.sum_nil,dx]at*;omega
 have l:=g a λb f=>by obtain⟨c,i,rfl⟩:=List.mem_iff_getElem.1 f;have:=d c;rwa [show al a c=a[c] by simp[al,i]]at this
 have m:cv (fI a)=md.size+1+((a5 (L a:I)).size+1)+cv (a.flatMap λb=>[a5 b.1,a5 b.2]):=by simp[cv,fI];omega
 have:md.size=4:=J;omega
def uG(d:f6)(z:L d<=1000)(n:eE d)(o:ns d):(bm (en d)).length<=91000000000:=by
 have h:∀i:Zaa,(bm i).length=(i.map λp=>(cB p).size).sum:=λi=>by simp only[bm,List.length_flatMap,<-Lib.size_eq]
 have q:∀a:ar,L a<=900000->a6 a<=900000->(∀b∈a,∀e,(0<=(al b e).1/\(al b e).1<=1000000000000000000)/\0<=(al b e).2/\(al b e).2<=1000000000000000000)->(bm (k5 a)).length<=90000000:=by
  intro a f g r;have j:∀a:ar,a6 a<=900000->(∀b∈a,∀e,(0<=(al b e).1/\(al b e).1<=1000000000000000000)/\0<=(al b e).2/\(al b e).2<=1000000000000000000)->(bm (a.map fI)).length<=27*L a+42*a6 a:=by
   intro a;induction a with
    |nil=>intro _ _;simp[bm]
    |cons b a k=>
     intro f g;have D:a6 (b::a)=L b+a6 a:=by simp[a6]
     have:=Ad b O (g b fV);have:=jw (fI b);have:=k O λb l=>g b (fs _ l);rw[h]at this⊢;simp only[dE,d5,dx];omega
  have s:=j a g r;have t:=oA (L a:I) O O;have u:=jw [e1,a5 (L a:I)];have v:cv [e1,a5 (L a:I)]=4+((a5 (L a:I)).size+1):=o0
  rw[h]at s⊢;unfold k5;simp only[dE,d5];omega
 have w:∀c,c<L d->(bm (k5 (aC d c))).length<=90000000:=λc x=>q _ (n c).2 (n c).1 λb l e=>by obtain⟨m,y,rfl⟩:=List.mem_iff_getElem.1 l;have:=o c m e;rwa [show ah (aC d c) m=(aC d c)[m] by simp[ah,y]]at this
 have j:∀c,c<=L d->(bm ((d.take c).flatMap k5)).length<=90000000*c:=by
  intro c;induction c with
   |zero=>intro _;simp[bm]
   |succ c k=>intro x;have f:=w c O;have g:=k O;rw[z' d c O,List.flatMap_append,nj,bL,List.flatMap_singleton];omega
 have f:=j (L d) (aL _);rw[List.take_length]at f;have t:=oA (L d:I) O O;have u:=jw [cR,a5 (L d:I)];have v:cv [cR,a5 (L d:I)]=5+((a5 (L d:I)).size+1):=o0
 rw[h]at f⊢;unfold en;simp only[dE,d5];omega
def S4{a:f6}(d:L a<=1000)(e:eE a)(f:ns a){b:Zaa}(g:∃c,en a=b++c):(bm b).length<=100000000000:=by obtain⟨c,h⟩:=g;have:=uG a d e f;rw[h,nj,bL]at this;omega
def mm(a:Zaa)(b:bD):bm a++(cB b).data.toList=bm (a++[b]):=by rw[nj];simp[bm]
def hz(a:N)(b:E UInt8)(c:W):Prop:=Lib.IsBuilderF 67 5 a a (Lib.byteCells b) c
def Ae{c d:bj}{e:aP}(j:Lib.BuilderAtF c d a b u e w)(h:B w w x):Lib.BuilderAtF c d a b u e x:=by obtain⟨n,Kl,i,o,p⟩:=j;exact⟨n,Kl,(h.block b (bM.1 i).1).trans i,o.kept (row:=Z) (dS h) mM,p⟩
def hz.bw{c:E UInt8}{Kx:W}(f:hz a c w)(e:B w w Kx):hz a c Kx:=f.elim (λb=>.inl (Ae b e)) (λb=>.inr (Ae b e))
def hz.lt{c:E UInt8}(d:hz a c w):a<w:=by rcases d with⟨_,g,b,_⟩|⟨_,g,b,_⟩<;>exact(bM.1 b).1
def jx(a:W)(b:N)(c:bj)(d:V):Prop:=a.heap[b]? =A (az #[d] c (0,0))
def jx.cell{b:bj}(c:jx w a b u):C w a=A u:=by rw[Lib.cell_of_heap c];rfl
def jx.bw{Kx:W}{b:bj}(c:jx w a b u)(g:B w w Kx):jx Kx a b u:=(g.block a (bM.1 c).1).trans c
def jx.QK{c:bj}(f:jx w a c u)(i:Lib.OthersKept 5 (A b) w x)(l:a≠b)(m:c≠5):jx x a c u:=i a _ f (X l) (λn o e=>m (by simp at e;exact e.2.1))
def rX(a:W)(c:V)(d:bj):∃b,a.alloc (az #[c] d)=b/\B a a b/\b.heap.size=(a:N)+1/\jx b a d c:=⟨_,J,aN _ _,D,World.alloc_heap_new _ _⟩
def Af(a:W):∃b,a.alloc (az #[aM Z,S Z 0 0] 67)=b/\B a a b/\b.heap.size=(a:N)+1/\hz a [] b:=⟨_,J,aN _ _,D,Lib.IsBuilderF.of (Lib.fresh_isBuilder _ _ a)⟩
def S5:(ab.info? 5).map (λa=>(a.zero,a.size,a.bytes))=A (A (aa .u8 0),1,1):=aT
def S6:(ab.info? 67).map (·.size)=A 2:=aT
def S7(a:N)(g:aP)(b:W)(c:Lib.IsBuilderF 67 5 a a g b):ap ab 34 #[aM (A a)] b λh d=>h=aq (aZ #[])/\(Lib.BuilderAtF 67 5 a a (aM (A a)) g d/\B a b d/\Lib.OthersKept 5 (A a) b d):=by
 have⟨p,e,j⟩:=Option.map_eq_some_iff.1 S6;rcases c with c|c
 ·have k:=c.cell0;have q:=c.frozen0;have l:=Lib.run_to_unsafe (P:=ab) b ⟨a,0,Z⟩ underlying64 underlying114 e (by rw[j];decide) c.shape (Nat.zero_lt_succ 1);have m:=Lib.run_from_unsafe (P:=ab) b ⟨a,0,Z⟩ underlying114 underlying64 e c.shape aT;have n:(callFunc 48 #[aM (A a)]).run ab b= .ok (.value (aM (A a))) b:=by rw[run_callFunc_extern func48 aT aT aT (e:=Extern.AbiNoEscape.same) aT,Lib.run_noEscape];rfl
  have f:=Q (U (c.used (aM (A a))) (U ((aS a b).setCell (p:=⟨a,0,Z⟩) c.1 (aM (A a))) ((Lib.OthersKept.refl 5 (A a) b).setCell a J (aM (A a)))));go_in;go_wp2_with (first|rw[l]|rw[n]|rw[m]);go_end0;exact⟨J,f⟩
 have k:=c.cell0;have o:=Lib.run_neq_ptr_same (P:=ab) b ⟨a,0,Z⟩ underlying64 e;have f:=Q (U c (U (aS a b) (Lib.OthersKept.refl 5 (A a) b)));go_in;go_wp2_with (rw[o]);go_end0;exact⟨J,f⟩
def lg(a:N)(c:E UInt8)(b:ByteArray)(d:W)(q:hz a c d)(x:L c+b.size<=100000000000):ap ab 21 #[aM (A a),a7 b] d λk l=>k=aq (aZ #[b.size,.nilIface])/\hz a (c++b.data.toList) l/\B a d l/\Lib.OthersKept 5 (A a) d l:=by
 have⟨y,z,D,G,K⟩:=ew S5;have M:=Q (S7 a (Lib.byteCells c) d q);have ae:=q.lt;have ag:(Lib.byteCells c).length+b.size<=100000000000:=by rw[Lib.byteCells_length];exact x
 have r:Lib.byteCells c++Lib.strCells b=Lib.byteCells (c++b.data.toList):=by rw[Lib.strCells_eq,<-Lib.byteCells_append]
 change H _ at r;go_in;go_wp2_with fail;refine mU M λs ⟨O,m,P⟩=>?_;obtain⟨t,u,i,n,R⟩:=O;have ah:C s a=A (aM (A a)):=by rw[Lib.cell_of_heap i];rfl
 have ai:C s ⟨a,1,Z⟩=A u:=by rw[Lib.cell_of_heap i];rfl
 go_wp2_with (at_builtin;refine Lib.wpList_append_own_stringF _ J _ _ 65 9 J a 5 y underlying65 underlying9 z D G K _ _ _ J n b J ?c3 ?c4 ?c5 ?_);case c3=>unfold maxLen;omega
 case c4=>omega
 case c5=>have:=m.size;omega
 intro U f v o _;have j:=(o.block a ((bM.1 i).1) (λk=>R k.symm)).trans i;have ak:C f a=A (aM (A a)):=by rw[Lib.cell_of_heap j];rfl
 have al:C f ⟨a,1,Z⟩=A u:=by rw[Lib.cell_of_heap j];rfl
 have f1:=Lib.frozen_of_heap j 1;obtain⟨g,h,e,rfl⟩:∃g h e,U=S g h e:=by rcases v.2 with⟨p,_⟩|⟨am,e,an,ar,p,_⟩;exact⟨_,_,_,p⟩;exact⟨_,_,_,p⟩
 have w:hz a (c++b.data.toList) (aj f ⟨a,1,Z⟩ (S g h e))/\B a d (aj f ⟨a,1,Z⟩ (S g h e))/\Lib.OthersKept 5 (A a) d (aj f ⟨a,1,Z⟩ (S g h e)):=by refine⟨.inr ?_,(m.grown o (Y m.size) (λX ad=>(n.lt X ad).1)).setCell (p:=⟨a,1,Z⟩) t _,(P.grown o (Lib.ownsRowF_kind n)).setCell ⟨a,1,Z⟩ J _⟩;rw[<-r];exact @Lib.BuilderAtF.put 67 5 _ _ _ _ _ (Lib.byteCells c++Lib.strCells b) _ t j (by rw[bL,Lib.strCells_length];exact v) av
 change H _ at w;go_wp2;go_ret2;exact⟨J,w⟩
def Ag(a:N)(b:E UInt8)(c:W)(e:hz a b c)(f:b≠[]):ap ab 24 #[aM (A a)] c λg d=>g=aq (a7 ⟨b.toArray⟩)/\B a c d:=by refine mU (Builder_String_f a a b c e f) λd ⟨_,h⟩=>?_;exact⟨J,h⟩
def p3(a b:ByteArray)(c:W)(d:a.size+b.size<=1000000):ap ab 19 #[S (A (c:N)) 2 2] (c.alloc (az #[a7 a,a7 b] 9)) (ch (c.alloc (az #[a7 a,a7 b] 9)) (a7 (cB [a,b]))):=pL _ [a,b] _ (jh c [a,b] D) (by simp[cv];omega)
def S8(b a:I)(ha:0<b)(d:0<a):gV b a=(ou b a,T):=by
 have e:j' b a=F:=by unfold j';rw[lz.2 (bh (a≠0)),lz.2 (bh (b≠-9223372036854775808))];rfl
 unfold gV ou;rw[e,ak D,c9 (bh (¬b<0)),c9 (bh (¬a<0))];rw[Int.tdiv_eq_ediv_of_nonneg O,Int.tmod_eq_emod_of_nonneg O];have i:=Int.mul_ediv_add_emod b a;have j:=Int.emod_nonneg b (bh (a≠0));have k:=Int.emod_lt_of_pos b d;have f:b+a-1=(b%a+a-1)+a*(b/a):=O
 rw[f,Int.add_mul_ediv_left _ _ (bh (a≠0))];by_cases c:b%a=0;have g:(a-1)/a=0:=Int.ediv_eq_zero_of_lt O O;rw[c,show(0:I)+a-1=a-1 by omega,g];simp;have h:(b%a+a-1)/a=1:=by rw[show b%a+a-1=(b%a-1)+a*1 by omega,Int.add_mul_ediv_left _ _ (bh (a≠0)),Int.ediv_eq_zero_of_lt O O];rfl
 rw[h];simp[c];omega
def Ah(g h:I)(i:V)(a j b k l:I)(c:N)(d:W)(x:0<=b)(y:b<=2147483648)(n:0<=a)(o:a<=2147483648)(z:c<=64):ap ab 162 #[ao #[g,h,i,a,j,b,k,l],c] d λp q=>p=aq (gy a b c)/\B d d q:=by
 have⟨r,m,s,t,u⟩:=da d g h i a j b k l;obtain⟨D,G,M,P,R,U,X,Y⟩:=u;have ad:(d:N)<r:=O
 have⟨f,e⟩:=K (a*(c:I));have ae:0<=f:=by rw[e];exact Int.mul_nonneg n O
 have ag:f<=137438953472:=by rw[e];exact Int.le_trans (Int.mul_le_mul o (bh ((c:I)<=64)) O O) av
 have ah:=e.symm;have v:gy a b c=max (f-b) 0:=by unfold gy;rw[e]
 change H _ at m;clear t e;have w:=Q v;go_in;go_wp2_with fail;rw[m];go_wp2;go_ret;exact⟨nQ w.symm,s⟩
def S9(m:I)(n:V)(b e c o p:I)(a:N)(f:I)(j:W)(aF:1<=e)(aG:e<=2147483648)(z:0<=c)(D:c<=2147483648)(G:0<=b)(s:b<=2147483648)(M:a<=64):ap ab 161 #[ao #[(2:I),m,n,b,e,c,o,p],a,f] j λP R=>P=aq (rJ b c e a f)/\B j j R:=by
 have⟨t,u,U,aI,v⟩:=da j 2 m n b e c o p;have Y:=Q v;obtain⟨w,ad,ae,ag,ah,ai,al,an⟩:=v;have aJ:=aR t _ w;have ar:=Q (Ah 2 m n b e c o p a t z D G s M);have ax:0<=gy b c a/\gy b c a<=137438953472:=by have:b*(a:I)<=137438953472:=Int.le_trans (Int.mul_le_mul s (bh ((a:I)<=64)) O O) av;unfold gy;omega
 have q:rJ b c e a f=if gy b c a=0 then 0 else if min f e<1 then(a:I)else min (ou (gy b c a) (min f e)) a:=J;generalize gy b c a=h at*;obtain⟨aK,aL⟩:=ax;have x:=Q U;change H _ at u q;go_in;go_wp2_with fail;rw[u];go_wp2_with fail;refine mU ar λay y=>?_;have Gh:=Q (x.oo.trans (y.mono x.size));have aA:=Y.bw y;obtain⟨w,ad,ae,ag,ah,ai,al,an⟩:=aA;by_cases g:h=0
 ·have d:=q.oo;rw[am g]at d;have B6:=Q d;have aC:(h==0)=T:=by simpa using g
  exact sS
 have aC:(h==0)=F:=X g
 have d:=q.oo;rw[ak g]at d;have⟨i,k⟩:=K (min f e);rw[<-k]at d;have aN:=k.symm;by_cases l:i<1
 ·rw[am l]at d;have B6:=Q d;have aD:decide (i<1)=T:=by simpa using l
  clear g d k;exact sS
 rw[ak l]at d;have aD:decide (i<1)=F:=X l
 have r:=yJ h i ay (ek.2 O);rw[S8 h i O O]at r;have aE:=Q r;have B6:=Q d;clear d r g k;go_wp2_with fail;refine mR aE ?_;exact sS
def ih(a b:I):N->I
 |0=>0
 |c+1=>ih a b c+max (a-b*((c:I)+1)) 0
def lh(a b c:I)(d:N):I:=c*ih a b d
def Ai{e:I}(b:eH i j k l e)(a:N):0<=ih i j a/\ih i j a<=2147483648*a:=by
 induction a with
  |zero=>simp[ih]
  |succ a h=>have:=b.jl;have:=b.gC;have:=Int.mul_nonneg b.fJ (bh ((0:I)<=a+1));rw[ih];omega
def Aj{b:I}(d:eH i j k l b)(n:a<=64):0<=lh i j b a/\lh i j b a<=140737488355328:=by have g:=Ai d a;unfold lh;have o:=Int.mul_nonneg d.tF g.1;have p:b*ih i j a<=1024*137438953472:=Int.mul_le_mul d.th O g.1 O;omega
def S'(m n:I)(o:V)(a i c j e:I)(d:N)(k:W)(t:eH c a i j e)(R:d<=64):ap ab 167 #[ao #[m,n,o,a,i,c,j,e],d] k (e3 k (lh c a e d)):=by
 have⟨u,v,w,aI,U⟩:=da k m n o a i c j e;have f:=Q t;have X:=Aj t R;have p:aB (lh c a e d)=lh c a e d:=cV O O;have Y:H (aB (e*ih c a d)=lh c a e d):=Q p;obtain⟨ad,ae,ag,ah,ai,ak,al,am⟩:=U;change H _ at v;go_in;go_upto_region 1 with(fail)
 rw[v];go_quiet (fail);go_wp2;go_loopw [5,6,10] (λan ar q wr=>∃b:N,b<=d/\q=(b:I)/\ar=(c-a*b:I)/\an=(ih c a b)/\B u u wr) (λ_ _ q _=>d-(aw q).toNat);exact⟨0,a3 _,J,D,J,eb (aS _ _) _⟩;obtain⟨b,aJ,rfl,rfl,rfl,x⟩:=hrel;obtain⟨aL,aN,aO,aP,aQ,aR,aT,aU⟩:bZ wr k m n o a i c j e:=bZ.bw ⟨ad,ae,ag,ah,ai,ak,al,am⟩ x;have y:=Q x;by_cases aV:b<d
 ·have av:=pY f.fJ f.jm (bh (b<=65));have ax:=pY f.fJ f.jm (bh (b+1<=65));have ay:a*((b+1:N):I)=a*b+a:=by rw[Int.natCast_succ,Int.mul_add,Int.mul_one]
  have X:=Ai f b;have l:ih c a (b+1)=ih c a b+max (c-a*((b:I)+1)) 0:=J;have:=f.jk;have:=f.jl;have:=f.gC;have⟨aA,z⟩:=K (c-a*b);have⟨g,r⟩:=K (c-a*((b+1:N):I));have G:c-a*((b:I)+1)=g:=by rw[r,Int.natCast_succ]
  rw[G]at l;have p:aB (aA-a)=g:=by rw[cV O O];omega
  obtain⟨h,aC⟩:∃h,max g 0=h:=⟨_,J⟩
  rw[aC]at l;have aD:(if g<0 then(0:I)else g)=h:=by split<;>omega
  generalize ih c a b=s at*;have aE:aB (s+h)=s+h:=cV O O;have M:=Q aD;have aF:=Q p;have P:=Q aE;rw[<-z];have aW:(b:I)<d:=O
  change H _ at l r;clear z G av ax ay;go_wp2;go_roundw;case rel=>exact⟨b+1,O,aK,by rw[<-r];first|rfl|rw[aF],by rw[l];first|rfl|rw[M]|rw[M,P]|rw[P],y⟩
  simp[aw];omega
 have aG:b=d:=O
 subst aG;generalize ih c a b=s at*;go_wp2;go_ret;rw[<-Y];exact⟨J,w.trans (y.mono w.size)⟩
def li(a:N):I:=((a8 a 0 64).length:I)
def Ta(a:N):0<=li a/\li a<=64:=by have:=lD a 0 64;unfold li;omega
def km(b:br):N->I
 |0=>0
 |a+1=>if a=0\/li (b6 b a)<km b a then li (b6 b a)else km b a
def p4(a:br):I:=km a (L a)
def Tb(b:br)(a:N):0<=km b a/\km b a<=64:=by
 induction a with
  |zero=>simp[km]
  |succ a c=>have:=Ta (b6 b a);rw[km];split<;>omega
def Tc(i:V)(a:br)(e:W)(hp:cA e i a)(j:∀k∈a,k<18446744073709551616)(v:L a<=1000):ap ab 190 #[i] e λo p=>o=aq (p4 a)/\e=p:=by
 obtain⟨w,d,x,rfl,Da,_,_,l⟩:=hp.open;have y:d<=1000:=O
 change H _ at l Da j;go_in;go_wp2;go_loopw [3,9] (λq f wr=>∃(JN:N) (b:I),JN<=d/\f=JN/\q=b/\b=km a JN/\wr=e) (λ_ f _=>d-(aw f).toNat);exact⟨0,0,a3 _,J,J,J,J⟩;obtain⟨JN,b,z,rfl,rfl,g,rfl⟩:=hrel;have c:km a (JN+1)=if JN=0\/li (b6 a JN)<b then li (b6 a JN)else b:=by rw[km,<-g]
 change H _ at g;by_cases Ch:JN<d
 ·obtain⟨D,G,rfl,K,M⟩:=l JN Ch;have m:=O7 (b6 a JN) wr (j _ (m0 c1));rw[show((a8 (b6 a JN) 0 64).length:I)=li (b6 a JN)from J]at m;have HU:=Q m;generalize li (b6 a JN)=Jo at*;generalize b6 a JN=k at*;have P:=aJ JN;have R:(JN:I)<d:=by omega
  by_cases n:JN=0
  ·have s:((JN:I)==0)=T:=by simp;omega
   rw[am (.inl n)]at c;have C0:=Q c;clear n c;exact wh
  have s:((JN:I)==0)=F:=aF
  by_cases h:Jo<b
  ·have t:decide (Jo<b)=T:=by simpa using h
   rw[am (.inr h)]at c;have C0:=Q c;exact wh
  have t:decide (Jo<b)=F:=X h
  rw[ak O]at c;have C0:=Q c;go_wp2_with fail;refine mR HU ?_;go_wp2;go_roundw;case rel=>exact⟨JN+1,b,O,aK,J,C0.symm,dk⟩
  simp[aw];omega
 have u:JN=d:=O
 have B6:H (p4 a=b):=Q (by unfold p4;rw[g,Da,u]);exact mQ
def Td(d:I)(b:V)(e f g h i l:I)(m:N)(a:br)(c:W)(hp:cA c b a)(n:∀o∈a,o<18446744073709551616)(p:L a<=1000):ap ab 161 #[ao #[(1:I),d,b,e,f,g,h,i],m,l] c (e3 c (p4 a)):=by
 have⟨q,j,k,t,r⟩:=da c 1 d b e f g h i;have s:=Q (Tc b a q (hp.bw k) n p);obtain⟨u,v,w,x,y,z,D,G⟩:=r;change H _ at j;go_in;go_upto_region 1 with(fail)
 rw[j];go_wp2_with fail;refine mR s ?_;go_wp2;go_ret;exact⟨J,k⟩
def hA(a:ad):N->I
 |0=>b3 a 0
 |b+1=>min (hA a b) (b3 a b)
def Te(a:ad)(b:N):hA a (b+1)=min (hA a b) (b3 a b):=J
def Tf{b:ad}(c:∀d,0<=b3 b d/\b3 b d<=9007199254740992)(a:N):0<=hA b a/\hA b a<=9007199254740992:=by
 induction a with
  |zero=>exact c 0
  |succ a e=>have:=c a;rw[hA];omega
def rY{c:br}(d:cA w u c):∃a f b,u=S a f b:=by obtain⟨a,b,rfl,_⟩:=d;exact⟨_,_,_,J⟩
def lj(b:N)(a:Cu):Prop:=dR b a/\(a.kd=1->1<=a.dm/\a.dm<=2147483648)
def e6(b:N)(c:I)(a:Cu):I:=if a.kd=1 then p4 a.ps else rJ a.rt a.st a.sz b c
def oB(b:N)(a:Cu):I:=if a.kd=1 then 0 else lh a.st a.rt a.hd b
def oC(b:N)(d:I)(c:ad)(a:Cu):I:=if decide (a.kd=1\/a.ru=1)&&(eJ a d c b).2 then hv a.kd a.st a.rt a.sz a.hd c (eJ a d c b).1 b else e6 b d a*hA c b+oB b a
def Ak{b:Cu}(d:I)(f:dR a b)(g:a<=64):0<=e6 a d b/\e6 a d b<=64:=by
 unfold e6;rcases f with⟨e,_⟩|⟨e,h⟩;rw[am e];exact Tb _ _;rw[ak O];unfold rJ;split;omega;split;omega;have i:0<=gy b.rt b.st a:=by unfold gy;omega
 have:0<=ou (gy b.rt b.st a) (min d b.sz):=by unfold ou;exact Int.ediv_nonneg O O
 omega
def Tg(g:ad)(c:N):∀d∈c6 g c,∃a,a<c/\d.2=ae g a:=by
 induction c with
  |zero=>intro d b;cases b
  |succ c h=>intro d b;rw[c6]at b;split at b;rcases eh.1 b with e|e;have⟨a,i,f⟩:=h d e;exact⟨a,O,f⟩;simp at e;subst e;exact⟨c,O,J⟩;have⟨a,i,f⟩:=h d b;exact⟨a,O,f⟩
def Th{d:Cu}{Jv:I}{Jd:ad}(m:lj a d)(o:a<=64):∀c∈(eJ d Jv Jd a).1,bB c.2=T:=by
 unfold eJ;rcases m with⟨⟨i,_⟩|⟨i,e⟩,g⟩
 rw[am i];have:=g i;intro c b;dsimp only at b;unfold ml at b;split at b;cases b;unfold mj at b;obtain⟨j,_,rfl⟩:=List.mem_map.1 b;exact ek.2 (by dsimp only;omega);rw[ak O];split;unfold rV;split;intro c b;cases b;intro c b;dsimp only at b;unfold g0 at b;have⟨j,g,h⟩:=Tg _ _ c b;rw[rQ]at g;rw[zM g]at h;generalize mk _ _ _=n at h;have:=zV e n j O;have:=e.k9;have:=e.gC;unfold qS at h;refine ek.2 ?_;split at h<;>omega;have k:=λl=>ux (JT:=l) (J':=d.rt) (Jv:=Jv) (Kd:=d.st) (J0:=a) (show 0<=d.sz by have:=e.k9;omega) e.gC;dsimp only;unfold nr;split;exact k T;split;exact k F;intro c b;cases b
def Al(a:Cu)(f:V)(g:I)(d:N)(e:W)(i:dR d a)(j:d<=64)(hp:cA e f a.ps):ap ab 161 #[ao #[a.kd,a.dm,f,a.rt,a.sz,a.st,a.ru,a.hd],d,g] e (e3 e (e6 d g a)):=by have k:=λb=>dR.words i j b;obtain⟨s,l,r,m,n,o,p,q⟩:=a;unfold e6;rcases i with⟨b,_⟩|⟨b,c⟩;have h:=k b;clear k;simp only at b h hp⊢;subst b;rw[am J];exact Td l f m n o p q g d r e hp h.2 h.1;simp only at b c hp⊢;subst b;rw[ak av];exact S9 l f m n o p q d g e c.k9 c.gC c.jk (bi c.jl c.gC) c.fJ c.jm j
def Ti(a:Cu)(bk ar:V)(f:I)(b:N)(c:ad)(o:W)(p:lj b a)(y:b<=64)(hp:cA o bk a.ps)(aI:aX o ar c)(IQ:∀aJ∈c,0<=aJ/\aJ<=9007199254740992):ap ab 124 #[ao #[a.kd,a.dm,bk,a.rt,a.sz,a.st,a.ru,a.hd],b,f,ar] o (e3 o (oC b f c a)):=by
 have aL:∀q,0<=b3 c q/\b3 c q<=9007199254740992:=λq=>vD
 have aU:=Th (Jv:=f) (Jd:=c) p y;have aV:=(rW (Jv:=f) (Jd:=c) p.1 y).2;have aW:a.kd=1\/a.kd=2/\eH a.st a.rt a.sz a.ru a.hd:=by rcases p.1 with⟨h,_⟩|h;exact .inl h;exact .inr h
 have aY:=Ak f p.1 y;have i:oC b f c a=if decide (a.kd=1\/a.ru=1)&&(eJ a f c b).2 then hv a.kd a.st a.rt a.sz a.hd c (eJ a f c b).1 b else e6 b f a*hA c b+oB b a:=J;have a0:a.kd=1/\oB b a=0\/a.kd=2/\eH a.st a.rt a.sz a.ru a.hd/\oB b a=lh a.st a.rt a.hd b:=by unfold oB;rcases aW with h|⟨h,av⟩;exact .inl ⟨h,by rw[am h]⟩;exact .inr ⟨h,av,by rw[ak O]⟩
 obtain⟨ax,ay,aA,rfl⟩:=rY hp;have a1:=λg h=>Al a (S ax ay aA) f b g p.1 y h;have a2:=λg h hp=>uy a (S ax ay aA) ar f b c g p.1 y h hp IQ;have⟨j,bl⟩:=K (e6 b f a);have⟨aC,bm⟩:=K (oB b a);have⟨bK,bn⟩:=K (eJ a f c b);rw[<-bl]at aY a1 i;rw[<-bm]at i a0;rw[<-bn]at aU aV a2 i;have⟨aN,bo⟩:=K (oC b f c a);rw[<-bo]at i⊢;clear bl bm bn bo p;obtain⟨bq,aJ⟩:=bK;obtain⟨l,a4,b6,aO,aP,aQ,r,aR⟩:=a;dsimp only at*;have⟨s,br,k,bL,bs⟩:=da o l a4 (S ax ay aA) aO aP aQ r aR;have a5:=Q bs;have bt:=Q (a2 s (hp.bw k) (aI.bw k));have bu:=Q (λg bM h bN=>zZ l a4 (S ax ay aA) ar bM aO aP aQ r aR b c bq g aW y ((aI.bw k).bw h) aL bN aV aU);have bv:=Q (λg h=>a1 g ((hp.bw k).bw h));have bx:=Q (λg q h=>us ar c q g ((aI.bw k).bw h));have bz:(o:N)<=s:=k.size;obtain⟨z,D,G,M,P,R,U,ae⟩:=bs;obtain⟨t,aT⟩:∃t:Bool,t=decide (l=1\/r=1):=⟨_,J⟩
 rw[<-aT]at i;change H _ at br;change H _ at aT i aL a0;clear bL hp aI IQ aW aU aV a1 a2;go_in;go_upto_region 1 with(fail)
 rw[br];go_cut [21] (λbO a6=>bO=au t/\s=a6);case first=>
  have bP:((l==1)=T/\H (t=T))\/((l==1)=F/\(r==1)=T/\H (t=T))\/((l==1)=F/\(r==1)=F/\H (t=F)):=by have h:=aT.oo;by_cases u:l=1;exact .inl ⟨X u,by rw[h,dD (Or.inl u)];rfl⟩;by_cases aD:r=1;exact .inr (.inl ⟨X u,X aD,by rw[h,dD (Or.inr aD)];rfl⟩);exact .inr (.inr ⟨X u,X aD,by rw[h,c9 O];rfl⟩)
  rcases bP with⟨u,a8⟩|⟨u,aD,a8⟩|⟨u,aD,a8⟩;all_goals go_wp2;go_meet;exact⟨by rw[a8.out],J⟩
 case rest=>
 obtain⟨rfl,rfl⟩:=hcut;obtain⟨s,rfl⟩:=K s;go_upto_if 21 with fail;go_cut [] (λa6=>B s s a6/\H (aN=j*hA c b+aC));case first=>
  cases t with
   |true=>
    go_wp2_with fail;refine mE bt λag bR ⟨a9,aE⟩=>?_;cases aJ with
     |true=>have bS:=Q (bu ag bR aE a9.sk);have ah:=Q (k.trans (aE.mono bz));have bT:H (aN=hv l aQ aO aP aR c bq b):=Q i;have⟨z,D,G,M,P,R,U,ae⟩:=a5.bw aE;clear a9 aE;go_wp2_with fail;refine mU bS λbA m=>?_;have ai:=ah.trans (m.mono ah.size);go_wp2;go_ret;rw[bT];exact⟨J,ai⟩
     |false=>have h:H (aN=j*hA c b+aC):=Q i;clear a9;go_wp2;go_meet;exact⟨aE,h⟩
   |false=>have h:H (aN=j*hA c b+aC):=Q i;go_wp2;go_meet;exact⟨aS _ _,h⟩
 case rest=>
 obtain⟨aF,al⟩:=hcut;obtain⟨ag,rfl⟩:=K wc;have bB:=Q (λd=>Tf aL d);have ah:=Q (k.trans (aF.mono bz));have bC:(o:N)<=ag:=ah.size;have bD:=Q (λq=>bx ag q aF);have bE:=Q (bv.oo ag aF);have bU:=a5.bw aF;obtain⟨z,D,G,M,P,R,U,ae⟩:=bU;have bF:b3 c 0=hA c 0:=J;change H _ at bF;clear aF a5 bt bu bv bx aT i;go_wp2_with fail;refine mR (bD 0) ?_;rw[bF];go_wp2;go_loopw [11,39] (λbV ba wr=>∃(d:N) (e:I),d<=b/\ba=(d:I)/\bV=e/\e=hA c d/\ag=wr) (λ_ ba _=>b-(aw ba).toNat);exact⟨0,hA c 0,a3 _,J,J,J,J⟩;obtain⟨d,e,b7,rfl,rfl,an,rfl⟩:=hrel;by_cases b8:d<b
 ·have b9:(d:I)<b:=by omega
  have v:=Te c d;rw[<-an]at v;have bG:=Q (bD.oo d);have k:=aL d;generalize b3 c (d:I)=n at*;have w:=bB d;rw[<-an]at w;by_cases h:n<e
  ·have bb:min e n=n:=by omega
   have bW:decide (n<e)=T:=dD h;have b':decide (e<n)=F:=c9 O;rw[bb]at v;have bc:=Q v;clear v an;go_wp2_with fail;refine mR bG ?_;go_wp2;go_roundw;case rel=>exact⟨d+1,n,O,aK,by first|rfl|(simp;omega),bc.symm,dk⟩
   simp[aw];omega
  have bb:min e n=e:=O
  have bW:decide (n<e)=F:=c9 h;rw[bb]at v;have bc:=Q v;clear v an;go_wp2_with fail;refine mR bG ?_;go_wp2;go_roundw;case rel=>exact⟨d+1,e,O,aK,by first|rfl|(simp;omega),bc.symm,dk⟩
  simp[aw];omega
 have bX:d=b:=O
 subst bX;have w:=bB d;have x:=al.oo;rw[<-an]at w x;have bY:0<=j*e/\j*e<=576460752303423488:=⟨Int.mul_nonneg aY.1 w.1,Y (Int.mul_le_mul aY.2 w.2 w.1 O)⟩
 have bH:aB (j*e)=j*e:=cV O O;have⟨be,bf⟩:=K (j*e);have bI:H (aB (j*e)=be):=Q (by rw[bH,bf]);rw[<-bf]at bY x;clear an bH bf w al;rcases a0.oo with⟨bg,aG⟩|⟨bg,av,aG⟩;·rw[aG,Int.add_zero]at x;have al:=Q x;subst bg;clear aG x;go_wp2_with fail;refine mU bE λbA m=>?_;have⟨z,D,G,M,P,R,U,ae⟩:=(bZ.mk z D G M P R U ae).bw m;have ai:=ah.trans (m.mono bC);go_wp2;go_ret;rw[al];exact⟨by first|rfl|(rw[bI];rfl),ai⟩
 subst bg;have b0:=Aj av (bh (d<=64));have bJ:=Q (λg=>S' 2 a4 (S ax ay aA) aO aP aQ r aR d g av O);rw[<-aG]at bJ b0;have bi:aB (be+aC)=be+aC:=cV O O;have al:=Q x;change H _ at bi;clear aG av x;go_wp2_with fail;refine mU bE λbA m=>?_;have⟨z,D,G,M,P,R,U,ae⟩:=(bZ.mk z D G M P R U ae).bw m;have ai:=ah.trans (m.mono bC);have b2:=ai.size;clear m;go_wp2_with fail;refine mU (bJ _) λca b4=>?_;have b5:=ai.trans (b4.mono b2);go_wp2;go_ret;rw[al];exact⟨by first|rfl|(rw[bi];rfl)|(rw[bI,bi];rfl),b5⟩
def lk(b:ai)(a:N):N->I
 |0=>bC b 0 a
 |c+1=>if c=a then lk b a c else min (lk b a c) (bC b c a)
def rZ(a:ai)(b c:N):I:=lk a (c+1) (b+1)
def Am{q:Array bd}{r:E bd}{g:bd}{h:a'}{s:bJ}(G:g.guard=Z)(k l:Operand)(H:g.op= .call {callee:=.builtin .copy,args:=#[k,l],argTypes:=#[22,22]})(e:W)(t:N)(b a f:N)(K c:ad)(u:V)(M:h.eval k=S (A b) a f)(P:h.eval l=u)(Q:ay e t (S (A b) a f) K)(R:aX e u c)(d:L c=a)(aC:0<a)(U:∀m,ay m t (S (A b) a f) c->e.grownBy m (A b)->wpList ab q s r (h.put g.dst (goInt a)) m):wpList ab q s (g::r) h e:=by
 obtain⟨aD,Y⟩:=Q;rcases Y with⟨ae,_⟩|⟨aE,aF,i,j,ag,v,aG,ah,ai,aI⟩;simp at ae;simp only[bf,a2,bN,bT]at j;obtain⟨rfl,aJ,rfl⟩:=j;obtain⟨aK,ak,rfl,g1,g2,w⟩:=R;obtain⟨n,o,rfl,_⟩:=w 0 O;have al:(c.map (aa ac)).length=Nat.min (L c) a:=by rw[de,d];simp
 refine wpList_copy_own G k l _ _ H 3 underlying22 aT b 0 a f ⟨n,o,Z⟩ (L c) ak M P i 3 v (c.map (aa ac)) al (λp am x=>?_) qp (by intro am j;obtain⟨aL,_,rfl⟩:=List.mem_map.1 j;rfl) ?_;rw[List.getElem?_map]at x;obtain⟨aN,y,rfl⟩:=Option.map_eq_some_iff.1 x;have z:=(mX.1 y).1;have⟨aO,aP,D,an⟩:=w p z;simp only[a2,bN,bT]at D;obtain⟨rfl,rfl⟩:=D;have ha:(⟨n,o,Z⟩:bQ).add p=⟨n,o+p,Z⟩:=hM
 rw[ha,an,e9 z];have:=(mX.1 y).2;rw[this];rw[de,d];simp only[List.take_zero,List.nil_append,bX];refine U _ ?_ ⟨J,J,J,by simp[World.setRow],λar aQ av=>setRow_other e b ar _ (X av)⟩;refine⟨by simp[d],.inr ⟨b,f,(c.map (aa ac)++i.toList.drop a).toArray,by rw[d],ag,setRow_heap e b i _ _ _ v,O,ah,?_,?_⟩⟩;simp[d];have:i.toList.length=f:=X ai
 simp at this;omega;rw[d,Nat.mul_one];simp;rw[List.take_append_of_le_length (by simp[d]),cm (by simp[d])]
def eq(a:W)(b:N)(c d:V)(f g:ad):Prop:=ay a b c f/\ay a b d g/\∀e,af c=A e->af d≠A e
def r0(a:W)(e f:ad)(g:bp)(b:W):Prop:=∃c d,g=aq (ao #[c,d])/\eq b a c d e f/\B a a b
def eq.bw{Kx:W}{I' c:ad}(b:eq w a u v I' c)(e:B w w Kx):eq Kx a u v I' c:=⟨b.1.bw e,b.2.1.bw e,b.2.2⟩
def eq.mono{B':N}{c d:ad}(b:eq w a u v c d)(e:B'<=a):eq w B' u v c d:=⟨b.1.mono e,b.2.1.mono e,b.2.2⟩
def eq.kept{g h:ad}{r:Option N}(e:eq w a u v g h)(o:w.grownBy x r)(p:∀b,r=A b->b<a):eq x a u v g h:=by
 have k:∀(d:V) (f:ad),ay w a d f->ay x a d f:=λd f l=>l.kept o (by
  cases q:af d with
   |none=>exact .inl J
   |some b=>exact .inr (λs=>bi (p b s.symm) ((l.lt b q).1)))
 exact⟨k _ _ e.1,k _ _ e.2.1,e.2.2⟩
def An{e:ad}(g:ay w a u e)(i:L e=b)(hp:0<b):∃c d,u=S (A ⟨c,0,Z⟩) b d:=by subst i;have⟨c,d,j,_⟩:=g.out hp;exact⟨c,d,j⟩
def eq.form{h i:ad}(j:eq w a u v h i)(m:L h=b)(n:L i=b)(hp:0<b):∃d e f g,u=S (A ⟨d,0,Z⟩) b e/\v=S (A ⟨f,0,Z⟩) b g:=by have⟨d,e,o⟩:=An j.1 m hp;have⟨f,g,p⟩:=An j.2.1 n hp;exact⟨d,e,f,g,o,p⟩
def Ao{m:Array bd}{n:E bd}{h:bd}{i:a'}{o:bJ}(s:h.guard=Z)(k l:Operand)(t:h.op= .call {callee:=.builtin .append,args:=#[k,l],argTypes:=#[22,22]})(a:W)(e:N)(f:V)(c:ad)(j:I)(u:i.eval k=f)(v:i.eval l=S (A (a:N)) 1 1)(p:ay a e f c)(w:L c+1<=1000000000000)(x:e<=(a:N))(y:∀d q b,ay b e (S (A ⟨d,0,Z⟩) (L c+1) q) (c++[j])->a.grownBy b (af f)->B e a b->(af f=A d\/a<=d)->d<b.heap.size->wpList ab m o n (i.put h.dst (S (A ⟨d,0,Z⟩) (L c+1) q)) b):wpList ab m o (h::n) i (a.alloc (az #[j] 3)):=by have z:=p.lt;refine fr s k l 22 3 (0:I) 1 8 underlying22 hR J av av t _ e f (L c) (c.map (aa ac)) [j] a u v (ax.new a [j] _) J eP (World.ownsRow.alloc p _) w aF ?_;intro d D b G H R g U K;have r:a.grownBy b (af f):=c2 (World.grownBy_alloc a _ _) H;refine y d D b (by unfold ay;simpa using G) r ((aS e a).grown r x (λM O=>(z M O).1)) ?_ K;rcases g with g|g;exact .inl g;exact .inr (by rw[g];simp)
def Ap{J0 Ju:N}{o i:ad}(ha:ay w a u o)(k:ay w a v i)(l:∀c,af u=A c->af v≠A c)(p:w.grownBy x (af u))(e:af u=A b\/w<=b):ay x a v i/\∀c,(S (A b) J0 Ju).ownBlock=A c->af v≠A c:=by
 refine⟨k.kept p ?_,λc n f=>?_⟩;cases r:af v with
 |none=>exact .inl J
 |some c=>exact .inr (λf=>l c f.symm r)
 simp only[af,a2]at n;subst n;rcases e with e|e;exact l _ e f;have:=(k.lt _ f).2;omega
def kn(b:ai)(a:N):N->I
 |0=>bC b a 0
 |c+1=>if c=a then kn b a c else min (kn b a c) (bC b a c)
def ii(a:ai)(b c:N):ad:=(List.range c).map (rZ a b)
def mn(a:ai)(b c:N):ad:=(List.range c).map λd=>kn a (d+1) (b+1)
def Tj(a:ai)(b c:N):ii a b (c+1)=ii a b c++[rZ a b c]:=by unfold ii;rw[fu,ck];rfl
def Tk(a:ai)(b c:N):mn a b (c+1)=mn a b c++[kn a (c+1) (b+1)]:=by unfold mn;rw[fu,ck];rfl
def Aq(b:ai)(c a:N):(ii b c a).length=a:=by simp[ii]
def Tl(b:ai)(c a:N):(mn b c a).length=a:=by simp[mn]
def Tm(U X Y ad:I)(aV D:V)(G:a0)(c:ai)(h:W)(aW:bG h aV G)(ae:bt h D c)(bN:L G<=4000):ap ab 125 #[ao #[U,X,Y,ad,aV,D]] h λt aX=>∃aY bO,t=aq (aZ #[aY,bO])/\ay aX h aY (ii c (L G) (L G))/\B h h aX:=by
 obtain⟨a1,d,a2,rfl,a4,_,_⟩:=aW.open;have⟨f,a5,ag,bP,a6⟩:=bR h U X Y ad (S a1 d a2) D;have bS:=Q a6;have bT:=Q (λg u v e=>lH U X Y ad (S a1 d a2) D c u v g ((ae.bw ag).bw e));have cC:d<=4000:=O
 have a8:(h:N)<=f:=ag.size;rw[a4];obtain⟨cD,cE,cF,rfl,_⟩:=ae.open;obtain⟨cG,cH,cI,cJ,cK,a9⟩:=a6;change H _ at a5;clear bP aW ae a4 bN;go_in;go_upto_region 1 with(fail)
 rw[a5.oo];go_wp2;go_loopw [4,5,6,7,8,9,10,14] (λbU bV bW bX ah al an j wr=>∃(a:N) (o p ba bb bc be bf:V),a<=d/\o=bU/\p=bV/\ba=bW/\bb=bX/\bc=ah/\be=al/\bf=an/\j=a/\ay wr f o (ii c d a)/\ay wr f p (mn c d a)/\(∀b,af o=A b->af p≠A b)/\B f f wr) (λ_ _ _ _ _ _ _ j _=>d-(aw j).toNat);exact⟨0,_,_,_,_,_,_,_,a3 _,J,J,J,J,J,J,J,J,ay.nil _ _,ay.nil _ _,(λb e=>by cases e),aS _ _⟩;obtain⟨a,o,p,ba,bb,bc,be,bf,cL,rfl,rfl,rfl,rfl,rfl,rfl,rfl,rfl,bg,bh,bi,k⟩:=hrel;obtain⟨bY,rfl⟩:=K wr;have bZ:=Q k;have bk:=Q bg;have b0:=Q bh;have b2:=Q bi;have cM:(f:N)<=bY:=k.size;by_cases cN:a<d
 ·have cO:(a:I)<d:=by omega
  have ar:=Q (bS.oo.bw k);have⟨av,ax,aA,aC,aD,aE⟩:=ar.oo;have b3:=av;have b4:=ax;have b5:=aA;have b6:=aC;have b7:=aD;have b8:=aE;have aG:=Q (λg u v e=>bT.oo g u v (q k e));have cP:IntKind.i64.wrap ((a:I)+1)=((a+1:N):I):=by rw[hf _ O];omega
  have bl:bC c 0 ((a:I)+1)=lk c (a+1) 0:=J;have bm:bC c ((a:I)+1) 0=kn c (a+1) 0:=J;change H _ at bl bm;clear k bg bh bi av ax aA aC aD aE;go_upto_region 6 with fail;refine i2 aT aT ?_;repeat(go_big_quiet_step (first
   |(go_at_call 160;exact iu _ (aG.oo _ _ _ (d1.bw _)))))
  refine wpQuiet_nil ?_;intro _ b9;obtain⟨aI,rfl⟩:=b9;have x:=aI.bw;generalize aI.w=bn at x⊢;have aJ:=Q (ar.oo.bw x);have bo:=Q (λg u v e=>aG.oo g u v (q x e));have⟨av,ax,aA,aC,aD,aE⟩:=aJ.oo;change H _ at x;clear b3 b4 b5 b6 b7 b8 aI ar aG;go_wp2;go_loopw [8,9,10,29] (λah al an j b'=>∃(b:N) (i l:I) (bq:V),b<=d+1/\bq=an/\j=(b:I)/\ah=i/\al=l/\i=lk c (a+1) b/\l=kn c (a+1) b/\B bn bn b') (λ_ _ _ j _=>d+1-(aw j).toNat);exact⟨0,_,_,_,a3 _,J,J,J,J,bl.oo,bm.oo,aS _ _⟩;obtain⟨b,i,l,bq,cQ,rfl,rfl,rfl,rfl,m,n,r⟩:=hrel;obtain⟨br,rfl⟩:=K wr;have M:=Q r;have cR:=Q m;have cS:=Q n;by_cases cT:b<d+1
  ·have cU:(b:I)<d+1:=by omega
   have⟨ca,cc,cd,ce,cf,cg⟩:=aJ.oo.bw r;by_cases s:b=a+1
   ·have ch:((b:I)!=(a:I)+1)=F:=by simp;omega
    have ci:((b:I)==(a:I)+1)=T:=aF
    have aL:H (lk c (a+1) (b+1)=i):=Q (by rw[lk,am s,<-m]);have aN:H (kn c (a+1) (b+1)=l):=Q (by rw[kn,am s,<-n]);clear m n s r;go_wp2;go_roundw;case rel=>exact⟨b+1,i,l,_,O,J,aK,J,J,aL.oo.symm,aN.oo.symm,M.oo⟩
    simp[aw];omega
   have ch:((b:I)!=(a:I)+1)=T:=aF
   have ci:((b:I)==(a:I)+1)=F:=aF
   have bs:lk c (a+1) (b+1)=min i (bC c b ((a:I)+1)):=by rw[lk,ak s,<-m];rfl
   have bu:kn c (a+1) (b+1)=min l (bC c ((a:I)+1) b):=by rw[kn,ak s,<-n];rfl
   have cj:=Q (λg e=>bo.oo g b ((a:I)+1) e);have ck:=Q (λg e=>bo.oo g ((a:I)+1) b e);generalize bC c b ((a:I)+1)=cV at*;generalize bC c ((a:I)+1) b=cW at*;have aL:=Q bs;have aN:=Q bu;clear bs bu m n s r;go_wp2_with fail;refine mU (cj.oo _ M.oo) λaO y=>?_;have aP:=M.oo.trans (y.mono M.oo.size);have⟨ca,cc,cd,ce,cf,cg⟩:=aJ.oo.bw aP;have aQ:=Q aP;clear y aP;go_wp2_with fail;refine mU (ck.oo _ aQ.oo) λcl z=>?_;have cm:=Q (aQ.oo.trans (z.mono aQ.oo.size));clear z;go_wp2;go_roundw;case rel=>exact⟨b+1,_,_,_,O,J,aK,J,J,aL.oo.symm,aN.oo.symm,cm.oo⟩
   simp[aw];omega
  have cn:b=d+1:=O
  subst cn;have co:H (rZ c d a=i):=Q (by unfold rZ;exact m.symm);have bv:=Q (Tj c d a);have bx:=Q (Tk c d a);rw[co.oo]at bv;rw[<-n]at bx;have P:=q x.oo r;have bz:=Q (bk.oo.bw P);have cp:=Q (b0.oo.bw P);have bA:=Q (q bZ.oo P);have cq:(f:N)<=br:=bA.oo.size;have cr:H ((ii c d a).length+1<=1000000000000):=Q (by rw[Aq];omega);have cs:H ((mn c d a).length+1<=1000000000000):=Q (by rw[Tl];omega);generalize ii c d a=bB at*;generalize mn c d a=bD at*;clear m n r P;go_wp2_with (at_builtin;refine Ao J _ _ J br f o bB i J J bz.oo cr.oo cq ?_);intro cX a9 aO aR bE y bF ct;rw[<-bv.oo]at aR;have⟨R,bH⟩:=Ap (J0:=L bB+1) (Ju:=a9) bz.oo cp.oo b2.oo bE bF;have bI:=Q (bA.oo.trans y);have cw:(f:N)<=aO:=bI.oo.size;replace R:=Q R;change H _ at aR bH;clear bE y bF ct;go_wp2_with (at_builtin;refine Ao J _ _ J aO f p bD l J J R.oo cs.oo cw ?_);intro cY cx cl aU bJ z bK cy;rw[<-bx.oo]at aU;have⟨bL,bM⟩:=Ap (J0:=L bD+1) (Ju:=cx) R.oo aR.oo (λb e t=>bH.oo b t e) bJ bK;have cz:=Q (bI.oo.trans z);change H _ at aU bL bM;clear bJ z bK cy;go_wp2;go_roundw;case rel=>exact⟨a+1,_,_,_,_,_,_,_,O,J,J,J,J,J,J,J,aK,bL.oo,aU.oo,λb e t=>bM.oo b t e,cz.oo⟩
  simp[aw];omega
 have cA:a=d:=O
 subst cA;have cB:=ag.trans (k.mono a8);clear k;go_wp2;go_ret2;exact⟨o,p,J,bk.oo.mono a8,cB⟩
def Tn(a:N)(c:W)(i:a<=64)(j:1<=a):ap ab 192 #[aa b1 1,aa b1 (a:I)] c λd e=>d=aq (aZ #[aa b1 0,aa b1 (a:I)])/\c=e:=by
 have⟨f,g,h⟩:=(show∀b:Fin 65,bits .and b1 (b.1:I) 4294967295=(b.1:I)/\IntKind.u64.wrap (b.1:I)=(b.1:I)/\(b.1:I)/4294967296=0 by decide+kernel) ⟨a,O⟩
 dsimp only at f g h;have k:bits .and b1 1 4294967295=1:=hN
 have l:bits .and b1 0 4294967295=0:=hN
 have m:=aJ a;have n:(a:I)<=64:=O
 all_goals go_in;go_wp2;go_ret2;exact⟨J,J⟩
def To(a:N)(b:W)(c:a<=64)(d:1<=a):ap ab 163 #[aa b1 1,aa b1 (a:I)] b λe f=>e=aq (aZ #[aa b1 0,aa b1 (a:I)])/\b=f:=by go_in;go_wp2_with fail;refine mR (Tn a b c d) ?_;go_wp2;go_ret2;exact⟨J,J⟩
def er(b:I)(a c:N):aP:=List.replicate a (aa ac b)++List.replicate (c-a) (aa ac 0)
def uH(c:I)(b a:N)(d:b<=a):(er c b a).length=a:=by simp[er];omega
def Ar(b:I)(a c d:N)(e:a+c<=d):splice (er b a d) a (List.replicate c b)=er b (a+c) d:=by unfold splice er;rw[List.take_append_of_le_length D,cm D,gK,<-ev,List.replicate_append_replicate];congr 1;rw[List.drop_append,List.drop_of_length_le D,gK,List.nil_append,List.drop_replicate];congr 1;omega
def Tp{i:World}{c g d:Nat}{b:Int}{j:TypeId}(k:i.heap[c]? =some (.cells (er b d g).toArray j (0,0)))(o:d<=g)(h:Nat)(p:h<=d):∀a e,(List.replicate h (Value.int .i64 b))[a]? =some e->i.cell? ((⟨c,0,none⟩:Addr).add a)=some e:=by
 intro a e f;have l:a<h:=by have:=(mX.1 f).1;simpa using this
 have m:e= .int .i64 b:=by rw[List.getElem?_replicate]at f;rw[am l]at f;exact(Option.some.inj f).symm
 have ha:(⟨c,0,none⟩:Addr).add a=⟨c,0+a,none⟩:=hM
 rw[ha,bX,m];unfold World.cell?;have n:(er b d g)[a]? =some (.int .i64 b):=by unfold er;rw[jO aF,List.getElem?_replicate,am O]
 simp[k,n]
def Tq(ak:V)(c:I)(b:N)(g:W)(aO:aX g ak [c])(G:1<=b)(aQ:b<=64):ap ab 122 #[ak,b] g λj al=>∃d,j=aq d/\ay al g d (List.replicate b c)/\B g g al:=by
 obtain⟨bs,aR,aU,rfl,aV,_,aW⟩:=aO.open;have aY:aR=1:=X aV.symm
 subst aY;obtain⟨r,t,rfl,am⟩:=aW 0 O;have⟨a0,a1,a4,a5,IC⟩:=ew hR;have bt:IntKind.u64.wrap (b:I)=b:=IntWalk.u64_in _ O;have bu:IntKind.i64.wrap (b:I)=b:=hf _ O;change H _ at am;go_in;go_wp2_with fail;refine mR (To b g aQ G) ?_;go_wp2_with (at_make;refine wpList_make_full _ J _ _ 22 J g 3 a0 (0:I) 1 underlying22 a1 a4 a5 _ _ _ _ b J J J J jJ eQ (aL _) ?_);intro M a6 a8;have u:M.heap[(g:N)]? =A (az (er c 0 b).toArray 3 (0,0)):=by
  obtain⟨bv,a9⟩:=a6;rcases a9 with⟨ba,_⟩|⟨bw,bx,bb,k,U,bc,bz,bA,bB,an⟩;simp at ba;simp only[bf,a2,bN,bT]at k;obtain⟨rfl,_,rfl⟩:=k;rw[toList_madeCells_one,Nat.mul_one,cm aF]at an;rw[bc];have j:bb=(er c 0 b).toArray:=by apply Array.toList_inj.1;rw[an];simp[er]
  rw[j]
 have v:=(aS g g).grown a8 (aL _) D;have be:=s v am;have bg:(g:N)<M:=by have:=(bM.1 u).1;exact this
 replace u:=Q u;replace v:=Q v;have⟨e,ad⟩:=K (g:N);rw[<-ad]at u v bg⊢;have ar:=Q ad;clear ad;have av:∀h d,([c]:aP)[h]? =A d->C M ((⟨r,t,Z⟩:bQ).add h)=A d:=λh d l=>by
  match h,l with
   |0,l=>
    simp at l;subst l;have ha:(⟨r,t,Z⟩:bQ).add 0=⟨r,t+0,Z⟩:=hM
    rw[ha];exact be
 change H _ at av;have m:=Ar c 0 1 b O;have bh:=Q (uH c 0 b (a3 _));change H _ at m;have w:H (([.int .i64 c]:List Value).length=Nat.min 1 b):=Q (by simp[Nat.min_eq_left G]);have x:H (0<([.int .i64 c]:List Value).length->some (⟨e,0,none⟩:Addr)=some ⟨e,0,none⟩/\∃i,some (⟨r,t,none⟩:Addr)=some i/\∀h d,([.int .i64 c]:List Value)[h]? =some d->M.cell? (i.add h)=some d):=Q (λ_=>⟨rfl,_,rfl,av.oo⟩);have n:H (0+([.int .i64 c]:List Value).length<=(er c 0 b).length):=Q (by rw[bh.oo];simp;exact G);have y:H (∀d∈([.int .i64 c]:List Value),d.oneCell'=true):=Q (by intro d k;simp at k;subst k;rfl);have ax:H ((prog.info? 3).map (·.size)=some 1):=Q aT;go_wp2_with (with_reducible refine wpList_copy_splice rfl (.tmp 31) (.tmp 32) 22 22 rfl 3 underlying22 ax.oo (some ⟨e,0,none⟩) (some ⟨r,t,none⟩) b b 1 aU rfl rfl e 0 (er c 0 b) 3 u.oo [.int .i64 c] w.oo x.oo n.oo y.oo e g v.oo (Nat.le_refl _) ?_);intro bi bk bl;have aA:bi.heap[e]? =some (.cells (er c 1 b).toArray 3 (0,0)):=by have o:=bk.out;have j:([.int .i64 c]:List Value)=List.replicate 1 (.int .i64 c):=rfl;rw[j,m.oo]at o;exact o
 change H _ at aA;go_wp2;go_loopw [8] (λae wr=>∃(a:N),1<=a/\a<=b/\ae=a/\H (wr.heap[e]? =A (az (er c a b).toArray 3 (0,0)))/\B e g wr) (λae _=>b-(aw ae).toNat);exact⟨1,aL _,G,J,aA,bl⟩;obtain⟨a,bC,aC,rfl,z,U⟩:=hrel;by_cases bD:a<b
 ·have⟨f,bm⟩:=K (min a (b-a));have bE:1<=f:=by omega
  have bn:f<=a:=O
  have ag:a+f<=b:=O
  have m:=Q (Ar c a f b ag);have bo:=Q bm;have bF:(a:I)<b:=O
  have bG:=aJ a;have bH:(a:I)<=b:=O
  have aD:=Q U;go_upto_region 9 with fail;have w:H ((List.replicate f (aa ac c)).length=Nat.min a (b-a)):=Q (by rw[gK];exact bo);have x:H (0<(List.replicate f (aa ac c)).length->A (⟨e,a,Z⟩:bQ)=A ⟨e,a,Z⟩/\∃i,A (⟨e,0,Z⟩:bQ)=A i/\∀h d,(List.replicate f (aa ac c))[h]? =A d->C wr (i.add h)=A d):=Q (λ_=>⟨J,_,J,Tp z aC f bn⟩);have n:H (a+(List.replicate f (aa ac c)).length<=(er c a b).length):=Q (by rw[uH c a b aC,gK];exact ag);have y:H (∀d∈List.replicate f (aa ac c),d.oneCell'=T):=Q (by intro d k;have:=List.eq_of_mem_replicate k;subst this;rfl);have ah:H (0<(List.replicate f (aa ac c)).length->A (⟨e,a,Z⟩:bQ)=A ⟨e,a,Z⟩/\∃i,A (⟨e,0,Z⟩:bQ)=A i/\∀h d,(List.replicate f (aa ac c))[h]? =A d->wr.drew.cell? (i.add h)=A d):=Q (λo=>x o);have P:=Q z.oo;have⟨p,aE⟩:=K (List.replicate f (aa ac c));have⟨q,bq⟩:=K (er c a b);rw[<-aE]at w x ah n y m;rw[<-bq]at n z P m;have ai:L p=f:=by rw[aE,gK]
  change H _ at ai;have aG:=run_copy_row (P:=ab) wr.drew 22 22 3 3 e a (b-a) (b-a) ⟨e,0,Z⟩ a b q.toArray 3 p underlying22 ax P w (λh d l=>by have⟨_,i,j,o⟩:=ah (Y ((mX.1 l).1));cases j;exact o h d l) (X n.oo) y;have⟨aI,R⟩:=K (wr.drew.setRow e (q.toArray.toList.take a++p++q.toArray.toList.drop (a+L p)).toArray);rw[<-R,ai]at aG;have aK:aI.heap[e]? =A (az (er c (a+f) b).toArray 3 (0,0)):=by rw[R,<-m];unfold splice;have:=setRow_heap wr.drew e q.toArray (q.toArray.toList.take a++p++q.toArray.toList.drop (a+L p)).toArray 3 _ P;simpa using this
  have aN:B e g aI:=by rw[R];exact below_setRow aD.drew (aL _) _
  have bJ:IntKind.i64.wrap ((a:I)+(f:I))=(a:I)+(f:I):=hf _ O;change H _ at aK aN;clear R z aD w x ah n y P m ai;unfold goInt at aG;go_region;all_goals
   go_wp2;go_roundw;case rel=>exact⟨a+f,O,ag,by first|go_num|simp,aK,aN⟩
   simp[aw];omega
 have br:a=b:=O
 subst br;go_wp2;go_ret;refine⟨_,J,?_,by rw[<-ar];exact U⟩;refine⟨D,.inr ⟨e,a,(er c a a).toArray,D,Nat.le_of_eq ar.symm,z,D,eQ,by simp[uH],?_⟩⟩;simp[er]
def Tr(a:W)(b:I):aX (a.alloc (az #[b] 3)) (S (A (a:N)) 1 1) [b]:=⟨_,1,J,D,D,λd c=>⟨_,_,J,by simp at c;subst c;simp[go_sem,ae]⟩⟩
structure gG(a:W)(b:N)(c f1 d e f g h i j:V):Prop where
 c0:C a b=A c
 c1:C a ⟨b,1,Z⟩=A f1
 c2:C a ⟨b,2,Z⟩=A d
 c3:C a ⟨b,3,Z⟩=A e
 c4:C a ⟨b,4,Z⟩=A f
 c5:C a ⟨b,5,Z⟩=A g
 c6:C a ⟨b,6,Z⟩=A h
 c7:C a ⟨b,7,Z⟩=A i
 c8:C a ⟨b,8,Z⟩=A j
def gG.kept{e f g h i j:V}{row:Option N}(b:gG w a u v y e f g h i j)(c:w.grownBy x row)(d:A a≠row):gG x a u v y e f g h i j:=⟨c.cell b.c0 d,c.cell b.c1 d,c.cell b.c2 d,c.cell b.c3 d,c.cell b.c4 d,c.cell b.c5 d,c.cell b.c6 d,c.cell b.c7 d,c.cell b.c8 d⟩
def gG.bw{Kx:W}{b c d e f g:V}(i:gG w a u v y b c d e f g)(m:B w w Kx):gG Kx a u v y b c d e f g:=i.kept (row:=Z) (dS m) D
def uI(a:W)(c f1 d e f g h i j:V):∃b,a.alloc (az #[c,f1,d,e,f,g,h,i,j] 160)=b/\B a a b/\b.heap.size=(a:N)+1/\gG b a c f1 d e f g h i j:=⟨_,J,aN _ _,D,⟨aE,aE,aE,aE,aE,aE,aE,aE,aE⟩⟩
def gG.lt{c d e f g h:V}(i:gG w a u v y c d e f g h):a<w:=aR w _ i.c0
def oD(b:N)(c:I)(a:Cu):I:=if a.kd=1 then e6 b c a*a.dm else gy a.rt a.st b
def jy(b c:ad)(a:N):I:=ae b (a+1)+ae c (a+1)
def lj.kind{b:Cu}(c:lj a b):b.kd=1\/(b.kd=2/\eH b.st b.rt b.sz b.ru b.hd):=by rcases c.1 with⟨c,_⟩|c;exact .inl c;exact .inr c
def uJ(h:N)(n e o:I)(i p q r s:V)(c:a0)(d b:N)(f:W)(g:gG f h d n e o i p q r s)(j:bG f i c)(t:b<L c)(k:lj d (aQ c b))(u:d<=64):ap ab 118 #[aM (A h),b] f (e3 f (e6 d e (aQ c b))):=by
 obtain⟨ad,v,ae,rfl,w,_,l⟩:=j.open;obtain⟨ag,ah,x,rfl,_,a⟩:=l b O;have m:=Q (λy z=>Al (aQ c b) x e d y k.1 u (a.ft.bw z));obtain⟨ai,ak,al,rfl⟩:=rY a.ft;generalize e6 d e (aQ c b)=am at*;have an:=g.c0;have ar:=g.c2;have av:=g.c4;have D:=a.c0;have G:=a.c1;have ax:=a.c2;have H:=a.c3;have K:=a.c4;have M:=a.c5;have P:=a.c6;have R:=a.c7;have ay:=aJ b;have aA:(b:I)<v:=O
 clear l a k j g t w;generalize aQ c b=U at*;obtain⟨aC,aD,aE,aF,aG,aI,aK,aL⟩:=U;simp only at m D G H K M P R;go_in;go_upto_region 1 with fail;refine i2 aT aT ?_;repeat(go_big_quiet_step (first
  |(go_at_call 161;exact iu _ (m _ (d1.bw _)))))
 refine wpQuiet_nil ?_;intro _ X;obtain⟨Y,rfl⟩:=X;go_wp2;go_ret;exact⟨J,Y.bw⟩
def Ts(g:N)(k e l:I)(h m n o i:V)(b:a0)(f:ad)(c a:N)(d:W)(j:gG d g c k e l h m n o i)(p:bG d h b)(q:aX d i f)(R:L f=L b)(r:a<L b)(s:lj c (aQ b a))(x:c<=64):ap ab 126 #[aM (A g),a] d (e3 d (aB (ae f a*e6 c e (aQ b a)))):=by
 have y:=Q (λz t=>uJ g k e l h m n o i b c a z (j.bw t) (p.bw t) r s x);obtain⟨ha,D,U,rfl,G,_,u⟩:=q.open;obtain⟨X,Y,rfl,ag⟩:=u a O;generalize e6 c e (aQ b a)=v at*;generalize ae f a=w at*;have K:H (IntKind.i64.wrap (w*v)=aB (w*v)):=Q (dJ _);have ah:=j.c8;have ai:=aJ a;have ak:(a:I)<D:=O
 clear u s p j r G q;go_in;go_upto_region 1 with fail;refine i2 aT aT ?_;repeat(go_big_quiet_step (first
  |(go_at_call 118;exact iu _ (y _ (d1.bw _)))))
 refine wpQuiet_nil ?_;intro _ M;obtain⟨P,rfl⟩:=M;go_wp2;go_ret;refine⟨?_,P.bw⟩;first|rfl|(rw[K])
def Tt(n:N)(y d z:I)(o D G K M:V)(b:a0)(c a:N)(j:W)(P:gG j n c y d z o D G K M)(p:bG j o b)(R:a<L b)(k:lj c (aQ b a))(r:c<=64):ap ab 120 #[aM (A n),a] j (e3 j (oD c d (aQ b a))):=by
 have aD:=Q (λt U=>uJ n y d z o D G K M b c a t (P.bw U) (p.bw U) R k r);have X:=Ak d k.1 r;obtain⟨bk,aE,bl,rfl,aF,_,Y⟩:=p.open;obtain⟨bm,bn,bo,rfl,_,u⟩:=Y a O;obtain⟨ad,ae,ag,rfl⟩:=rY u.ft;have ah:=k.kind;have m:=k.2;have l:H (oD c d (aQ b a)=if(aQ b a).kd=1 then e6 c d (aQ b a)*(aQ b a).dm else gy (aQ b a).rt (aQ b a).st c):=Q J;generalize e6 c d (aQ b a)=g at*;generalize oD c d (aQ b a)=bq at*;generalize aQ b a=aG at*;obtain⟨aI,e,br,ai,al,an,ar,ax⟩:=aG;simp only at ah l u m;have⟨bs,ay,h,aK,aA⟩:=da j aI e (S ad ae ag) ai al an ar ax;obtain⟨aL,aN,aO,aP,aR,aS,aU,aV,_⟩:=u;obtain⟨aC,aW,aX,aY,a1,a2,a3,a4,a5⟩:=P;have bt:=aJ a;have bu:(a:I)<aE:=O
 have a6:=s h aC;replace h:=Q h;change H _ at ay;clear Y k p R aF aK;go_in;go_upto_region 2 with fail;rw[ay];change H _ at aA;clear aL aN aO aP aR aS aU aV aC aW aX aY a1 a2 a3 a4 a5;obtain⟨a8,bv,a9,ba,bb,bc,be,bf⟩:=aA;rcases ah with rfl|⟨rfl,i⟩
 ·have f:=l.oo;rw[am J]at f;have v:=Q f;have m:=m J;have bx:0<=g*e/\g*e<=64*2147483648:=⟨Int.mul_nonneg X.1 O,Int.mul_le_mul X.2 m.2 O O⟩
  have bz:IntKind.i64.wrap (g*e)=g*e:=hf _ O;have bg:H (aB (g*e)=g*e):=Q (cV O O);clear f l;go_upto_region 3 with fail;clear a8 a9 ba bb bc be bf a6;refine i2 aT aT ?_;repeat(go_big_quiet_step (first
   |(go_at_call 118;exact iu _ (aD _ (q h (d1.bw _))))))
  refine wpQuiet_nil ?_;intro _ w;obtain⟨x,rfl⟩:=w;go_wp2;go_ret;rw[v];exact⟨by first|rfl|(rw[bg];rfl),q h x.bw⟩
 have f:=l.oo;rw[ak av]at f;have v:=Q f;have bh:=Q (λt=>Ah 2 e (S ad ae ag) ai al an ar ax c t i.jk (bi i.jl i.gC) i.fJ i.jm r);clear f l i;go_upto_region 4 with fail;refine i2 aT aT ?_;repeat(go_big_quiet_step (first
  |(go_at_call 162;exact iu _ (bh _))))
 refine wpQuiet_nil ?_;intro _ w;obtain⟨x,rfl⟩:=w;go_wp2;go_ret;rw[v];exact⟨J,q h x.bw⟩
def Tu(n o p r:I)(t u v w:V)(e:a0)(b c:ad)(a:N)(d:W)(x:bG d t e)(y:aX d v b)(z:aX d w c)(ay:a<L e)(aA:L b=L e+1)(aC:L c=L e+1)(G:∀h,0<=ae b h/\ae b h<=2147483648/\0<=ae c h/\ae c h<=2147483648)(aR:L e<=4000):ap ab 123 #[ao #[n,o,p,r,t,u],ao #[v,w],a] d (e3 d (jy b c a)):=by
 obtain⟨aD,j,aG,rfl,aI,_,_⟩:=x.open;obtain⟨aT,k,K,rfl,aJ,_,M⟩:=y.open;obtain⟨aU,l,P,rfl,aK,_,R⟩:=z.open;obtain⟨U,X,rfl,f1⟩:=M (a+1) O;obtain⟨Y,ag,rfl,ah⟩:=R (a+1) O;have⟨f,ai,ak,al,am⟩:=bR d n o p r (S aD j aG) u;obtain⟨g,an,m,aN,aO⟩:∃g,f.alloc (az #[S (A ⟨U,X,Z⟩) k K,S (A ⟨Y,ag,Z⟩) l P] 103)=g/\B f f g/\C g f=A (S (A ⟨U,X,Z⟩) k K)/\C g ⟨f,1,Z⟩=A (S (A ⟨Y,ag,Z⟩) l P):=⟨_,J,(aS _ _).alloc (aL _) _,aE,aE⟩
 rw[al]at aN aO;have i:=q ak m;have f1:=s i f1;have ah:=s i ah;have aV:=s m am.c4;have aW:=G (a+1);have aP:H (jy b c a=ae b (a+1)+ae c (a+1)):=Q J;have aQ:(a:I)+1=((a+1:N):I):=O
 generalize ae b (a+1)=ar at*;generalize ae c (a+1)=av at*;have aY:(0:I)<=a+1:=O
 have a1:(a:I)+1<(k:I):=O
 have a2:(a:I)+1<(l:I):=O
 have a3:decide ((a:I)<0)=F:=D
 have a4:decide (j<=a)=F:=aF
 have a5:decide ((j:I)<=a)=F:=aF
 have a6:((a:I)+1).toNat=a+1:=O
 have ax:aB (ar+av)=ar+av:=cV O O;change H _ at ai an i ax;clear x y z ay G am M R aI aJ aK aA aC aQ ak m al;go_in;go_upto_region 1 with fail;rw[ai];rw[an];go_upto_region 3 with fail;go_quiet (fail);go_wp2;go_ret;rw[aP];exact⟨by first|rfl|(rw[ax];rfl),eb i _⟩
def Tv(ah:N)(ai l ak:I)(u v w x a2:V)(f:a0)(c d:ad)(b a:N)(e:W)(a3:gG e ah (b:I) ai l ak u v w x a2)(y:bG e u f)(z:aX e w c)(D:aX e x d)(al:a<L f)(am:lj b (aQ f a))(ar:b<=64)(a4:1<=b)(av:L c=L f+1)(ax:L d=L f+1)(G:∀k,0<=ae c k/\ae c k<=2147483648/\0<=ae d k/\ae d k<=2147483648)(a5:L f<=4000):ap ab 92 #[aM (A ah),a] e (e3 e (oC b l (List.replicate b (jy c d a)) (aQ f a))):=by
 have a6:=Q (λh g=>Tu b ai l ak u v w x f c d a h (y.bw g) (z.bw g) (D.bw g) al av ax (λk=>Y (G k)) a5);have bx:0<=jy c d a/\jy c d a<=4294967296:=by have:=G (a+1);unfold jy;omega
 have ay:∀M∈List.replicate b (jy c d a),0<=M/\M<=9007199254740992:=λM a8=>by rw[List.eq_of_mem_replicate a8];omega
 obtain⟨bz,a9,bA,rfl,ba,_,aA⟩:=y.open;obtain⟨bB,bC,bD,rfl,_,m⟩:=aA a O;obtain⟨bb,be,bf,rfl⟩:=rY m.ft;obtain⟨bE,bF,bH,rfl,_⟩:=z.open;obtain⟨bI,bJ,bK,rfl,_⟩:=D.open;have aC:=Q (λh i g t=>Ti (aQ f a) (S bb be bf) i l b (List.replicate b (jy c d a)) h am ar (m.ft.bw g) t ay);have bg:=Q (λh bh g=>Tq bh (jy c d a) b h g a4 ar);generalize jy c d a=n at*;generalize oC b l (List.replicate b n) (aQ f a)=bL at*;generalize List.replicate b n=bi at*;generalize aQ f a=bk at*;obtain⟨bM,bN,bO,bP,bR,bS,bT,bU⟩:=bk;simp only at aC m;obtain⟨P,aD,R,aE,U,aF,aG,aI,aK⟩:=a3;have bl:=Q m;have bV:=aJ a;have bW:(a:I)<a9:=O
 have bm:=aS e e;have⟨bX,bn⟩:=K v;change H _ at ay;clear aA am y z D al ba m G av ax bn;go_in;go_upto_region 1 with fail;go_cut [5] (λbo aL=>∃i,i=bo/\aX aL i bi/\B e e aL);case first=>
  clear aK;refine bv [0,1,2,4,5,6,8,11,12,13,14,103,107,115,209,210,216,17] ?_;iterate 14 refine mS ?_
  refine aU λaO o=>?_;go_simp;refine mU (a6 _ (an e)) λp aP=>?_;have X:=q (an e) aP;refine o _ _ (.mk X) ?_;obtain⟨r,bq,aR,aV⟩:∃r,p.alloc (az #[n] 3)=r/\B p p r/\aX r (S (A (p:N)) 1 1) [n]:=⟨_,J,aN _ _,Tr p n⟩
  have ag:=q X aR;refine aU λaO o=>?_;go_simp;try rw[bq]
  refine o _ _ (.mk ag) ?_;refine aU λaO o=>?_;go_simp;refine mE (bg _ _ aV) λbY i ⟨aW,aY⟩=>?_;have a1:=q ag aY;have br:=aW.ints;refine o _ _ (.mk a1) ?_;clear P aD R aE U aF aG aI aW aP aR aY X ag aV;refine mS ?_;refine bc ?_;go_wp2;go_meet;exact⟨_,J,br,a1⟩
 case rest=>
 obtain⟨i,rfl,t,j⟩:=hcut;obtain⟨r,rfl⟩:=K wc;have bs:=Q (λh g=>aC h i (q j g) (t.bw g));have⟨bZ,b0,b2,b3,b5,b6,b7,b8,_⟩:=bl.bw j;have b9:=s j P;have b':=s j R;have ca:=s j U;change H _ at j;clear P aD R aE U aF aG aI aK t bm;go_upto_region 2 with fail;refine i2 aT aT ?_;repeat(go_big_quiet_step (first
  |(go_at_call 124;exact iu _ (bs _ (d1.bw _)))))
 refine wpQuiet_nil ?_;intro _ bt;obtain⟨bu,rfl⟩:=bt;go_wp2;go_ret;exact⟨J,q j bu.bw⟩
def iU(a:Nat->Int):Nat->Int
 |0=>0
 |b+1=>hr (iU a b) (a b)
def Tw(a:Nat->Int)(b:Nat):iU a (b+1)=hr (iU a b) (a b):=rfl
def As(b c:Int):bB (hr b c)=true:=by
 unfold hr ke;obtain⟨d,a⟩:=K (wrap64 (b+c));have e: -9223372036854775808<=d/\d<=9223372036854775807:=by rw[a];unfold wrap64;omega
 rw[<-a];clear a;refine ek.2 ?_;repeat' split
 all_goals dsimp only at*
 all_goals first|omega|exact e
def At(a:Nat->Int):∀b,bB (iU a b)=true
 |0=>(by decide:bB 0=true)
 |_+1=>As _ _
def mp(a b:Int):Int×Bool:=if a=0\/b=0 then(0,true)else if((wrap64 ((wrap64 (a*b)).tdiv b)!=a)||((a== -9223372036854775808)&&(b== -1)))=true then(0,false)else(wrap64 (a*b),true)
def Tx(a b:Int)(h:World):Calls prog 88 #[.int .i64 a,.int .i64 b] h λk l=>k= .returned (.tuple #[.int .i64 (mp a b).1,.bool (mp a b).2])/\h=l:=by
 by_cases d:a=0
 ·have Dv:H (mp a b=(0,true)):=Q (if_pos (.inl d));have i:(a==0)=true:=by simpa using d
  clear d;exact nS
 by_cases e:b=0
 ·have Dv:H (mp a b=(0,true)):=Q (if_pos (.inr e));have i:(a==0)=false:=by simpa using d
  have m:(b==0)=true:=X e
  clear e d;exact nS
 have c:mp a b=if((wrap64 ((wrap64 (a*b)).tdiv b)!=a)||((a== -9223372036854775808)&&(b== -1)))=true then(0,false)else(wrap64 (a*b),true):=if_neg O;have i:(a==0)=false:=X d
 have m:(b==0)=false:=X e
 cases f:(wrap64 ((wrap64 (a*b)).tdiv b)!=a)with
  |true=>rw[f]at c;have Dv:=Q c;clear c;exact nS
  |false=>
   cases g:(a== -9223372036854775808)with
    |true=>
     cases j:(b== -1)with
      |true=>rw[f,g,j]at c;have Dv:=Q c;clear c;exact nS
      |false=>rw[f,g,j]at c;have Dv:=Q c;clear c;exact nS
    |false=>rw[f,g]at c;have Dv:=Q c;clear c;exact nS
def uK(d:Nat)(hF:d=120\/d=126\/d=92)(n o p q:Int)(r s:Value)(g:List Cu)(t:Nat)(e:Nat->Int)(b:World)(u:bG b r g)(M:g.length<=4000)(v:∀(f:World)(a:Nat),Below (b:Nat) b f->a<g.length->Calls prog d #[.pointer (some ⟨t,0,none⟩),.int .i64 a] f (e3 f (e a))):Calls prog 91 #[.agg #[.int .i64 n,.int .i64 o,.int .i64 p,.int .i64 q,r,s],.func (.func d) #[.pointer (some ⟨t,0,none⟩)] #[]] b (e3 b (iU e g.length)):=by
 obtain⟨P,c,R,rfl,w,_,_⟩:=u.open;obtain⟨ar,x,y,U,X⟩:=bR b (.int .i64 n) (.int .i64 o) (.int .i64 p) (.int .i64 q) (.slice P c R) s;have z:=Q v;rw[w]at z⊢;have av:c<=4000:=O
 obtain⟨ax,ay,aA,aC,aD,aE⟩:=X;change H _ at x y;clear v u U w M;rcases hF with rfl|rfl|rfl;all_goals
  go_in;go_upto_region 1 with fail;rw[x.oo];go_wp2;go_loopw [5,6,10] (λY ad j wr=>∃(a:Nat) (h:Int) (D:Value),a<=c/\D=ad/\j= .int .i64 a/\Y= .int .i64 h/\h=iU e a/\Below (b:Nat) b wr) (λ_ _ j _=>c-(aw j).toNat);exact⟨0,0,_,Nat.zero_le _,rfl,rfl,rfl,rfl,y.oo⟩;obtain⟨a,h,D,aF,rfl,rfl,rfl,i,k⟩:=hrel;obtain⟨ae,rfl⟩:=K wr;have l:=Q k;by_cases Ch:a<c
  ·have aG:(a:Int)<c:=by omega
   have ag:=Q (z.oo ae a k Ch);have m:=Tw e a;rw[<-i]at m;generalize e a=ah at*;have ai:=Q (λ(f:World)=>ub h ah f);have ak:=Q m;clear m;clear k i;go_wp2_with fail;refine mU ag.oo λaI G=>?_;have al:=Q (l.oo.trans (G.mono l.oo.size));clear G;go_wp2_with fail;refine mR (ai.oo _) ?_;go_wp2;go_roundw;case rel=>exact⟨a+1,_,_,O,rfl,aK,rfl,ak.oo.symm,al.oo⟩
   exact hQ
  have am:a=c:=O
  subst am;have an:=Q i;clear i;go_wp2;go_ret;rw[<-an.oo];exact⟨rfl,l.oo⟩
structure oE(a:Nat)(b:List Cu):Prop where
 len:b.length<=2000
 jR:∀c,c<b.length->lj a (aQ b c)
 n1:1<=a
 n7:a<=64
def mq(a:Nat->Int):Nat->Int
 |0=>0
 |b+1=>max (mq a b) (a b)
def oF(d:Nat)(b:Int)(a:List Cu):Int:=if 0<b then max (mq (λc=>e6 d b (aQ a c)) a.length) (gV (iU (λc=>oD d b (aQ a c)) a.length) b).1 else mq (λc=>e6 d b (aQ a c)) a.length
def Ty(d:Nat)(r b s:Int)(l m:Value)(c:List Cu)(t:World)(y:bG t l c)(n:oE d c):Calls prog 89 #[.agg #[.int .i64 d,.int .i64 r,.int .i64 b,.int .i64 s,l,m]] t (e3 t (oF d b c)):=by
 have av:c.length<=4000:=Y n.len
 obtain⟨u,ax,ay,aX,aA⟩:=bR t (.int .i64 d) (.int .i64 r) (.int .i64 b) (.int .i64 s) l m;obtain⟨o,aC,X,aY,f⟩:=uI u (.int .i64 d) (.int .i64 r) (.int .i64 b) (.int .i64 s) l m (.slice none 0 0) (.slice none 0 0) (.slice none 0 0);have v:=q ay X;have aD:=aA.bw X;obtain⟨g,ad⟩:∃g:Nat->Int,g=λp=>e6 d b (aQ c p):=⟨_,rfl⟩
 obtain⟨G,M⟩:=K (iU (λp=>oD d b (aQ c p)) c.length);have aE:bB G=true:=by rw[M];exact At _ _
 have aF:=Q (λ(e:World) (a:Nat) (i:Below (o:Nat) o e) (w:a<c.length)=>(by rw[ad];exact uJ (u:Nat) r b s l m _ _ _ c d a e (f.bw i) (y.bw (q v i)) w (n.jR a w) n.n7:Calls prog 118 #[.pointer (some ⟨u,0,none⟩),.int .i64 a] e (e3 e (g a))));have aG:=Q (λ(e:World) (i:Below (o:Nat) o e)=>uK _ (.inl rfl) d r b s l m c (u:Nat) (λa=>oD d b (aQ c a)) e (y.bw (q v i)) av (λa0 a aI w=>Tt (u:Nat) r b s l m _ _ _ c d a a0 (f.bw (q i aI)) (y.bw (q v (q i aI))) w (n.jR a w) n.n7));rw[<-M]at aG;have j:oF d b c=if 0<b then max (mq g c.length) (gV G b).1 else mq g c.length:=by rw[ad,M];rfl
 have ae:=Q (λ(e:World)=>yJ G b e aE);obtain⟨a1,aJ⟩:=K (gV G b);rw[<-aJ]at j ae;obtain⟨a2,bx⟩:=a1;obtain⟨LT,aL⟩:=K (oF d b c);rw[<-aL]at j⊢;dsimp only at ae j;have a3:=n.len;obtain⟨bz,z,bA,rfl,aN,_,_⟩:=y.open;rw[aN]at j aF a3;have a4:(t:Nat)<=o:=v.size;have ag:=Q aD;obtain⟨bC,a5⟩:=K m;obtain⟨ah,ai,ak,al,am,an⟩:=aA;have a6:=Q v;change H _ at ax aC;clear v;change H _ at j;clear aX aY f aD y ad M aE aJ aL ay X n a5 aN av;go_in;go_upto_region 1 with fail;rw[ax.oo];go_upto_region 2 with fail;rw[aC.oo];clear ah ai ak al am an;obtain⟨ah,ai,ak,al,am,an⟩:=ag.oo;generalize (u:Nat)=g2 at*;go_wp2;go_loopw [4,5,14] (λa8 a9 p wr=>∃(a:Nat) (P:Int) (aO:Value),a<=z/\aO=a9/\p= .int .i64 a/\a8= .int .i64 P/\P=mq g a/\Below (o:Nat) o wr) (λ_ _ p _=>z-(aw p).toNat);exact⟨0,0,_,Nat.zero_le _,rfl,rfl,rfl,rfl,Below.refl _ _⟩;obtain⟨a,P,aO,w,rfl,rfl,rfl,D,h⟩:=hrel;obtain⟨x,rfl⟩:=K wr;have aP:=Q h;by_cases ba:a<z
 ·have bD:(a:Int)<z:=by omega
  have bb:=Q (aF.oo x a h ba);have aR:mq g (a+1)=max P (g a):=by rw[mq,<-D]
  generalize g a=bE at*;clear h D;have bc:=Q aR;clear aR;go_wp2_with fail;refine mU bb.oo λbF aS=>?_;have be:=Q (aP.oo.trans (aS.mono aP.oo.size));clear aS;go_wp2;go_roundw;case rel=>exact⟨a+1,_,_,O,rfl,aK,rfl,bc.oo.symm,be.oo⟩
  simp[aw];omega
 have bf:a=z:=O
 subst bf;have R:=a6.oo.trans (h.mono a4);have aU:=Q R;have bg:(t:Nat)<=x:=R.size;have f:=j.oo;rw[<-D]at f;by_cases U:0<b
 ·rw[if_pos U]at f;have bh:decide (0<b)=true:=decide_eq_true U;have bi:=Q (λ(e:World) (i:Below (x:Nat) x e)=>aG.oo e (q h i));have k:=ag.oo.bw h;have bk:=k.c0;have bl:=k.c1;have bm:=k.c2;have bn:=k.c3;have bo:=k.c4;have bq:=k.c5;have aV:=k.c2;clear k h D R;go_upto_region 9 with fail;go_cut [6] (λbr bs=>br= .int .i64 a2/\Below (x:Nat) x bs);case first=>
   clear ah ai ak al am an aV;refine i2 aT aT ?_;repeat(go_big_quiet_step (first
    |(go_at_call 91;exact iu _ (bi.oo _ (d1.bw _)))
    |(go_at_call 119;exact wY _ (ae.oo _))))
   refine wpQuiet_nil ?_;intro _ bt;obtain⟨bu,rfl⟩:=bt;go_wp2;go_meet;exact⟨rfl,bu.bw⟩
  obtain⟨rfl,aW⟩:=hcut;obtain⟨bH,rfl⟩:=K wc;have bv:=Q (aU.oo.trans (aW.mono bg));clear aW bk bl bm bn bo bq;have ar:=Q f;clear f j;go_wp2;go_ret;rw[ar.oo];exact⟨rfl,bv.oo⟩
 rw[if_neg U]at f;have ar:=Q f;have bh:decide (0<b)=false:=decide_eq_false U;have aV:=(ag.oo.bw h).c2;clear f j h D R;go_wp2;go_ret;rw[ar.oo];exact⟨rfl,aU.oo⟩
def gG.store{d e f g h k:V}(b:gG w a u v y d e f g h k)(j:V):gG (aj w ⟨a,8,Z⟩ j) a u v y d e f g h j:=⟨dQ b.c0 av,dQ b.c1 av,dQ b.c2 av,dQ b.c3 av,dQ b.c4 av,dQ b.c5 av,dQ b.c6 av,dQ b.c7 av,World.cell?_setCell_same _ _ _ b.c8⟩
def p5(c:N)(d:I)(a:a0)(e:ai):I:=iU (λb=>aB (ae (ii e (L a) (L a)) b*e6 c d (aQ a b))) (L a)
def Tz(b:N)(i d j:I)(l m:V)(a:a0)(h:ai)(c:W)(r:bG c l a)(w:bt c m h)(x:oE b a):ap ab 94 #[ao #[b,i,d,j,l,m]] c (e3 c (p5 b d a h)):=by
 have av:L a<=4000:=Y x.len
 have⟨k,ax,y,aS,z⟩:=bR c b i d j l m;have⟨s,D,G,aT,K⟩:=uI k b i d j l m (S Z 0 0) (S Z 0 0) (S Z 0 0);have aA:aH s ⟨k,8,Z⟩=F:=by rw[<-D];simp[go_sem]
 have t:=q y G;have aC:=z.bw G;have aU:=Q (Tm b i d j l m a h s (r.bw t) (w.bw t) av);have aV:=Q r;have a6:(c:N)<k:=z.lt;have aW:=Q K;have aD:=Q x;have aE:=Q aC;obtain⟨M,O,P,rfl,a8,_,_⟩:=r.open;have aX:(c:N)<=k:=y.size;have aG:(k:N)<s:=K.lt;obtain⟨aI,aJ,aK,rfl,_⟩:=w.open;obtain⟨R,U,X,ad,ag,ah⟩:=z;have aL:=Q t;change H _ at ax D;clear t;change H _ at aA;clear aS aT K aC r w y G x;go_in;go_upto_region 1 with fail;rw[ax.oo];go_upto_region 2 with fail;rw[D.oo];clear R U X ad ag ah;have⟨R,U,X,ad,ag,ah⟩:=aE.oo;generalize k=g2 at*;go_wp2_with fail;refine aU.oo.mono ?_;rintro a9 n ⟨ba,bb,rfl,u,o⟩;obtain⟨e,f,g,rfl⟩:=gM u;have ak:=aW.oo.bw o;have bc:=aY o aG aA.oo;have aN:=ak.store (S e f g);have v:B c c (aj n ⟨g2,8,Z⟩ (S e f g)):=(aL.oo.trans (o.mono aL.oo.size)).setCell (p:=⟨g2,8,Z⟩) aX _;have al:=bn n ⟨g2,8,Z⟩ (S e f g);have a1:=(aE.oo.bw o).kept al aF;have am:bG (aj n ⟨g2,8,Z⟩ (S e f g)) (S M O P) a:=aV.oo.bw v;have aO:ay (aj n ⟨g2,8,Z⟩ (S e f g)) s (S e f g) (ii h (L a) (L a)):=u.kept al (u.not aG);have bf:=ak.c8;have an:=Q (uK _ (.inr (.inl J)) b i d j (S M O P) (S aI aJ aK) a g2 (λp=>aB (ae (ii h (L a) (L a)) p*e6 b d (aQ a p))) _ am av (λa2 p ar aP=>Ts g2 i d j (S M O P) (S aI aJ aK) _ _ (S e f g) a (ii h (L a) (L a)) b p a2 (aN.bw ar) (am.bw ar) (aO.ints.bw ar) (Aq _ _ _) aP (aD.oo.jR p aP) aD.oo.n7));have an:H (ap ab _ _ _ (e3 _ (p5 b d a h))):=Q an.oo;obtain⟨R,U,X,ad,ag,ah⟩:=a1;have a3:=Q v;have a4:(c:N)<=(aj n ⟨g2,8,Z⟩ (S e f g):N):=v.size;clear u o ak aN v al am aO;go_wp2_with fail;refine mU an.oo λbg aR=>?_;have a5:=Q (a3.oo.trans (aR.mono a4));clear aR;go_wp2;go_ret;exact⟨J,a5.oo⟩
def r1(a:N)(c:I)(d:a0)(e f:ad)(b:N):I:=oC a c (List.replicate a (jy e f b)) (aQ d b)
def uL(a b:I):I:=if(mp a b).2 then(mp a b).1 else 9223372036854775807
def nt(b:N)(c:I)(a:a0)(d e:ad):I:=hr (iU (r1 b c a d e) (L a)) (uL (ae d 0+ae e 0) (oF b c a))
structure Au(d:N)(b c:ad):Prop where
 ol:L b=d+1
 il:L c=d+1
 bd:∀a,0<=ae b a/\ae b a<=2147483648/\0<=ae c a/\ae c a<=2147483648
def Av(b:N)(o c p:I)(i j r t:V)(a:a0)(d e:ad)(h:W)(w:bG h i a)(R:aX h r d)(U:aX h t e)(u:oE b a)(k:Au (L a) d e):ap ab 60 #[ao #[b,o,c,p,i,j],ao #[r,t]] h (e3 h (nt b c a d e)):=by
 have X:L a<=4000:=Y u.len
 have⟨v,ay,aA,aC,aD⟩:=bR h b o c p i j;obtain⟨g,aF,ag,bc,ah,ai⟩:∃g,v.alloc (az #[r,t] 103)=g/\B v v g/\g.heap.size=(v:N)+1/\C g v=A r/\C g ⟨v,1,Z⟩=A t:=⟨_,J,aN _ _,D,aE,aE⟩
 have⟨ak,aG,x,be,aI⟩:=uI g b o c p i j r t (S Z 0 0);have aJ:=q aA ag;have f:=q aJ x;have aK:=aD.bw ag;have aL:=aK.bw x;have al:=s x ah;have am:=s x ai;rw[aC]at ah ai al am;have bf:=Q (λl m=>Ty b o c p i j a l (w.bw (q f m)) u);have bg:=Q (λl m=>uK _ (.inr (.inr J)) b o c p i j a g.heap.size (r1 b c a d e) l (w.bw (q f m)) X (λbh aO y aP=>Tv g.heap.size o c p i j r t _ a d e b aO bh (aI.bw (q m y)) (w.bw (q f (q m y))) (R.bw (q f (q m y))) (U.bw (q f (q m y))) aP (u.jR aO aP) u.n7 u.n1 k.ol k.il k.bd X));have z:nt b c a d e=hr (iU (r1 b c a d e) (L a)) (uL (ae d 0+ae e 0) (oF b c a)):=J;have bP:=k.bd 0;have bi:=k.ol;have bk:=k.il;obtain⟨bS,bl,bT,rfl,bm,_,aQ⟩:=R.open;obtain⟨bU,bn,bV,rfl,bo,_,aR⟩:=U.open;obtain⟨bW,bX,rfl,f1⟩:=aQ 0 O;obtain⟨bY,bZ,rfl,an⟩:=aR 0 O;rw[eX]at f1 an;have g1:=s f f1;have g2:=s f an;obtain⟨b0,b2,b3,rfl,bq,_,_⟩:=w.open;generalize iU (r1 b c a d e) (L a)=aS at*;generalize oF b c a=LT at*;generalize ae d 0=G at*;generalize ae e 0=M at*;have b4:IntKind.i64.wrap (G+M)=G+M:=hf _ O;have ar:=Q (λl=>Tx (G+M) LT l);unfold uL at z;have⟨br,aU⟩:=K (mp (G+M) LT);rw[<-aU]at z ar;obtain⟨aV,av⟩:=br;dsimp only at z ar;have⟨aW,ax⟩:=K (if av then aV else 9223372036854775807);have aY:nt b c a d e=hr aS aW:=by rw[z,ax]
 have bs:=Q (λl=>ub aS aW l);have b5:(0:I)<bl:=O
 have b6:(0:I)<bn:=O
 have bt:(h:N)<=ak:=f.size;have n:=Q aL;have⟨b7,bu⟩:=K j;obtain⟨a1,a2,a3,a4,a5,a6⟩:=aK;have bv:=Q f;change H _ at ay aF aG al am aY;clear f;change H _ at ax;clear aC bc be aI aL aD w R U aA ag x aJ u aQ aR f1 an bm bo k bq bu X aU bi bk;go_in;go_upto_region 1 with fail;rw[ay];rw[aF];go_upto_region 2 with fail;rw[aG];clear a1 a2 a3 a4 a5 a6 ah ai;have bx:=n.c0;have bz:=n.c1;have bA:=n.c2;have bB:=n.c3;have bC:=n.c4;have bD:=n.c5;have bE:=al.oo;have bF:=am.oo;go_cut [6,7] (λbH bI bJ=>bH=aV/\bI=au av/\B ak ak bJ);case first=>
  refine i2 aT aT ?_;repeat(go_big_quiet_step (first
   |(go_at_call 89;exact iu _ (bf _ (d1.bw _)))
   |(go_at_call 88;exact wY _ (ar _))))
  refine wpQuiet_nil ?_;intro _ bK;obtain⟨bL,rfl⟩:=bK;go_wp2;go_meet;exact⟨J,J,bL.bw⟩
 obtain⟨rfl,rfl,P⟩:=hcut;obtain⟨a8,rfl⟩:=K wc;have bM:=Q (bg.oo a8 P);have a9:=Q (bv.oo.trans (P.mono bt));have bN:(h:N)<=a8:=a9.size;have⟨a1,a2,a3,a4,a5,a6⟩:=n.bw P;clear P bx bz bA bB bC bD bE bF g1 g2;cases av;all_goals have ba:=ax.oo;simp only[gL,if_true,if_false]at ba;subst ba;go_wp2_with fail;refine mU bM λb8 bb=>?_;have bO:=Q (a9.oo.trans (bb.mono bN));clear bb;go_wp2_with fail;refine mR (bs _) ?_;go_wp2;go_ret;rw[aY];exact⟨J,bO⟩
def nu(a:N)(b:I)(c:a0)(d:ai)(e f:ad):I:=max (nt a b c e f) (p5 a b c d)
def TA(a:N)(r c s:I)(m n o p:V)(b:a0)(j:ai)(f g:ad)(d:W)(t:bG d m b)(u:bt d n j)(v:aX d o f)(w:aX d p g)(x:oE a b)(G:Au (L b) f g):ap ab 63 #[ao #[a,r,c,s,m,n],ao #[o,p]] d (e3 d (nu a c b j f g)):=by
 have⟨k,K,M,O,P⟩:=bR d a r c s m n;obtain⟨h,R,y,U,X,Y⟩:∃h,k.alloc (az #[o,p] 103)=h/\B k k h/\h.heap.size=(k:N)+1/\C h k=A o/\C h ⟨k,1,Z⟩=A p:=⟨_,J,aN _ _,D,aE,aE⟩
 have e:=q M y;have i:=P.bw y;rw[O]at X Y;have ae:=Q (λz l=>Av a r c s m n o p b f g z (t.bw (q e l)) (v.bw (q e l)) (w.bw (q e l)) x G);have ag:=Q (λz l=>Tz a r c s m n b j z (t.bw (q e l)) (u.bw (q e l)) x);have ah:H (nu a c b j f g=max (nt a c b f g) (p5 a c b j)):=Q J;generalize nt a c b f g=ar at*;generalize p5 a c b j=av at*;obtain⟨ax,ay,aA,rfl,_⟩:=v.open;obtain⟨aC,aD,aF,rfl,_⟩:=w.open;obtain⟨aG,aI,aJ,rfl,_⟩:=t.open;obtain⟨aK,aL,aO,rfl,_⟩:=u.open;have aP:=i.c0;have aQ:=i.c1;have aR:=i.c2;have aS:=i.c3;have aU:=i.c4;have aV:=i.c5;have ak:(d:N)<=h.heap.size:=e.size;have al:=Q e;change H _ at K R;clear e;clear O U P i t u v w M y x G;go_in;go_upto_region 1 with fail;rw[K];rw[R];refine i2 aT aT ?_;repeat(go_big_quiet_step (first
  |(go_at_call 60;exact iu _ (ae _ (d1.bw _)))
  |(go_at_call 94;exact iu _ (ag _ (d1.bw _)))))
 refine wpQuiet_nil ?_;intro _ am;obtain⟨an,rfl⟩:=am;go_wp2;go_ret;rw[ah];exact⟨J,al.trans (an.bw.mono ak)⟩
def dC(c:N)(b:N->I):N->I×Bool
 |0=>(0,F)
 |a+1=>if a=c then dC c b a else if(dC c b a).2=F\/b a<(dC c b a).1 then(b a,T)else dC c b a
def g9(a b:N)(c:N->I):I:=(dC b c a).1
def sE(a:N)(c:N->I)(b:N)(d:b=a):dC a c (b+1)=dC a c b:=by rw[dC,am d]
def sF(c:N)(b:N->I)(a:N)(d:¬a=c):dC c b (a+1)=if(dC c b a).2=F\/b a<(dC c b a).1 then(b a,T)else dC c b a:=by rw[dC,ak d]
def r2(d:N)(f:N->I)(a:N)(b:(dC d f a).2=F):(dC d f a).1=0/\∀c,c<a->c=d:=by
 induction a with
  |zero=>exact⟨J,λc g=>O⟩
  |succ a h=>by_cases e:a=d;rw[sE _ _ _ e]at b⊢;have⟨i,j⟩:=h b;exact⟨i,λc g=>by rcases Nat.lt_succ_iff_lt_or_eq.1 g with k|rfl;exact j c k;exact e⟩;rw[sF _ _ _ e]at b;split at b;cases b;rename_i l;exact absurd (.inl b) l
def Aw(c:N)(b:N->I)(a:N)(j:(dC c b a).2=T):(∃d,d<a/\d≠c/\b d=(dC c b a).1)/\∀d,d<a->d≠c->(dC c b a).1<=b d:=by
 induction a with
  |zero=>cases j
  |succ a l=>
   by_cases m:a=c;rw[sE _ _ _ m]at j⊢;have⟨⟨d,p,f,n⟩,o⟩:=l j;exact⟨⟨d,O,f,n⟩,λe k g=>o e O g⟩;rw[sF _ _ _ m]at j⊢;split;rename_i h;refine⟨⟨a,O,m,J⟩,λe k g=>?_⟩;show b a<=b e;rcases Nat.lt_succ_iff_lt_or_eq.1 k with i|rfl;rcases h with h|h;exact absurd ((r2 c b a h).2 e i) g;cases f:(dC c b a).2 with
   |false=>exact absurd ((r2 c b a f).2 e i) g
   |true=>have:=(l f).2 e i g;omega
   omega;rename_i h;have f:(dC c b a).2=T:=by
    cases f:(dC c b a).2 with
     |true=>rfl
     |false=>exact absurd (.inl f) h
   have⟨⟨d,p,n,o⟩,q⟩:=l f;refine⟨⟨d,O,n,o⟩,λe k g=>?_⟩;rcases Nat.lt_succ_iff_lt_or_eq.1 k with i|rfl;exact q e i g;have:¬b e<(dC c b e).1:=λi=>h (.inr i);omega
def TB{d:N->I}(h:c<b)(i:c≠a):(dC a d b).2=T:=by
 cases j:(dC a d b).2 with
  |true=>rfl
  |false=>exact absurd ((r2 a d b j).2 c h) i
def Ax{J0 J6:N}{JB:N->I}{JX JI:I}(c:JX<=0)(d:0<=JI)(e:∀a,a<J0->a≠J6->JX<=JB a/\JB a<=JI):JX<=g9 J0 J6 JB/\g9 J0 J6 JB<=JI:=by
 unfold g9;cases b:(dC J6 JB J0).2 with
  |false=>rw[(r2 J6 JB J0 b).1];exact⟨c,d⟩
  |true=>have⟨⟨a,f,g,h⟩,_⟩:=Aw J6 JB J0 b;rw[<-h];exact e a f g
def TC{n place k:N}{f:N->I}(a:k<n)(b:k≠place):g9 n place f<=f k:=(Aw place f n (TB a b)).2 k a b
def ko(a:ai):Prop:=∀b c:I,0<=bC a b c/\bC a b c<=2147483648
def jz(b:ai)(c:N)(d:ad)(a:N):I:=dm (ae d a) 0 (g9 c a (λe=>bC b e a))
def cC(b:ai)(a:N)(c:ad):ad:=(List.range a).map (jz b a c)
def mr(c:ai)(d:N)(e:ad)(a:N):I:=g9 d a (λb=>bC c a b-ae e b)
def fm(b:ai)(a:N)(c:ad):ad:=(List.range a).map (mr b a c)
def ll(b:ai)(a:N)(c:ad):(cC b a c).length=a:=by simp[cC]
def oG(b:ai)(a:N)(c:ad):(fm b a c).length=a:=by simp[fm]
def Ay(c:ai)(a:N)(d:ad)(b:N)(e:b<a):ae (cC c a d) b=jz c a d b:=jN _ _ _ e
def TD(c:ai)(a:N)(d:ad)(b:N)(e:b<a):ae (fm c a d) b=mr c a d b:=jN _ _ _ e
def Az{b:ai}(e:ko b)(c:N)(d:ad)(a:N):0<=jz b c d a/\jz b c d a<=2147483648:=by have:=Ax (J0:=c) (J6:=a) (JB:=λf=>bC b f a) (JX:=0) (JI:=2147483648) O O (λg _ _=>e g a);unfold jz dm;omega
def TE{e:ai}(j:ko e)(h:ad)(ha:b<a)(i:b≠c):jz e a h c<=bC e b c:=by have:=TC (n:=a) (place:=c) (k:=b) (f:=λb=>bC e b c) ha i;(try simp only at this);unfold jz dm;omega
def p6{c:ai}(e:ko c)(a:N)(d:ad)(b:N):0<=ae (cC c a d) b/\ae (cC c a d) b<=2147483648:=by by_cases f:b<a;rw[Ay _ _ _ _ f];exact Az e a d b;rw[m1 (by rw[ll];omega)];omega
def TF{b:ai}(e:ko b)(a:N)(d:ad)(c:N):0<=mr b a (cC b a d) c/\mr b a (cC b a d) c<=2147483648\/(a<=c):=by by_cases g:c<a;left;refine Ax O O (λf h i=>?_);have j:=e c f;have k:=Az e a d f;have l:=TE e d g (Ne.symm i);rw[Ay _ _ _ _ h];omega;right;omega
def AA{b:ai}(f:ko b)(a:N)(d:ad)(c:N):0<=ae (fm b a (cC b a d)) c/\ae (fm b a (cC b a d)) c<=2147483648:=by by_cases g:c<a;rw[TD _ _ _ _ g];rcases TF f a d c with e|e;exact e;omega;rw[m1 (by rw[oG];omega)];omega
def r3(d e f g:I)(c h:V)(i:a0)(b:N)(a:W)(j:bG a c i)(n:L i+1=b)(o:b<=4096):ap ab 86 #[ao #[d,e,f,g,c,h]] a λp q=>p=aq b/\B a a q:=by
 have⟨v,k,r,s,l⟩:=bR a d e f g c h;obtain⟨w,m,x,rfl,t,_,_⟩:=j.open;have y:=l.c4;have z:m<=4096:=O
 have u:H ((b:I)=m+1):=Q O;change H _ at k;clear t l s j n o;go_in;go_upto_region 1 with(fail)
 rw[k];go_wp2;go_ret;rw[u];exact⟨J,r⟩
structure lm(a:W)(b:N)(c f1 d e f g h:V):Prop where
 c0:C a b=A c
 c1:C a ⟨b,1,Z⟩=A f1
 c2:C a ⟨b,2,Z⟩=A d
 c3:C a ⟨b,3,Z⟩=A e
 c4:C a ⟨b,4,Z⟩=A f
 c5:C a ⟨b,5,Z⟩=A g
 c6:C a ⟨b,6,Z⟩=A h
def lm.kept{e f g h:V}{row:Option N}(b:lm w a u v y e f g h)(c:w.grownBy x row)(d:A a≠row):lm x a u v y e f g h:=⟨c.cell b.c0 d,c.cell b.c1 d,c.cell b.c2 d,c.cell b.c3 d,c.cell b.c4 d,c.cell b.c5 d,c.cell b.c6 d⟩
def lm.bw{Kx:W}{b c d e:V}(g:lm w a u v y b c d e)(k:B w w Kx):lm Kx a u v y b c d e:=g.kept (row:=Z) (dS k) D
def TG(a:W)(c f1 d e f g h:V):∃b,a.alloc (az #[c,f1,d,e,f,g,h] 191)=b/\B a a b/\b.heap.size=(a:N)+1/\lm b a c f1 d e f g h:=⟨_,J,(aS _ _).alloc (aL _) _,D,⟨aE,aE,aE,aE,aE,aE,aE⟩⟩
def TH(f:N)(g h i j:I)(k b m:V)(c:ai)(d e:I)(a:W)(n:lm a f g h i j k b m)(l:bt a b c):ap ab 116 #[aM (A f),d,e] a λo p=>o=aq (bC c e d)/\B a a p:=by obtain⟨s,t,u,v,w,x,y⟩:=n;have q:=Q (lH g h i j k b c e d a l);clear l;go_in;go_wp2_with fail;refine mU q λz r=>?_;go_wp2;go_ret;exact⟨J,r⟩
def TI(d:N)(i j k l:I)(m h p:V)(f:ai)(e:ad)(g a:N)(c:W)(P:lm c d i j k l m h p)(r:bt c h f)(t:aX c p e)(R:a<L e)(u:ko f)(v:∀w,0<=ae e w/\ae e w<=1099511627776):ap ab 117 #[aM (A d),g,a] c λx b=>x=aq (bC f g a-ae e a:I)/\B c c b:=by
 obtain⟨U,X,Y,ag,ah,ak,al⟩:=P;obtain⟨aD,y,am,rfl,ar,aE,z⟩:=t.open;obtain⟨D,G,rfl,av⟩:=z a O;have ax:=u g a;have ay:=v a;obtain⟨aF,aG⟩:=ax;obtain⟨aI,aK⟩:=ay;have aL:=aJ a;have aN:(a:I)<y:=O
 have aA:=Q (λb aC=>lH i j k l m h f g a b (r.bw aC));generalize bC f g a=H at*;generalize ae e a=n at*;have K:=aS c c;have aO:IntKind.i64.wrap (H-n)=H-n:=hf _ O;clear z ar t r R u v;go_in;go_wp2_with fail;go_region_held3 (λb=>C b d=A (aa ac i)/\C b ⟨d,1,Z⟩=A (aa ac j)/\C b ⟨d,2,Z⟩=A (aa ac k)/\C b ⟨d,3,Z⟩=A (aa ac l)/\C b ⟨d,4,Z⟩=A m/\C b ⟨d,5,Z⟩=A h/\C b ⟨d,6,Z⟩=A (S (A ⟨D,G,Z⟩) y am)/\C b ⟨D,G+a,Z⟩=A (aa ac n)) (first|go_keep|exact⟨s lB U,s lB X,s lB Y,s lB ag,s lB ah,s lB ak,s lB al,s lB av⟩) (first|(go_at_call 160;refine(aA _ ?_).mono ?_;(first|exact K|exact an c);rintro x aP ⟨rfl,M⟩;(first|have o:=q (an c) M|have o:=q K M)));all_goals go_wp2;go_ret;exact⟨J,by first|exact o|exact o.drew⟩
def TJ(c J0 J4:N)(JB:N->I)(Kw:W)(G:∀(a:W)(JN:N),B Kw Kw a->JN<J0->JN≠J4->ap ab 116 #[aM (A c),J4,JN] a λb d=>b=aq (JB JN)/\B a.heap.size a d)(e:J0<=4096):ap ab 115 #[J0,J4,.func (.func 116) #[aM (A c)] #[]] Kw λb a=>b=aq (g9 J0 J4 JB)/\B Kw Kw a:=by
 exact vQ
def TK(c J0 J4:N)(JB:N->I)(Kw:W)(G:∀(a:W)(JN:N),B Kw Kw a->JN<J0->JN≠J4->ap ab 117 #[aM (A c),J4,JN] a λb d=>b=aq (JB JN)/\B a.heap.size a d)(e:J0<=4096):ap ab 115 #[J0,J4,.func (.func 117) #[aM (A c)] #[]] Kw λb a=>b=aq (g9 J0 J4 JB)/\B Kw Kw a:=by
 exact vQ
def AB(b:W)(a:N)(c:bj)(d:c=3)(e:a<=65536):ay (b.alloc (az (madeCells #[(0:I)] a) c)) b (S (A (b:N)) a a) (List.replicate a 0):=by subst d;unfold ay;refine⟨D,.inr ⟨(b:N),a,madeCells #[(0:I)] a,by rw[gK],aL _,by simp only[World.alloc];exact Array.getElem?_push_size,Nat.le_of_eq gK,eQ,?_,?_⟩⟩;have:=cz L (toList_madeCells_one (0:I) a);simpa using this;rw[toList_madeCells_one];simp[List.take_replicate]
def r4(a:W)(b:N)(u0 u1:V):((aj a b u0).setCell ⟨b,1,Z⟩ u1:N)=(a:N):=qq
def AC{b:World}{c:Nat}(i:(b:Nat)=c)(a:Nat)(m:a<=4096):eq ((b.alloc (.cells (madeCells #[.int .i64 0] a) 3)).alloc (.cells (madeCells #[.int .i64 0] a) 3)).drew c (.slice (some ⟨c,0,none⟩) a a) (.slice (some ⟨c+1,0,none⟩) a a) (List.replicate a 0) (List.replicate a 0)/\eq ((b.alloc (.cells (madeCells #[.int .i64 0] a) 3)).alloc (.cells (madeCells #[.int .i64 0] a) 3)).drew c (.slice (some ⟨c+1,0,none⟩) a a) (.slice (some ⟨c,0,none⟩) a a) (List.replicate a 0) (List.replicate a 0):=by
 subst i;have j:=AB b a _ rfl O;have f:=AB (b.alloc (.cells (madeCells #[.int .i64 0] a) 3)) a _ rfl O;have k:(b.alloc (.cells (madeCells #[.int .i64 0] a) 3):Nat)=(b:Nat)+1:=D
 rw[k]at f;have g:=(j.bw (aN _ (.cells (madeCells #[.int .i64 0] a) 3))).bw (an _);have h:=(f.bw (an _)).mono (Nat.le_succ _);exact⟨⟨g,h,λl d e=>by simp[Value.ownBlock]at d e;omega⟩,⟨h,g,λl d e=>by simp[Value.ownBlock]at d e;omega⟩⟩
def TL(p r s t:I)(k u:V)(v:a0)(a:N)(c:W)(K:bG c k v)(M:L v+1=a)(e:a<=4096):ap ab 114 #[ao #[aa ac p,aa ac r,aa ac s,aa ac t,k,u]] c (r0 c (List.replicate a 0) (List.replicate a 0)):=by
 have⟨l,P,w,x,y⟩:=bR c (aa ac p) (aa ac r) (aa ac s) (aa ac t) k u;obtain⟨d,GA⟩:∃d,l.alloc (az #[S Z 0 0,S Z 0 0] 103)=d:=⟨_,J⟩
 have m:B l.heap.size l d:=oV
 have n:d.heap.size=c.heap.size+1+1:=qo
 have R:ax d (c.heap.size+1) [S Z 0 0,S Z 0 0]:=by rw[<-GA,<-x];exact ax.new l [_,_] _
 have z:∀U,aH d ⟨c.heap.size+1,U,Z⟩=F:=λU=>by rw[<-GA,<-x];simp[go_sem]
 have y:=y.bw m;obtain⟨ag,ah,ai,ak,al,am⟩:=y;have an:=Q (r3 p r s t k u v a d ((K.bw w).bw m) M e);have ar:=Q (q w m);have av:=Q R;have aC:(a:I)<=4096:=O
 change H _ at P GA z n e;clear w m x R M K;go_in;go_upto_region 1 with(fail)
 rw[P,GA];go_wp2_with fail;refine mU an λb f=>?_;have X:c.heap.size+1<b.heap.size:=bi f.size n.oo
 have ad:c.heap.size<b.heap.size:=O
 have o:=Q (av.oo.bw f);have aD:=o.at 0 _ J;have aE:=o.at 1 _ J;have aG:=aY f (Y n.oo) (z 0);have f1:=aY f (Y n.oo) (z 1);have ay:=Q (q ar f);have aI:∀g:W,(Instr.makeSlice 22 (aa ac (a:I)) (aa ac (a:I))).run ab g= .ok (S (A ⟨g.heap.size,0,Z⟩) a a) (g.alloc (az (madeCells #[aa ac 0] a) 3)):=λg=>run_make_row' 22 3 (aa ac 0) 8 underlying22 hR J ac ac a (Y e.oo) (Y e.oo) g;generalize h:c.heap.size=i at*;have ae:H (B i c b):=Q ay;change H _ at h;clear f ag ah ai ak al am;go_wp2_with fail;go_region;·go_wp2_with fail;have j:=lF o (S (A ⟨b.heap.size,0,Z⟩) a a) (S (A ⟨b.heap.size+1,0,Z⟩) a a);have D:=j.at 0 _ J;have G:=j.at 1 _ J;refine b0 (v:=ao #[S (A ⟨b.heap.size,0,Z⟩) a a,S (A ⟨b.heap.size+1,0,Z⟩) a a]) (by simp[results,results114,go_sem,D,G,X,ad]) J ⟨_,_,J,?_,?_⟩;exact(AC (r4 b (i+1) _ _) a e).1.mono (by rw[h];omega);rw[h];exact Below.drew (((ae.trans (lG b (i+1) _ _ O)).alloc (by rw[r4];omega) _).alloc aF _)
 go_wp2_with fail;have j:=lF o (S (A ⟨b.heap.size+1,0,Z⟩) a a) (S (A ⟨b.heap.size,0,Z⟩) a a);have D:=j.at 0 _ J;have G:=j.at 1 _ J;refine b0 (v:=ao #[S (A ⟨b.heap.size+1,0,Z⟩) a a,S (A ⟨b.heap.size,0,Z⟩) a a]) (by simp[results,results114,go_sem,D,G,X,ad]) J ⟨_,_,J,?_,?_⟩;exact(AC (r4 b (i+1) _ _) a e).2.mono (by rw[h];omega);rw[h];exact Below.drew (((ae.trans (lG b (i+1) _ _ O)).alloc (by rw[r4];omega) _).alloc aF _)
def hB(b:N)(c d:N->I)(e:N):ad:=(List.range b).map λa=>if a<e then c a else d a
def ky(a:N)(b c:N->I)(d:N):(hB a b c d).length=a:=by simp[hB]
def r5(b:N)(c d:N->I)(e a:N)(f:a<b):ae (hB b c d e) a=if a<e then c a else d a:=jN _ _ _ f
def uM(b:N)(e d:N->I)(c:ad)(f:L c=b)(g:∀a,a<b->ae c a=d a):c=hB b e d 0:=by apply o4 (by rw[ky,f]);intro a h;rw[r5 _ _ _ _ _ O,ak O,g a O]
def uN(a:N)(b c:N->I):hB a b c a=(List.range a).map b:=by unfold hB;apply List.map_congr_left;intro e d;rw[am (X d)]
def uO(b:N)(c e:N->I)(a:N)(i:a<b):(hB b c e a).set a (c a)=hB b c e (a+1):=by apply o4 (by rw[b',ky,ky]);intro f d;rw[b',ky]at d;rw[nV (by rw[ky];exact i),r5 _ _ _ _ _ d,r5 _ _ _ _ _ d];by_cases g:a=f;subst g;rw[am J,am O];rw[ak g];by_cases h:f<a;rw[am h,am O];rw[ak h,ak O]
structure cJ(a:W)(b:N)(u0 u1:V):Prop where
 aA:ax a b [u0,u1]
 f0:aH a b=F
 f1:aH a ⟨b,1,Z⟩=F
def cJ.new(a:W)(u0 u1:V)(b:bj):cJ (a.alloc (az #[u0,u1] b)) a u0 u1:=⟨ax.new a [u0,u1] b,aE,aE⟩
def cJ.lt(b:cJ w a u v):a<w:=b.aA.lt
def cJ.bw{Kx:W}(b:cJ w a u v)(c:B w w Kx):cJ Kx a u v:=⟨b.aA.bw c,aY c b.lt b.f0,aY c b.lt b.f1⟩
def cJ.drew(c:cJ w a u v):cJ w.drew a u v:=c.bw (an w)
def cJ.kept{r:Option N}(b:cJ w a u v)(c:w.grownBy x r)(d:A a≠r):cJ x a u v:=⟨b.aA.kept c d,eS c b.lt d b.f0,eS c b.lt d b.f1⟩
def cJ.cells(b:cJ w a u v):C w a=A u/\C w ⟨a,1,Z⟩=A v/\aH w a=F/\aH w ⟨a,1,Z⟩=F:=⟨b.aA.at 0 _ J,b.aA.at 1 _ J,b.f0,b.f1⟩
def cJ.set(b:cJ w a u v)(d e:V):cJ ((aj w a d).setCell ⟨a,1,Z⟩ e) a d e:=⟨lF b.aA d e,by rw[bs,bs];exact b.f0,by rw[bs,bs];exact b.f1⟩
def kp(d:B w w x){u3 u4 u5:V}(f:C w a=A u/\C w ⟨a,1,Z⟩=A v/\C w ⟨a,2,Z⟩=A y/\C w ⟨a,3,Z⟩=A u3/\C w ⟨a,4,Z⟩=A u4/\C w ⟨a,5,Z⟩=A u5):C x a=A u/\C x ⟨a,1,Z⟩=A v/\C x ⟨a,2,Z⟩=A y/\C x ⟨a,3,Z⟩=A u3/\C x ⟨a,4,Z⟩=A u4/\C x ⟨a,5,Z⟩=A u5:=⟨s d f.1,s d f.2.1,s d f.2.2.1,s d f.2.2.2.1,s d f.2.2.2.2.1,s d f.2.2.2.2.2⟩
structure uP(b:N)(f:W)(a:N)(c d:V)(g h:ad)(e:W):Prop where
 ge:b<=a
 kT:cJ e a c d
 own:eq e b c d g h
 WK:af c≠A a
 WL:af d≠A a
 bw:B b f e
def uQ{f g:ad}(h:a<=(x:N))(d:eq x a u v f g)(k:B a w x)(m:bj):uP a w x u v f g (x.alloc (az #[u,v] m)):=⟨h,cJ.new _ _ _ _,d.bw (aN _ _),λe=>Y ((d.1.lt _ e).2),λe=>Y ((d.2.1.lt _ e).2),k.alloc h _⟩
def p7{c:ad}(e:ay w a u c)(h:w.grownBy x (A b))(k:af u≠A b):ay x a u c:=e.kept h (.inr k)
def r6{u1:V}{i j:ad}(g:eq x a u v i j)(n:B a w x)(k:a<=b)(p:cJ x b y u1)(l:af u≠A b)(m:af v≠A b):uP a w b u v i j ((aj x b u).setCell ⟨b,1,Z⟩ v):=⟨k,p.set _ _,⟨p7 g.1 (mY x b u v) l,p7 g.2.1 (mY x b u v) m,g.2.2⟩,l,m,n.trans (lG x b u v k)⟩
def TM{Kf:N}{d e:ad}(c:eq w a u v d e)(j:Kf<a):af u≠A Kf/\af v≠A Kf:=⟨λb=>Y ((c.1.lt _ b).1),λb=>Y ((c.2.1.lt _ b).1)⟩
def TN{Kf:N}{d e:ad}(c:eq w a u v d e)(j:w<=Kf):af u≠A Kf/\af v≠A Kf:=⟨λb=>Y ((c.1.lt _ b).2),λb=>Y ((c.2.1.lt _ b).2)⟩
def AD(ar av ax aC:I)(ag ah bF:V)(bq:a0)(c:ai)(d:ad)(b:N)(p:W)(bH:bG p ag bq)(b4:bt p ah c)(b5:aX p bF d)(bI:L bq+1=b)(a4:b<=4096)(br:L d=b)(b6:ko c):ap ab 87 #[ao #[ar,av,ax,aC,ag,ah],bF] p (r0 p (fm c b (cC c b d)) (cC c b d)):=by
 have⟨bJ,b7,aQ,b8,a5⟩:=bR p ar av ax aC ag ah;obtain⟨e,GA⟩:∃e,bJ.alloc (az #[S Z 0 0,S Z 0 0] 103)=e:=⟨_,J⟩
 have aD:B bJ bJ e:=oV
 have cu:e.heap.size=(p:N)+1+1:=qo
 have b9:cJ e ((p:N)+1) (S Z 0 0) (S Z 0 0):=by rw[<-GA,<-b8];exact cJ.new _ _ _ _
 have a5:=a5.bw aD;obtain⟨r,u,v,w,x,y⟩:=a5;have cv:=Q (λaE R=>r3 ar av ax aC ag ah bq b aE (((bH.bw aQ).bw aD).bw R) bI a4);have cw:=Q (λaE R=>TL ar av ax aC ag ah bq b aE (((bH.bw aQ).bw aD).bw R) bI a4);have cx:=Q (q aQ aD);have b':=Q ((b4.bw aQ).bw aD);have cy:=Q ((b5.bw aQ).bw aD);have ca:=Q b9;have aR:(p:N)<e.heap.size:=O
 have bs:(p:N)+1<e.heap.size:=O
 have bu:0<b:=O
 have ds:(b:I)<=4096:=O
 replace br:=Q br;change H _ at b7 GA a4;clear aQ aD b8 cu b9 bI bH b4 b5;go_in;go_upto_region 1 with(fail)
 rw[b7.oo,GA.oo];generalize bK:(p:Nat)=al at*;change H _ at bK;have cz:H (Below al p e):=Q cx.oo;have cc:=Below.refl e.heap.size e;go_cut [5,6] (λcA cB cD=>∃(bv:Nat) (bL bM:Value),cA= .pointer (some ⟨bv,0,none⟩)/\cB= .int .i64 b/\uP e.heap.size e bv bL bM (List.replicate b 0) (List.replicate b 0) cD);case first=>
  go_region_held3 (λU=>C U al=A (aa ac ar)/\C U ⟨al,1,Z⟩=A (aa ac av)/\C U ⟨al,2,Z⟩=A (aa ac ax)/\C U ⟨al,3,Z⟩=A (aa ac aC)/\C U ⟨al,4,Z⟩=A ag/\C U ⟨al,5,Z⟩=A ah) (first|go_keep|exact kp g ⟨r,u,v,w,x,y⟩|exact kp i ⟨r,u,v,w,x,y⟩|exact kp (g.alloc g.size _) ⟨r,u,v,w,x,y⟩|exact kp (i.alloc i.size _) ⟨r,u,v,w,x,y⟩|exact kp aT.bw ⟨r,u,v,w,x,y⟩|exact kp aU.bw ⟨r,u,v,w,x,y⟩|exact kp bx.bw ⟨r,u,v,w,x,y⟩|exact kp (r6 aG i (by first|exact aL _|exact g.size) n am.1 am.2).bw ⟨r,u,v,w,x,y⟩|exact kp (i.drew) ⟨r,u,v,w,x,y⟩|exact kp (g.drew) ⟨r,u,v,w,x,y⟩)
   (first
    |(go_at_call 114;refine(cw _ ?_).mono ?_;(first|exact cc|exact an e|exact q (an e) (aN _ _)|exact q (aN e _) (an _));rintro f cd ⟨bL,bM,rfl,bz,a6⟩;obtain⟨l,a8,j,aI,rfl,rfl⟩:=bz.form gK gK bu;(first|have g:=q cc a6|have g:=q (an e) a6|have g:=q (q (an e) (aN _ _)) a6|have g:=q (q (aN e _) (an _)) a6);have a9:=bz.mono (show e.heap.size<=_ by first|exact aL _|(simp;done)|(simp;omega));have aU:=uQ g.size a9 g 103;(first|(have n:=(cJ.new e _ _ _).drew.bw a6;have am:=TM (Kf:=e.heap.size) bz D;have aT:=r6 a9 g (aL _) n am.1 am.2;have⟨dt,du,dv,dw⟩:=n.cells;have dx:=n.lt)|skip))
    |(go_at_call 86;refine(cv _ ?_).mono ?_;(first|exact g|exact q g (aN _ _)|exact q g (an _)|exact aT.bw|exact aU.bw);rintro f ce ⟨rfl,z⟩;(first|have i:=q g z|have i:=q (q g (aN _ _)) z|have i:=q (q g (an _)) z|have i:=aT.bw.trans (z.mono aT.bw.size)|have i:=aU.bw.trans (z.mono aU.bw.size));(first|have bx:=aT.bw' aT.bw.size z|have bx:=aU.bw' aU.bw.size z|skip);(first|have aG:=a9.bw z|have aG:=(a9.bw (aN _ _)).bw z|have aG:=(a9.bw (an _)).bw z|skip);(first|(have n:=n.bw z;have⟨cE,cF,cG,cH⟩:=n.cells;have cI:=n.lt)|(have am:=TN (Kf:=(cd:N)) bz (aL _);have n:=(cJ.new cd _ _ _).bw z;have⟨cE,cF,cG,cH⟩:=n.cells;have cI:=n.lt)|skip)))
  all_goals
   go_wp2;go_meet;first
    |exact⟨_,_,_,J,J,bx⟩
    |exact⟨_,_,_,J,J,bx.drew⟩
    |exact⟨_,_,_,J,J,uQ i.size aG i _⟩
    |exact⟨_,_,_,J,J,(uQ i.size aG i _).drew⟩
    |exact⟨_,_,_,J,J,r6 aG i (by first|exact aL _|exact g.size) n am.1 am.2⟩
    |exact⟨_,_,_,rfl,rfl,(r6 aG i (by first|exact Nat.le_refl _|exact g.size) n am.1 am.2).drew⟩
 obtain⟨bO,bL,bM,rfl,rfl,m⟩:=hcut;obtain⟨ce,rfl⟩:=K wc;obtain⟨l,a8,j,aI,rfl,rfl⟩:=m.own.form List.length_replicate List.length_replicate bu;obtain⟨cf,cg,_,_⟩:=m.kT.cells;have dy:=m.ge;have dz:=m.kT.lt;have cK:=m.own.2.1.lt j rfl;have cL:=m.own.1.lt l rfl;have dA:¬l=bO:=λf=>m.WK sw;have dB:¬j=bO:=λf=>m.WL sw;have dC:¬j=l:=λf=>m.own.2.2 l rfl sw;obtain⟨dD,dE⟩:=cK;obtain⟨dF,dG⟩:=cL;have cM:=Q m.own.1;have cN:=Q m.own.2.1;have aO:=Q m.bw;have cO:=Q (cy.oo.bw m.bw);clear m;go_wp2_with (with_reducible refine Am rfl (.tmp 15) (.tmp 16) rfl ce e.heap.size j b aI (List.replicate b 0) d bF rfl rfl cN.oo cO.oo br.oo bu ?_);intro ba ch G;have cP:=G.cell (bk aO.oo aR r) aF;have g1:=G.cell (bk aO.oo aR u) aF;have g2:=G.cell (bk aO.oo aR v) aF;have g3:=G.cell (bk aO.oo aR w) aF;have cQ:=G.cell (bk aO.oo aR x) aF;have cR:=G.cell (bk aO.oo aR y) aF;have ci:=G.cell cf aF;have cj:=G.cell cg aF;have dH:=G.size;have cS:=Q (p7 cM.oo G (by simp[Value.ownBlock];omega));have cT:=Q (aO.oo.grown G O sy);obtain⟨ck,cl,aV,dJ,cm⟩:=TG ba (.int .i64 ar) (.int .i64 av) (.int .i64 ax) (.int .i64 aC) ag ah (.slice (some ⟨j,0,none⟩) b aI);have cU:=s aV ci;have cV:=s aV cj;have cW:=Q (cS.oo.bw aV);have cX:=Q (ch.bw aV);have cY:=Q (cT.oo.trans (aV.mono O));have cZ:=Q cm;have dK:j<(ba:Nat):=O
 have dL:l<ba:=O
 have dM:bO<ba:=O
 have c0:e.heap.size<=(ck:N):=O
 have c1:H (d=hB b (jz c b d) (ae d) 0):=Q (uM b _ _ d br (λ_ _=>rfl));change H _ at ch cl;clear G aV cm cf cg r u v w x y;go_upto_region 4 with(fail)
 rw[cl];generalize ba=bA at*;clear cP g1 g2 g3 cQ cR ci cj;go_wp2;go_loopw [8,24] (λM P wr=>∃(JN:N) (bb:V),P=JN/\bb=M/\JN<=b/\ay wr e.heap.size (S (A j) b aI) (hB b (jz c b d) (ae d) JN)/\ck.grownBy wr (A j)) (λ_ P _=>b-(aw P).toNat);exact⟨0,_,J,J,a3 _,by rw[<-c1];exact cX,⟨J,J,J,aL _,λ_ _ _=>rfl⟩⟩;obtain⟨JN,bb,rfl,rfl,t,o,h⟩:=hrel;have c3:=h.cell cU aF;have cn:=h.cell cV aF;have dN:=h.size;have co:=Q (cZ.oo.kept h aF);have bB:=cY.grown h c0 sy;have c4:=Q bB;have c5:=Q (b'.oo.bw bB);have HOr:=Q (p7 cW h sx);have cp:=Q h;by_cases Ch:JN<b
 ·have⟨c6,c7,bc,_,_,_,be⟩:=o.out (by rw[ky];exact bu);simp only[bf,a2,bN,bT]at bc;obtain⟨rfl,bP,bS⟩:=bc;have⟨aW,f1⟩:=be JN nJ;rw[bX]at aW f1;rw[r5 _ _ _ _ _ Ch,ak (Nat.lt_irrefl JN)]at aW;have bU:=Q (λaE R=>TJ bA b JN (λbg=>bC c bg JN) aE (λU a a1 bD c8=>TH bA ar av ax aC ag ah _ c JN a U (co.out.bw (q R a1)) (c5.bw (q R a1))) a4);have bV:=Q (uO b (jz c b d) (ae d) JN Ch);have bh:H (jz c b d JN=dm (ae d JN) 0 (g9 b JN (λbg=>bC c bg JN))):=Q J;have bW:=Q o;generalize g9 b JN (λbg=>bC c bg JN)=bY at*;generalize ae d JN=c9 at*;have c':=aJ JN;have da:(JN:I)<b:=by omega
  have bZ:j<wr.heap.size:=O
  have bi:=aS wr.heap.size wr;clear o h be bP bS bB;go_wp2_with fail;go_region_law (first
   |(refine qE dI ?_;go_simp;go_at_call 115;refine(bU _ ?_).mono ?_;(first|exact bi|exact an wr);rintro f bl ⟨rfl,bm⟩;(first|have k:=q bi bm|have k:=q (an wr) bm);have dO:=s k cn;have db:=s k aW;have dc:=aY k bZ f1)
   |(refine qE dI ?_;go_simp;go_at_call 37;refine mR (pB _ _ _ _) ?_))
  all_goals
   go_wp2;go_roundw;case rel=>have aP:=(bW.bw k).set JN (dm c9 0 bY) nJ;rw[bX,<-bh,bV,bh]at aP;exact⟨JN+1,_,aK,J,O,(by first|exact aP|exact aP.bw (an _)),(by first|exact c2 (c2 cp (dS k)) (bn bl ⟨j,JN,Z⟩ _)|exact c2 (c2 (c2 cp (dS k)) (bn bl ⟨j,JN,Z⟩ _)) (dS (an _)))⟩
   simp[aw];omega
 have dd:JN=b:=O
 subst dd;rw[uN]at o;have de:=Q o;obtain⟨cq,rfl⟩:=K wr;have df:H (List.replicate JN 0=hB JN (mr c JN (cC c JN d)) (λ_=>0) 0):=Q (uM JN _ _ _ gK (λa bD=>by rw[e9 (X bD)];simp));have dg:e.heap.size<=(cq:N):=O
 clear o h bB Ch t;go_wp2;go_loopw [9,44] (λM P wr=>∃(a:N) (bb:V),P=(a:I)/\bb=M/\a<=JN/\ay wr e.heap.size (S (A l) JN a8) (hB JN (mr c JN (cC c JN d)) (λ_=>0) a)/\cq.grownBy wr (A l)) (λ_ P _=>JN-(aw P).toNat);exact⟨0,_,J,J,a3 _,by rw[<-df];exact HOr,⟨J,J,J,aL _,λ_ _ _=>rfl⟩⟩;obtain⟨a,bb,rfl,rfl,bD,o,h⟩:=hrel;have dh:=h.cell c3 aF;have dP:=h.cell cn aF;have dQ:=h.size;have di:=Q (co.out.kept h aF);have bo:=Q (c4.oo.grown h dg sy);have dj:=Q (b'.oo.bw bo);have cr:=Q (p7 de h sx);have cs:=Q h;by_cases Ch:a<JN
 ·have⟨c6,c7,bc,_,_,_,be⟩:=o.out (by rw[ky];omega);simp only[bf,a2,bN,bT]at bc;obtain⟨rfl,bP,bS⟩:=bc;have⟨aW,f1⟩:=be a nJ;rw[bX]at aW f1;have bU:=Q (λaE R=>TK bA JN a (λM=>bC c a M-ae (cC c JN d) M) aE (λU P a1 a5 c8=>TI bA ar av ax aC ag ah _ c (cC c JN d) a P U (di.out.bw (q R a1)) (dj.bw (q R a1)) (cr.ints.bw (q R a1)) (by rw[ll];exact a5) b6 (λP=>Y (p6 b6 JN d P))) a4);have bV:=Q (uO JN (mr c JN (cC c JN d)) (λ_=>0) a Ch);have bh:H (mr c JN (cC c JN d) a=g9 JN a (λM=>bC c a M-ae (cC c JN d) M)):=Q J;have bW:=Q o;generalize g9 JN a (λM=>bC c a M-ae (cC c JN d) M)=bY at*;have c':=aJ a;have da:(a:I)<JN:=by omega
  have bZ:l<wr.heap.size:=O
  have bi:=aS wr.heap.size wr;clear o h be bP bS;go_wp2_with fail;go_region_law (first
   |(refine qE dI ?_;go_simp;go_at_call 115;refine(bU _ ?_).mono ?_;(first|exact bi|exact an wr);rintro f bl ⟨rfl,bm⟩;(first|have k:=q bi bm|have k:=q (an wr) bm);have dR:=s k dh;have db:=s k aW;have dc:=aY k bZ f1))
  all_goals
   go_wp2;go_roundw;case rel=>have aP:=(bW.bw k).set a bY nJ;rw[bX,<-bh,bV,bh]at aP;exact⟨a+1,_,aK,J,O,(by first|exact aP|exact aP.bw (an _)),(by first|exact c2 (c2 cs (dS k)) (bn bl ⟨l,a,Z⟩ _)|exact c2 (c2 (c2 cs (dS k)) (bn bl ⟨l,a,Z⟩ _)) (dS (an _)))⟩
   simp[aw];omega
 have dk:a=JN:=O
 subst dk;rw[uN]at o;have dl:=Q o;have b2:=ca.oo;have bE:=(ca.aA.lower bo bs)
 have dT:=bE.at 0 _ J;have dU:=bE.at 1 _ J;have dV:=ex bo bs b2.f0;have dW:=ex bo bs b2.f1;change H _ at bE;clear o h b2 Ch bD;go_wp2_with fail;have ct:=lF bE (S (A l) a a8) (S (A j) a aI);have dn:=ct.at 0 _ J;have dp:=ct.at 1 _ J;have dq:eq wr e.heap.size (S (A l) a a8) (S (A j) a aI) (fm c a (cC c a d)) (cC c a d):=⟨dl,cr,λdr b3 f=>by simp[af]at b3 f;omega⟩
 refine b0 (v:=ao #[S (A l) a a8,S (A j) a aI]) (by simp[results,results87,go_sem,dn,dp]) J ⟨_,_,J,?_,?_⟩;rw[bK];exact(dq.kept (mY wr (al+1) _ _) (λdr b3=>by cases b3;exact bs)).mono O;rw[bK];exact cz.trans ((bo.mono O).trans (lG wr (al+1) _ _ O))
def TO(a:N)(b:I):(List.range a).map (λ_=>b)=List.replicate a b:=by simp[List.map_const']
def uR{d:W}{u1:V}{i j:ad}(n:B a w x)(p:eq d x u v i j)(k:B x x d)(l:cJ x b y u1)(q:a<=b):cJ d b y u1/\eq ((aj d b u).setCell ⟨b,1,Z⟩ v) a u v i j/\B a w ((aj d b u).setCell ⟨b,1,Z⟩ v):=by
 have r:=l.lt;have m:a<=(x:N):=O
 refine⟨l.bw k,(p.kept (mY d b u v) (λt s=>by cases s;exact r)).mono m,?_⟩;exact(n.trans (k.mono m)).trans (lG d b u v q)
def p8(a:N):ad:=List.replicate a 2147483648
def TP(n o p r:I)(k l:V)(t:a0)(h:ai)(a:N)(c:W)(y:bG c k t)(ag:bt c l h)(z:L t+1=a)(u:a<=4096)(a9:ko h):ap ab 58 #[ao #[n,o,p,r,k,l]] c (r0 c (fm h a (cC h a (p8 a))) (cC h a (p8 a))):=by
 have⟨D,ah,m,ak,G⟩:=bR c n o p r k l;obtain⟨g,GA⟩:∃g,D.alloc (az #[S Z 0 0,S Z 0 0] 103)=g:=⟨_,J⟩
 have i:B D D g:=oV
 have ba:g.heap.size=(c:N)+1+1:=qo
 have al:cJ g ((c:N)+1) (S Z 0 0) (S Z 0 0):=by rw[<-GA,<-ak];exact cJ.new _ _ _ _
 have G:=G.bw i;obtain⟨am,an,ar,av,ax,aA⟩:=G;have bb:=Q (λK v=>r3 n o p r k l t a K (((y.bw m).bw i).bw v) z u);have bc:=Q (λK v be bg=>AD n o p r k l be t h (p8 a) a K (((y.bw m).bw i).bw v) (((ag.bw m).bw i).bw v) bg z u gK a9);have bh:=Q (q m i);have IV:=Q al;have bD:(c:N)<g.heap.size:=O
 have aC:0<a:=O
 have bE:(a:I)<=4096:=O
 change H _ at ah GA u;clear m i ak ba al z y ag;go_in;go_upto_region 1 with(fail)
 rw[ah.oo,GA.oo];generalize M:(c:Nat)=aD at*;change H _ at M;have bi:H (Below aD c g):=Q bh.oo;go_wp2_with fail;refine mU (bb.oo _ (Below.refl _ _)) λw d=>?_;obtain⟨aE,aG,aI,e⟩:=ra w a (Y u.oo);have bk:=Q (q d e);have bF:g.heap.size<=(w:Nat):=d.size;have bH:(w:Nat)<=aE:=e.size;have bl:=Q (IV.oo.bw (q d e));have aL:=s (q d e) am;have aO:=s (q d e) an;have aP:=s (q d e) ar;have aQ:=s (q d e) av;have aR:=s (q d e) ax;have aS:=s (q d e) aA;have bm:H (List.replicate a 0=hB a (λ_=>2147483648) (λ_=>0) 0):=Q (uM a _ _ _ List.length_replicate (λbI bo=>by rw[e9 (X bo)];simp));change H _ at aG aI;clear d e am an ar av ax aA;go_wp2_with fail;rw[aG.oo];generalize (w:Nat)=x at*;go_wp2;go_loopw [4,10] (λbq P wr=>∃(b:Nat) (aT:Value),P= .int .i64 b/\aT=bq/\b<=a/\ay wr x (.slice (some ⟨x,0,none⟩) a a) (hB a (λ_=>2147483648) (λ_=>0) b)/\aE.grownBy wr (some x)) (λ_ P _=>a-(aw P).toNat);exact⟨0,_,rfl,rfl,Nat.zero_le _,by rw[<-bm.oo];exact aI.oo,⟨rfl,rfl,rfl,Nat.le_refl _,λ_ _ _=>rfl⟩⟩;obtain⟨b,aT,rfl,rfl,bJ,j,f⟩:=hrel;by_cases Ch:b<a
 ·have⟨bK,bL,aU,_,_,_,aV⟩:=j.out (by rw[ky];exact aC);simp only[bf,a2,bN,bT]at aU;obtain⟨rfl,br,bs⟩:=aU;have⟨bu,f1⟩:=aV b nJ;rw[bX]at bu f1;have R:=j.set b 2147483648 nJ;rw[bX,uO a (λ_=>2147483648) (λ_=>0) b Ch]at R;have bM:=aJ b;have bO:(b:I)<a:=by omega
  change H _ at R;clear aV br bs j;go_wp2;go_roundw;case rel=>exact⟨b+1,_,aK,J,O,R,c2 f (bn wr ⟨x,b,Z⟩ _)⟩
  simp[aw];omega
 have bv:b=a:=O
 subst bv;rw[uN,TO]at j;have U:=bk.out.grown f O (by intro bP bx;simp at bx;omega);have bS:=f.cell aL aF;have bU:=f.cell aO aF;have bV:=f.cell aP aF;have bW:=f.cell aQ aF;have bY:=f.cell aR aF;have bZ:=f.cell aS aF;have bz:=Q (bc.oo wr U _ j.ints);have bA:=Q (bi.oo.trans (U.mono O));have aW:=Q (bl.oo.kept f sA);have b0:=aW.out.lt;clear j f U aL aO aP aQ aR aS;go_wp2_with fail;refine bz.oo.mono ?_;rintro b2 b3 ⟨b4,b5,rfl,ad,aX⟩;obtain⟨aY,a1,a3,a4,rfl,rfl⟩:=ad.form (oG _ _ _) (ll _ _ _) aC;obtain⟨ae,a5,a6⟩:=uR bA.oo ad aX aW.out (Nat.le_succ aD);obtain⟨b6,b7,b8,b9⟩:=ae.cells;have a8:=ae.set (.slice (some ⟨aY,0,none⟩) b a1) (.slice (some ⟨a3,0,none⟩) b a4);obtain⟨bB,bC,_,_⟩:=a8.cells;change H _ at a5 a6;clear aX ad ae a8;go_wp2_with fail;refine bodyPost_ret (v:=.agg #[.slice (some ⟨aY,0,none⟩) b a1,.slice (some ⟨a3,0,none⟩) b a4]) (by simp[results,results58,go_sem,bB,bC]) rfl ⟨_,_,rfl,?_,?_⟩;rw[M.oo];exact a5.out;rw[M.oo];exact a6.out
def ij(a:ad)(b c:I):ad:=if 0<=b/\b<(L a:I)then a.set b.toNat (ae a b.toNat-c)else a
def TQ(a:ad)(b c:I):(ij a b c).length=L a:=by unfold ij;split<;>simp
def TR(v w x y:I)(n o ah p:V)(z:a0)(k:ai)(adA:ad)(J0:N)(e c:I)(b:W)(al:bG b n z)(aL:bt b o k)(G:aX b p adA)(an:L z+1=J0)(K:J0<=4096)(bz:ko k)(i:L adA=J0)(aO:∀a,-1099511627776<=ae adA a/\ae adA a<=1099511627776)(b4:0<=c)(b5:c<=2147483648):ap ab 62 #[ao #[aa ac v,aa ac w,aa ac x,aa ac y,n,o],ao #[ah,p],aa ac e,aa ac c] b (r0 b (fm k J0 (cC k J0 (ij adA e c))) (cC k J0 (ij adA e c))):=by
 obtain⟨ar,aP,aQ,aR,av⟩:=bR b (aa ac v) (aa ac w) (aa ac x) (aa ac y) n o;obtain⟨j,r⟩:∃j,ar.alloc (az #[ah,p] 103)=j:=⟨_,J⟩
 have ax:B (ar:N) ar j:=by rw[<-r];exact aN _ _
 have aT:j.heap.size=(b:N)+1+1:=by rw[<-r];simp;omega
 have aU:cJ j ((b:N)+1) ah p:=by rw[<-r,<-aR];exact cJ.new _ _ _ _
 obtain⟨d,GA⟩:∃d,j.alloc (az #[S Z 0 0,S Z 0 0] 103)=d:=⟨_,J⟩
 have M:B j.heap.size j d:=oV
 have bA:d.heap.size=(b:N)+1+1+1:=qo
 have aV:cJ d ((b:N)+1+1) (S Z 0 0) (S Z 0 0):=by rw[<-GA,<-aT];exact cJ.new _ _ _ _
 have l:=q (q aQ ax) M;have av:=av.bw (q ax M);have aW:=aU.bw M;obtain⟨aY,a1,a3,a4,a5,a6⟩:=av;have a8:=aW.cells.2.1;have bB:=Q (λ(m:W) (P:B d.heap.size d m)=>r3 v w x y n o z J0 m ((al.bw l).bw P) an K);have a9:=Q (λ(m:W) (P:B d.heap.size d m) (ba:V) (G:aX m ba (ij adA e c))=>AD v w x y n o ba z k (ij adA e c) J0 m ((al.bw l).bw P) ((aL.bw l).bw P) G an K (by rw[TQ];exact i) bz);have bC:=Q (G.bw l);have IV:=Q aV;have b6:(b:N)<d.heap.size:=O
 have b7:(b:N)+1<d.heap.size:=O
 have R:0<J0:=O
 have b8:(J0:I)<=4096:=O
 replace i:=Q i;change H _ at l aP r GA aO K;clear aQ ax M aR aT bA aV an al aL G aU aW;go_in;go_upto_region 1 with(fail)
 rw[aP.oo,r.oo,GA.oo];generalize Dt:(b:N)=bD at*;change H _ at Dt;have bb:H (B bD b d):=Q l.oo;go_wp2_with fail;refine mU (bB.oo _ (aS _ _)) λU f=>?_;obtain⟨bc,be,ag,g⟩:=ra U J0 (Y K.oo);have bE:=Q (q f g);have bF:d.heap.size<=(U:N):=f.size;have b9:(U:N)<bc:=(ag.lt _ J).2;have bH:=Q (IV.oo.bw (q f g));have bg:=s (q f g) aY;have bh:=s (q f g) a1;have bi:=s (q f g) a3;have bk:=s (q f g) a4;have bl:=s (q f g) a5;have bm:=s (q f g) a6;have bI:=s (q f g) a8;have bJ:=Q (bC.oo.bw (q f g));replace ag:=Q ag;change H _ at be;clear f g aY a1 a3 a4 a5 a6 a8;go_wp2_with fail;rw[be.oo];generalize (U:N)=t at*;go_wp2_with (with_reducible refine Am J (.tmp 13) (.tmp 15) J bc t t J0 J0 (List.replicate J0 0) adA p J J ag.oo bJ.oo i.oo R ?_);intro bo bq h;have b':=h.size;have ay:=Q (bE.out.grown h O (by intro ca bK;simp at bK;omega));have cc:=h.cell bg aF;have cd:=h.cell bh aF;have ce:=h.cell bi aF;have cf:=h.cell bk aF;have cg:=h.cell bl aF;have ch:=h.cell bm aF;have br:=Q (bH.oo.kept h sA);have aA:=Q bq;have ci:t<(bo:N):=O
 clear bq h bg bh bi bk bl bm bI;by_cases hp:0<=e/\e<(J0:I)
 ·obtain⟨a,rfl⟩:=dw hp.1;have aC:a<J0:=by omega
  obtain⟨cj,ck,bs,_,_,_,bu⟩:=aA.oo.out (by rw[i.oo];exact R);simp only[bf,a2,bN,bT]at bs;obtain⟨rfl,bL,bM⟩:=bs;obtain⟨bO,f1⟩:=bu a (by rw[i.oo];exact aC);rw[bX]at bO f1;have u:ij adA (a:I) c=adA.set a (ae adA a-c):=by unfold ij;rw[am (by rw[i.oo];omega),cW]
  have aD:=aA.oo.set a (ae adA a-c) (by rw[i.oo];exact aC);rw[bX,<-u]at aD;have bP:=aO.oo a;obtain⟨cl,cm⟩:=bP;generalize ae adA a=bv at*;have cn:=aJ a;have co:(a:I)<J0:=O
  have bx:decide ((a:I)<0)=F:=D
  have bS:decide (a<J0)=T:=X aC
  have bU:=Q (bn bo ⟨t,a,Z⟩ (aa ac (bv-c)));have aE:=ay.oo.setCell (p:=⟨t,a,Z⟩) (by exact bF) (aa ac (bv-c));have aG:=Q (a9.oo _ aE _ aD.ints);have aI:=Q (bb.oo.trans (aE.mono O));have bV:=Q (br.oo.kept bU.oo sA);change H _ at aD;clear bu bL bM u hp aE;go_wp2_with fail;refine aG.oo.mono ?_;rintro bW bY ⟨bZ,b2,rfl,FV,Hh⟩;obtain⟨FQ,FR,Xaa,FT,rfl,rfl⟩:=FV.form (oG _ _ _) (ll _ _ _) R;obtain⟨C7,DU,FU⟩:=uR aI.oo FV Hh bV.out O;exact vU
 have u:ij adA e c=adA:=by unfold ij;rw[ak (by rw[i.oo];exact hp)]
 have aK:=aA.oo.ints;rw[<-u]at aK;have aG:=Q (a9.oo _ ay.oo _ aK);have aI:=Q (bb.oo.trans (ay.oo.mono O));have b3:(decide (0<=e)=F)\/(decide (0<=e)=T/\decide (e<(J0:I))=F):=by by_cases adA:0<=e;exact .inr ⟨X adA,aF⟩;exact .inl (X adA)
 clear u aK hp;rcases b3 with bx|⟨bx,bS⟩;all_goals go_wp2_with fail;refine aG.oo.mono ?_;rintro bW bY ⟨bZ,b2,rfl,FV,Hh⟩;obtain⟨FQ,FR,Xaa,FT,rfl,rfl⟩:=FV.form (oG _ _ _) (ll _ _ _) R;obtain⟨C7,DU,FU⟩:=uR aI.oo FV Hh br.oo O;exact vU
def cy(a:I):I:=IntKind.u64.wrap (a+11400714819323198485)
def TS(a:I):I:=IntKind.u64.wrap (bits .xor b1 a (a/1073741824)*13787848793156543929)
def TT(a:I):I:=IntKind.u64.wrap (bits .xor b1 a (a/134217728)*10723151780598845931)
def AE(a:I):I:=bits .xor b1 a (a/2147483648)
def dc(a:I):I:=AE (TT (TS (cy a)))
def TU(a:I):0<=IntKind.u64.wrap a/\IntKind.u64.wrap a<18446744073709551616:=by rw[IntKind.wrap_u64];omega
def r7(a:I):0<=dc a/\dc a<18446744073709551616:=by unfold dc AE;exact TU _
def d'(a:W)(b:N)(c:I):Prop:=C a b=A (aa b1 c)/\aH a b=F
def d'.lt(c:d' w a i):a<w:=aR w _ c.1
def d'.kept(d:d' w a i)(e:w.grownBy x (A b))(f:a≠b):d' x a i:=⟨(ey (a:=⟨a,0,Z⟩) (e.block a d.lt (X f))).trans d.1,(World.frozen?_of_block (a:=⟨a,0,Z⟩) (e.block a d.lt (X f))).trans d.2⟩
def d'.bw{Kx:W}(d:d' w a i)(e:B b w Kx)(f:a<b):d' Kx a i:=⟨(e.cell (p:=⟨a,0,Z⟩) f).trans d.1,(e.frozen (p:=⟨a,0,Z⟩) f).trans d.2⟩
def TV(a:N)(b:I)(c:W)(d:d' c a b):ap ab 93 #[aM (A a)] c λf e=>f=aq (aa b1 (dc b))/\d' e a (cy b)/\c.grownBy e (A a):=by obtain⟨d,g⟩:=d;go_in;go_wp2;go_ret;exact⟨J,⟨World.cell?_setCell_same _ _ _ d,by rw[bs];exact g⟩,bn _ _ _⟩
def AF(b:I)(a:W):ap ab 59 #[b] a λd c=>d=aq (aM (A (a:N)))/\d' c a (IntKind.u64.wrap b)/\B a a c:=by go_in;go_wp2;go_ret;exact⟨J,⟨by simp[World.cell?_alloc_new],aE⟩,(aS _ _).alloc (aL _) _⟩
def TW(b a:I)(e:1<=a)(f:a<=9223372036854775807):aB ((dc b).tmod a)=dc b%a:=by have c:=r7 b;have g:=Int.emod_nonneg (dc b) (b:=a) O;have h:=Int.emod_lt_of_pos (dc b) (b:=a) O;rw[Int.tmod_eq_emod_of_nonneg c.1];generalize dc b%a=i at*;rw[aB];omega
def p9(b:N)(c a:I)(d:W)(g:d' d b c)(h:1<=a)(f:H (a<=9223372036854775807)):ap ab 61 #[aM (A b),a] d λi e=>i=aq (dc c%a:I)/\d' e b (cy c)/\d.grownBy e (A b):=by
 have l:IntKind.u64.wrap a=a:=by have:=f.out;rw[IntKind.wrap_u64];omega
 have m:¬a=0:=O
 go_in;go_wp2_with fail;refine mU (TV b c _ g) λe ⟨j,k⟩=>?_;go_wp2;go_ret;exact⟨by rw[TW c a h f.out];rfl,j,k⟩
section
def ms(acn:N)(acp:I)(a:a0)(b:ai)(acw:ad):I:=nt acn acp a (fm b (L a+1) acw) acw
def uS(acn:N)(acp:I)(b:a0)(c:ai)(a:E I×I):E I×I:=(if ms acn acp b c a.1<ms acn acp b c (cC c (L b+1) (ij a.1 (dc a.2%((L b+1:N):I)) (dc (cy a.2)%(ae a.1 (dc a.2%((L b+1:N):I)).toNat+1))))then cC c (L b+1) (ij a.1 (dc a.2%((L b+1:N):I)) (dc (cy a.2)%(ae a.1 (dc a.2%((L b+1:N):I)).toNat+1)))else a.1,cy (cy a.2))
def iV(acn:N)(acp:I)(a:a0)(b:ai)(c:I):N->E I×I
 |0=>(cC b (L a+1) (p8 (L a+1)),IntKind.u64.wrap c)
 |d+1=>uS acn acp a b (iV acn acp a b c d)
def p'(acn:N)(acp:I)(a:a0)(b:ai)(c:I)(d:N):I:=nu acn acp a b (fm b (L a+1) (iV acn acp a b c d).1) (iV acn acp a b c d).1
def TX(acn:N)(acp:I)(b:a0)(c:ai)(d:I)(a:N):∃e,(iV acn acp b c d a).1=cC c (L b+1) e:=by
 induction a with
  |zero=>exact⟨_,J⟩
  |succ a f=>rw[iV,uS];simp only[];split;exact⟨_,J⟩;exact f
def AG(b a:I)(e:1<=a):∃c:N,b%a=(c:I)/\(c:I)<a:=by have f:=Int.emod_nonneg b (b:=a) O;have g:=Int.emod_lt_of_pos b (b:=a) O;exact⟨(b%a).toNat,O,O⟩
def uT(a:W)(act acu:V):∃b,a.alloc (az #[act,acu] 103)=b/\B a a b/\b.heap.size=(a:N)+1/\cJ b a act acu:=⟨_,J,(aS _ _).alloc (aL _) _,D,cJ.new _ _ _ _⟩
structure jA(d:W)(f i b c e:N)(j k l m:I)(n o g h:V)(p q:ad)(r:I)(wr:W):Prop where
 inst:ci wr f j k l m n o
 str:d' wr b r
 kT:cJ wr c g h
 hO:aX wr g p
 hI:aX wr h q
 res:cJ wr i (S Z 0 0) (S Z 0 0)
 nO:∀a,af g=A a->a≠b/\a≠c/\e<=a
 nI:∀a,af h=A a->a≠b/\a≠c/\e<=a
 rb:i<e/\e<=b/\b<c
 d1:f≠b
 d2:f≠c
 d3:b≠c
 bF:B d d wr
 ls:d<=b
 lp:d<=c
section
variable{ach:W}{aci acj ack acl acm:N}{acn aco acp acq:I}{acr acs act acu:V}{acv acw:ad}{acx:I}{wr acy:W}
def jA.stream(a:jA ach aci acj ack acl acm acn aco acp acq acr acs act acu acv acw acx wr)(b:wr.grownBy acy (A ack)){d:I}(f:d' acy ack d):jA ach aci acj ack acl acm acn aco acp acq acr acs act acu acv acw d acy:=⟨a.inst.kept b (X a.d1),f,a.kT.kept b (X (Ne.symm a.d3)),a.hO.kept b (λ_ c=>(a.nO _ c).1 J),a.hI.kept b (λ_ c=>(a.nI _ c).1 J),a.res.kept b (by have:=a.rb;simp;omega),a.nO,a.nI,a.rb,a.d1,a.d2,a.d3,a.bF.grown b (a.bF.size) (λg e=>by simp at e;subst e;exact a.ls),a.ls,a.lp⟩
def jA.bw(a:jA ach aci acj ack acl acm acn aco acp acq acr acs act acu acv acw acx wr)(b:B wr wr acy):jA ach aci acj ack acl acm acn aco acp acq acr acs act acu acv acw acx acy:=⟨a.inst.bw b,a.str.bw b a.str.lt,a.kT.bw b,a.hO.bw b,a.hI.bw b,a.res.bw b,a.nO,a.nI,a.rb,a.d1,a.d2,a.d3,a.bF.trans (b.mono a.bF.size),a.ls,a.lp⟩
def jA.store(a:jA ach aci acj ack acl acm acn aco acp acq acr acs act acu acv acw acx wr){d e:V}{h i:ad}(k:aX wr d h)(l:aX wr e i)(j:∀b,af d=A b->b≠ack/\b≠acl/\acm<=b)(nI:∀b,af e=A b->b≠ack/\b≠acl/\acm<=b):jA ach aci acj ack acl acm acn aco acp acq acr acs d e h i acx ((aj wr acl d).setCell ⟨acl,1,Z⟩ e):=by have f:=mY wr acl d e;exact⟨a.inst.kept f (X a.d2),a.str.kept f a.d3,a.kT.set _ _,k.kept f (λ_ g=>(j _ g).2.1 J),l.kept f (λ_ g=>(nI _ g).2.1 J),a.res.kept f (by have:=a.rb;simp;omega),j,nI,a.rb,a.d1,a.d2,a.d3,a.bF.trans (lG wr acl d e a.lp),a.ls,a.lp⟩
end
def TY(a:W)(acv acw:ad)(b:I)(c:bp)(acy:W):Prop:=∃act acu,c=aq (aZ #[ao #[act,acu],b])/\aX acy act acv/\aX acy acu acw/\B a a acy
def TZ(acn:N)(aco acp acq t ax:I)(acr acs:V)(a:a0)(b:ai)(c:W)(bm:bG c acr a)(bn:bt c acs b)(X:ko b)(bo:oE acn a):ap ab 39 #[ao #[acn,aco,acp,acq,acr,acs],t,ax] c (TY c (fm b (L a+1) (iV acn acp a b t (dm ax 0 1000).toNat).1) (iV acn acp a b t (dm ax 0 1000).toNat).1 (p' acn acp a b t (dm ax 0 1000).toNat)):=by
 obtain⟨ag,bB⟩:∃ag:N,dm ax 0 1000=(ag:I):=⟨(dm ax 0 1000).toNat,by unfold dm;omega⟩
 have ee:ag<=1000:=by unfold dm at bB;omega
 have cm:(dm ax 0 1000).toNat=ag:=O
 rw[cm];have bC:=Q bm;have cn:=Q bn;have ef:=bo.len;obtain⟨df,co,cp,cq,cr⟩:=bR c acn aco acp acq acr acs;obtain⟨aI,cs,bD,dg,bE⟩:=uT df (S Z 0 0) (S Z 0 0);have a1:=q cp bD;have dh:=Q a1;have bH:=cr.bw bD;have di:(c:N)<=aI:=a1.size;have eg:=bH.lt;rw[cq]at bE;have bI:=Q bE;have ct:=Q (TP acn aco acp acq acr acs a b (L a+1) aI (bm.bw a1) (bn.bw a1) J O X);obtain⟨aK,j,aL,rfl,bJ,_,_⟩:=bm.open;obtain⟨aN,aO,aP,rfl,_⟩:=bn.open;have cu:=Q bH;have eh:j<=2000:=O
 obtain⟨m,n,k,o,p,r⟩:=bH;change H _ at bB X bo co cs bJ;clear cq dg bE cr bm bn cp bD a1 cm;go_in;go_upto_region 1 with fail;rw[co.oo];rw[cs.oo];go_wp2_with fail;refine ct.oo.mono ?_;rintro w a2 ⟨ei,ej,rfl,ay,bq⟩;obtain⟨a4,a5,a6,rfl⟩:=gM ay.1;obtain⟨a8,a9,ba,rfl⟩:=gM ay.2.1;have cv:=Q (cu.oo.bw bq);go_wp2_with fail;refine mU (AF t a2) λbr ⟨bK,cw⟩=>?_;obtain⟨cx,cz,bL,dj,cA⟩:=uT br (S a4 a5 a6) (S a8 a9 ba);have bb:=q cw bL;have bM:=q bq bb;have dk:(a2:N)<br:=bK.lt;have ek:(c:N)+1<(aI:N):=bI.oo.lt;have el:(aI:N)<=a2:=bq.size;obtain⟨aQ,bs⟩:=K (cC b (L a+1) (p8 (L a+1)));rw[<-bs]at ay;have v:jA c c ((c:N)+1) a2 br aI acn aco acp acq (S aK j aL) (S aN aO aP) (S a4 a5 a6) (S a8 a9 ba) (fm b (L a+1) aQ) aQ (IntKind.u64.wrap t) cx:=⟨cv.oo.bw bb,bK.bw bL dk,cA,ay.1.ints.bw bb,ay.2.1.ints.bw bb,(bI.oo.bw bM),λf aC=>Y (ay.1.lt f aC),λf aC=>Y (ay.2.1.lt f aC),O,O,O,O,dh.oo.trans (bM.mono di),O,O⟩
 have aR:=Q v;have cB:=Q (λ(d:W) (act acu:V) (acw:ad) (bN:∃e,acw=cC b (L a+1) e) (i:B c c d) (ah:aX d act (fm b (L a+1) acw)) (u:aX d acu acw)=>show ap ab 60 #[ao #[acn,aco,acp,acq,S aK j aL,S aN aO aP],ao #[act,acu]] d (e3 d (ms acn acp a b acw))from by obtain⟨e,rfl⟩:=bN;exact Av acn aco acp acq _ _ act acu a _ _ d (bC.oo.bw i) ah u bo.oo ⟨oG _ _ _,ll _ _ _,λf=>bi (AA X.oo (L a+1) e f) (p6 X.oo (L a+1) e f)⟩);have dl:=Q (λ(d:W) (act acu:V) (acw:ad) (bN:∃e,acw=cC b (L a+1) e) (i:B c c d) (ah:aX d act (fm b (L a+1) acw)) (u:aX d acu acw)=>show ap ab 63 #[ao #[acn,aco,acp,acq,S aK j aL,S aN aO aP],ao #[act,acu]] d (e3 d (nu acn acp a b (fm b (L a+1) acw) acw))from by obtain⟨e,rfl⟩:=bN;exact TA acn aco acp acq _ _ act acu a b _ _ d (bC.oo.bw i) (cn.oo.bw i) ah u bo.oo ⟨oG _ _ _,ll _ _ _,λf=>bi (AA X.oo (L a+1) e f) (p6 X.oo (L a+1) e f)⟩);have dn:=Q (λ(d:W) (act acu:V) (e:ad) (dp bO:I) (i:B c c d) (u:aX d acu (cC b (L a+1) e)) (dq:0<=bO) (dr:bO<=2147483648)=>TR acn aco acp acq (S aK j aL) (S aN aO aP) act acu a b (cC b (L a+1) e) (L a+1) dp bO d (bC.oo.bw i) (cn.oo.bw i) u J O X.oo (ll _ _ _) (λl=>Y (p6 X.oo (L a+1) e l)) dq dr);have cD:∃e,aQ=cC b (L a+1) e:=⟨_,bs⟩
 have cE:(aQ,IntKind.u64.wrap t)=iV acn acp a b t 0:=by rw[bs];rfl
 have cF:=cB.oo cx (S a4 a5 a6) (S a8 a9 ba) aQ cD v.bF v.hO v.hI;have ds:=Q cF;change H _ at cz cD cE;clear m n k o p r ay bK cw bq bb bM bL dj cA v bs cF cu cv bI ct;go_upto_region 2 with fail;rw[cz.oo];generalize a2=ack at*;generalize br=acl at*;generalize (aI:N)=acm at*;obtain⟨⟨m,n,k,o,p,r⟩,_,g,_,_,_,_,_,_,_,_,_,_,_,_⟩:=aR.oo;obtain⟨x,y,al,ar⟩:=g.cells;go_wp2_with fail;refine mU ds.oo λdt cG=>?_;have du:=Q (aR.oo.bw cG);clear m n k o p r x y al ar g cG aR;go_wp2_with fail;refine mR (pB ax 0 1000 dt) ?_;rw[bB.oo];go_wp2;go_loopw [10,11,12,13,14,24] (λdv dw dx dy dz bP wr=>∃(l:N) (acw:ad) (acx:I) (a4 a8:bz) (a5 a6 a9 ba:N) (cH cI cJ cK:V),l<=ag/\cH=dw/\cI=dx/\cJ=dy/\cK=dz/\bP=(l:I)/\dv=(ms acn acp a b acw)/\(acw,acx)=iV acn acp a b t l/\jA c c ((c:N)+1) ack acl acm acn aco acp acq (S aK j aL) (S aN aO aP) (S a4 a5 a6) (S a8 a9 ba) (fm b (L a+1) acw) acw acx wr) (λ_ _ _ _ _ bP _=>ag-(aw bP).toNat);exact⟨0,aQ,_,_,_,_,_,_,_,_,_,_,_,a3 _,J,J,J,J,J,J,cE.oo,du.oo⟩;obtain⟨l,acw,acx,z,av,D,G,M,P,cH,cI,cJ,cK,em,rfl,rfl,rfl,rfl,rfl,rfl,aT,v⟩:=hrel;obtain⟨aA,rfl⟩:=K wr;have aR:=Q v;have en:=Q aT;obtain⟨e,aD⟩:∃e,acw=cC b (L a+1) e:=by obtain⟨e,i⟩:=TX acn acp a b t l;rw[<-aT]at i;exact⟨e,i⟩
 have eo:=Q aD;by_cases ep:l<ag
 ·have eq:(l:I)<ag:=by omega
  have dA:L acw=j+1:=by rw[aD,ll,bJ.oo]
  obtain⟨R,bS,er⟩:=AG (dc acx) ((j:I)+1) O;have cL:=p6 X.oo (L a+1) e R;rw[<-aD]at cL;obtain⟨bc,bu⟩:∃bc,ae acw R=bc:=⟨_,J⟩
  rw[bu]at cL;obtain⟨bT,bv,bU⟩:=AG (dc (cy acx)) (bc+1) O;obtain⟨aU,cM⟩:∃aU:I,aU=(bT:I):=⟨_,J⟩
  rw[<-cM]at bv bU;have bU:0<=aU/\aU<=2147483648:=O
  clear cM;obtain⟨be,bx⟩:=K (cC b (L a+1) (ij acw R aU));have bV:iV acn acp a b t (l+1)=(if ms acn acp a b acw<ms acn acp a b be then be else acw,cy (cy acx)):=by rw[iV,<-aT];unfold uS;simp only[];rw[show(((L a+1:N):I))=(j:I)+1 by have:=bJ.oo;omega,bS,cW,bu,bv,<-bx]
  have cN:=Q (p9 ack acx ((j:I)+1) aA v.str O (Q O));rw[bS]at cN;have cO:=Q (λ(d:W) (i:d' d ack (cy acx))=>p9 ack (cy acx) (bc+1) d i O (Q O));rw[bv]at cO;have bW:=λ(d:W) (act acu:V) (i:B c c d) (u:aX d acu (cC b (L a+1) e))=>dn.oo d act acu e R aU i u bU.1 O;rw[<-aD,<-bx]at bW;obtain⟨es,et,eu,bg,dB,_,cP⟩:=v.hI.open;simp only[bf]at bg;obtain⟨rfl,rfl,rfl⟩:=bg;obtain⟨cQ,cR,rfl,_⟩:=cP R O;have dC:M=j+1:=O
  subst dC;have dE:H (∀d,aX d (S (A ⟨cQ,cR,Z⟩) (j+1) P) acw->C d ⟨cQ,cR+R,Z⟩=A (aa ac bc)):=Q (λd i=>by obtain⟨ev,ew,k,bg,_,_,dF⟩:=i.open;simp only[bf]at bg;obtain⟨rfl,rfl,rfl⟩:=bg;obtain⟨ex,ey,dG,dH⟩:=dF R O;cases dG;rw[<-bu];exact dH);have ez:=aJ R;have eA:(R:I)<((j+1:N):I):=O
  have eB:(R:I)<j+1:=O
  obtain⟨⟨m,n,k,o,p,r⟩,_,g,_,_,_,_,_,_,_,_,_,_,_,_⟩:=aR.oo;change H _ at bV bx bW;clear aT v aD bS bu bv dB cP dA g;go_wp2_with fail;refine mU cN.oo λcS ⟨bX,cT⟩=>?_;have bY:=Q (aR.oo.stream cT bX);have dI:=Q (cO.oo cS bX);have dJ:=dE.oo cS bY.oo.hI;clear m n k o p r bX cT;obtain⟨⟨m,n,k,o,p,r⟩,_,g,_,_,_,_,_,_,_,_,_,_,_,_⟩:=bY.oo;obtain⟨x,y,al,ar⟩:=g.cells;go_wp2_with fail;refine mU dI.oo λdK ⟨cU,cV⟩=>?_;have U:=Q (bY.oo.stream cV cU);clear m n k o p r x y al ar g cU cV dJ;obtain⟨⟨m,n,k,o,p,r⟩,_,g,_,_,_,_,_,_,_,_,_,_,_,_⟩:=U.oo;obtain⟨x,y,al,ar⟩:=g.cells;go_wp2_with fail;refine(bW.oo dK _ _ U.oo.bF U.oo.hI).mono ?_;rintro w aV ⟨eC,eD,rfl,aE,bh⟩;obtain⟨cX,cY,cZ,rfl⟩:=gM aE.1;obtain⟨c0,c1,c2,rfl⟩:=gM aE.2.1;obtain⟨dL,c3,bA,dM,c4⟩:=uT aV (S cX cY cZ) (S c0 c1 c2);have bZ:=Q (U.oo.bw (q bh bA));have b2:=aE.1.ints.bw bA;have b3:=aE.2.1.ints.bw bA;have c5:∀f,(S cX cY cZ).ownBlock=A f->f≠ack/\f≠acl/\acm<=f:=λf aC=>by have dN:=(aE.1.lt f aC).1;have dO:=U.oo.str.lt;have dP:=U.oo.kT.lt;have dQ:=U.oo.rb;omega
  have c6:∀f,(S c0 c1 c2).ownBlock=A f->f≠ack/\f≠acl/\acm<=f:=λf aC=>by have dN:=(aE.2.1.lt f aC).1;have dO:=U.oo.str.lt;have dP:=U.oo.kT.lt;have dQ:=U.oo.rb;omega
  have c7:=Q c4;have dR:=Q b2;have dS:=Q b3;have dT:=Q (cB.oo dL _ _ be ⟨_,bx.oo⟩ bZ.oo.bF b2 b3);change H _ at c5 c6 c3;clear m n k o p r x y al ar g aE bh bA dM c4 b2 b3;go_upto_region 8 with fail;rw[c3.oo];generalize aV=eE at*;obtain⟨⟨m,n,k,o,p,r⟩,_,g,_,_,_,_,_,_,_,_,_,_,_,_⟩:=bZ.oo;obtain⟨x,y,al,ar⟩:=g.cells;obtain⟨c8,c',da,db⟩:=c7.oo.cells;go_wp2_with fail;refine mU dT.oo λeF bk=>?_;have b4:=Q (bZ.oo.bw bk);have dU:=Q (c7.oo.bw bk);have dV:=Q (dR.oo.bw bk);have dW:=Q (dS.oo.bw bk);clear m n k o p r x y al ar c8 c' da db g bk;obtain⟨⟨m,n,k,o,p,r⟩,_,g,_,_,_,_,_,_,_,_,_,_,_,_⟩:=b4.oo;obtain⟨x,y,al,ar⟩:=g.cells;obtain⟨c8,c',da,db⟩:=dU.oo.cells;generalize b5:ms acn acp a b be=b6 at*;generalize b7:ms acn acp a b acw=b8 at*;have dX:=Q b5;have dY:=Q b7;by_cases aW:b8<b6
  ·have dZ:decide (b8<b6)=T:=dD aW;have aF:=bV.oo;rw[am aW]at aF;have b9:=Q aF;have d0:=Q (b4.oo.store dV.oo dW.oo c5.oo c6.oo);clear aW aF b5 b7;go_wp2;go_roundw;case rel=>exact⟨l+1,be,_,_,_,_,_,_,_,_,_,_,_,O,J,J,J,J,by go_num,by rw[dX.oo],b9.oo.symm,d0.oo⟩
   simp[aw];omega
  have dZ:decide (b8<b6)=F:=c9 aW;have aF:=bV.oo;rw[ak aW]at aF;have b9:=Q aF;clear aW aF b5 b7;go_wp2;go_roundw;case rel=>exact⟨l+1,acw,_,_,_,_,_,_,_,_,_,_,_,O,J,J,J,J,by go_num,by rw[dY.oo],b9.oo.symm,b4.oo⟩
  simp[aw];omega
 have d1:l=ag:=O
 subst d1;have b':(iV acn acp a b t l).1=acw:=by rw[<-aT]
 have ca:=λ(d:W)=>dl.oo d (S z D G) (S av M P) acw ⟨e,aD⟩;have d2:H (p' acn acp a b t l=nu acn acp a b (fm b (L a+1) acw) acw):=Q (by unfold p';rw[b']);generalize nu acn acp a b (fm b (L a+1) acw) acw=d3 at*;obtain⟨⟨m,n,k,o,p,r⟩,_,g,ah,u,bl,cc,cd,aG,_,_,_,aY,_,eG⟩:=v;obtain⟨x,y,al,ar⟩:=g.cells;obtain⟨eH,eI,eJ,eK⟩:=bl.cells;replace ca:=Q ca;change H _ at b';clear aT aD;have eL:(c:N)+1≠acl:=Y aG
 have eM:acl≠(c:N)+1:=Y aG
 have eN:(c:N)≠(c:N)+1:=O
 have ce:=mY aA ((c:N)+1) (S z D G) (S av M P);have cf:Below (c:Nat) c ((aA.setCell ⟨(c:Nat)+1,0,none⟩ (.slice z D G)).setCell ⟨(c:Nat)+1,1,none⟩ (.slice av M P)):=aY.trans (lG aA _ _ _ O);have cg:=ah.kept ce (λ_ w=>bi (cc _ w) aG);have ch:=u.kept ce (λ_ w=>bi (cd _ w) aG);have d4:=bl.set (S z D G) (S av M P);have d5:=aS aA aA;have dd:(c:N)<=aA:=aY.size;change H _ at aG cc cd;clear g;go_upto_region 12 with fail;first
  |(go_region_held3 (λacy=>C acy c=A (aa ac acn)/\C acy ⟨c,1,Z⟩=A (aa ac aco)/\C acy ⟨c,2,Z⟩=A (aa ac acp)/\C acy ⟨c,3,Z⟩=A (aa ac acq)/\C acy ⟨c,4,Z⟩=A (S aK j aL)/\C acy ⟨c,5,Z⟩=A (S aN aO aP)/\C acy acl=A (S z D G)/\C acy ⟨acl,1,Z⟩=A (S av M P)) (first|go_keep|exact⟨s h m,s h n,s h k,s h o,s h p,s h r,s h x,s h y⟩)
   (first
    |(go_at_call 63;refine(ca.oo _ ?_ ?_ ?_).mono ?_;(first|exact aY|exact aY.drew|exact cf|exact cf.drew);(first|exact ah|exact ah.bw (an _)|exact cg|exact cg.bw (an _));(first|exact u|exact u.bw (an _)|exact ch|exact ch.bw (an _));rintro w aV ⟨rfl,bh⟩;(first|(have h:=q d5 bh;obtain⟨de,bT,d6,d7⟩:=(bl.bw h).cells;have ci:=ah.bw h;have cj:=u.bw h;have ck:=aY.trans (h.mono dd))|(have h:=q (an aA) bh;obtain⟨de,bT,d6,d7⟩:=(bl.bw h).cells;have ci:=ah.bw h;have cj:=u.bw h;have ck:=aY.trans (h.mono dd))|skip))))
  |fail
 all_goals have cl:=mY aV ((c:N)+1) (S z D G) (S av M P);have d8:=Q (ci.kept cl (λ_ w=>bi (cc.oo _ w) aG.oo));have d9:=Q (cj.kept cl (λ_ w=>bi (cd.oo _ w) aG.oo));have ea:=Q (ck.trans (lG aV ((c:N)+1) (S z D G) (S av M P) O));have eO:=World.cell?_setCell_same aV ⟨(c:N)+1,0,Z⟩ (S z D G) de;clear ci cj ck cl cg ch cf ce d4;go_wp2_with fail;have eb:=((bl.bw h).set (S z D G) (S av M P)).cells;obtain⟨ec,ed,_,_⟩:=eb;refine b0 (v:=aZ #[ao #[S z D G,S av M P],d3]) (by simp[results,results39,go_sem,ec,ed]) J ?_;rw[b'.oo,d2.oo];exact⟨_,_,J,d8.out,d9.out,ea.out⟩
end
def DB(a:ai):Prop:=∀b c,0<=ae (bo a b) c/\ae (bo a b) c<=2147483648
def uU{a:ai}(d:DB a)(b c:I):0<=bC a b c/\bC a b c<=2147483648:=by unfold bC;split;exact d _ _;omega
def T0{b:ai}(i:DB b):∀(c:ad)(a:a4),0<=a.1->a.1+2147483648*(L c:I)<=1000000000000000000->0<=(c.foldl (o7 b) a).1/\(c.foldl (o7 b) a).1<=a.1+2147483648*(L c:I):=by
 intro c;induction c with
  |nil=>intro a g _;simp;exact g
  |cons h c j=>
   intro a g f;rw[List.foldl_cons];rw[dx]at f⊢;have ha:∃d,(o7 b a h).1=aB (a.1+bC b a.2 d):=⟨_,J⟩
   obtain⟨d,e⟩:=ha;have l:=uU i a.2 d;have m:(0:I)<=(L c:I):=O
   have k:aB (a.1+bC b a.2 d)=a.1+bC b a.2 d:=cV O (by push_cast at f;omega);rw[k]at e;push_cast at f⊢;have:=j (o7 b a h) (by rw[e];omega) (by rw[e];omega);rw[e]at this;omega
def AH{b:ai}(c:DB b)(a:ag)(e:L a<=1000000):0<=b2 b a/\b2 b a<=2147483648*((L a:I)+1):=by unfold b2 ge;split;omega;have d:=T0 c (a.map (·.1)) (0,0) D (by rw[de];simp only;omega);rw[de]at d;simp only at d;have f:=uU c (kI b (a.map (·.1))).2 0;unfold kH kI at*;rw[cV O O];omega
def T1:∀(a:ad)(b:I)(d:I),0<=b->(∀c∈a,0<=c)->b+a.sum<=d->d<=1000000000000000000->a.foldl kH b=b+a.sum:=by
 intro a;induction a with
  |nil=>intro b d _ _ _ _;simp
  |cons c a f=>
   intro b d n g o j;have p:=g c (fV ..);have q:0<=a.sum:=by
    have:∀(a:ad),(∀c∈a,0<=c)->0<=a.sum:=by
     intro a;induction a with
      |nil=>intro _;simp
      |cons e a f=>intro i;rw[d5];have:=i e (fV ..);have:=f (λk l=>i k (fs _ l));omega
    exact this a (λe h=>g e (fs _ h))
   rw[List.foldl_cons,d5]at*;have m:kH b c=b+c:=cV O O;rw[m,f (b+c) d O (λe h=>g e (fs _ h)) O j];omega
def T2{c:ai}(h:DB c):p2 c:=by
 intro a i t;have j:∀(a:ar),(∀b∈a,L b<=1000000)->(∀e∈a.map (b2 c),0<=e)/\0<=(a.map (b2 c)).sum/\(a.map (b2 c)).sum<=2147483648*((a6 a:I)+(L a:I)):=by
  intro a;induction a with
   |nil=>intro _;simp[a6]
   |cons b a k=>
    intro g;have l:=k (λm n=>g m (fs _ n));have o:=AH h b (g b (fV ..));have p:a6 (b::a)=L b+a6 a:=by simp[a6]
    refine⟨?_,?_,?_⟩;intro e d;rw[dE,cK]at d;rcases d with rfl|d;exact o.1;exact l.1 e d;rw[dE,d5];omega;rw[dE,d5,p,dx];push_cast;omega
 have q:=j a (λb r=>by obtain⟨f,s,rfl⟩:=gP r;have:=(cx.of i) f;rwa [show ah a f=a[f] by simp[ah,s]]at this);unfold cl is;rw[T1 (a.map (b2 c)) 0 1000000000000000000 O q.1 O O];omega
def T3(n:b<=64)(hp:a<18446744073709551616)(f:fY a b<0):a<2^b:=by
 refine Nat.lt_pow_two_of_testBit a λe o=>?_;by_cases k:e<64;rw[<-Bool.not_eq_true];intro l;have i:((e:N):I)∈a8 a (b:I).toNat 64:=by unfold a8;rw[List.mem_map];exact⟨e,by rw[List.mem_filter];simp[k,l];omega,J⟩
 unfold fY at f;cases g:a8 a (b:I).toNat 64 with
  |nil=>rw[g]at i;cases i
  |cons m p=>
   rw[g]at f;have h:m∈a8 a (b:I).toNat 64:=by rw[g];exact fV ..
   unfold a8 at h;rw[List.mem_map]at h;obtain⟨j,_,rfl⟩:=h;simp at f;have:(Int.ofNat j)=(j:I):=J;omega
 exact Nat.testBit_lt_two_pow (cg hp (Nat.pow_le_pow_right av O:2^64<=2^e))
def uV:cd i j k=T↔j<=i/\i<=k:=by simp[cd]
structure oH(c d e f:I)(a:a0)(g:ai):Prop where
 n1:1<=c/\c<=64
 ln:L a<=2000
 b1:0<=d/\d<=2147483648
 b2:0<=e/\e<=2147483648
 b3:0<=f/\f<=2147483648
 cu:∀b,b<L a->dR c.toNat (aQ a b)
 dm:∀b,b<L a->(aQ a b).kd=1->1<=(aQ a b).dm/\(aQ a b).dm<=2147483648
 pl:∀b,b<L a->(aQ a b).ps.length<=64/\((aQ a b).kd=1->1<=(aQ a b).ps.length)
 dl:L g=L a+1
 db:DB g
def T4{b:a0}{f:ai}(H:iH b)(t:iG i j k l b f=0):oH i j k l b f:=by
 have p:k2 i j k l b f=T:=by cases e:k2 i j k l b f;rw[iG,e]at t;cases t;rfl
 unfold k2 at p;simp only[cr,uV,ez,rF,pJ]at p;obtain⟨⟨⟨⟨⟨⟨K,M⟩,P⟩,Q⟩,R⟩,U⟩,X,Y⟩:=p;have ad:∀a,a<L b->gW i (aQ b a)=T:=λa c=>d4.1 U _ (wT c);have q:∀a,a<L b->((aQ b a).kd=1/\(1<=(aQ b a).dm/\(aQ b a).dm<=2147483648)/\(∀h∈(aQ b a).ps,fY h i<0)/\1<=(aQ b a).ps.length/\(aQ b a).ps.length<=64)\/((aQ b a).kd=2/\eH (aQ b a).st (aQ b a).rt (aQ b a).sz (aQ b a).ru (aQ b a).hd/\(aQ b a).ps.length=0):=λa c=>by have:=ad a c;unfold gW at this;split at this;rename_i u;simp only[nh,cr,uV,d4,ez]at this;exact .inl ⟨u,this.1.1,this.1.2.1,O,O⟩;split at this;rename_i ae;simp only[oq,os,cr,Bool.or_eq_true,uV,beq_iff_eq]at this;obtain⟨⟨⟨⟨⟨v,w⟩,x⟩,ag⟩,y⟩,ah,_⟩:=this;exact .inr ⟨ae,⟨v.1,v.2,w.1,w.2,x.1,x.2,ag,y.1,y.2⟩,ah⟩;cases this
 refine⟨K,M,P,Q,R,λa c=>?_,λa c u=>?_,λa c=>?_,X,λr z=>?_⟩;rcases q a c with⟨e,_,g,s,G⟩|⟨e,g,_⟩;refine .inl ⟨e,O,λh hp=>T3 O ((H a c).1 h hp) ?_⟩;have:=g h hp;rwa [show((i.toNat:N):I)=i by omega];exact .inr ⟨e,g⟩;rcases q a c with⟨_,g,_⟩|⟨e,_⟩;exact g;omega;rcases q a c with⟨_,_,_,s,G⟩|⟨e,_,s⟩;exact⟨G,λ_=>s⟩;exact⟨O,λam=>O⟩;by_cases ha:r<L f;have⟨an,_,ak⟩:=Y r O;by_cases al:z<(bo f r).length;exact ak z al;rw[m1 O];omega;rw[wV O,m1 D];omega
def oH.vn{b:a0}{c:ai}(d:oH i j k l b c):np b:=λe f o=>by
 rcases d.cu e f with⟨p,_⟩|⟨_,a⟩
 ·omega
 ·have:=a.jk;have:=a.jl;have:=a.gC;have:=a.fJ;have:=a.jm;omega
def dh(a:ad)(b:N):I:=if (L a)<=b\/ae a b<0 then 0 else if 1000<ae a b then 1000 else ae a b
def uW(a:ad)(b:N):0<=dh a b/\dh a b<=1000:=by unfold dh;split<;>(try split)<;>omega
def T5(m:V)(c:ad)(a:N)(i:W)(j:aX i m c)(t:a<=1000):ap ab 45 #[m,a] i (fW i (dh c a)):=by
 obtain⟨u,d,v,rfl,n,_,k⟩:=j.open;have b:dh c a=if (L c)<=a\/ae c a<0 then 0 else if 1000<ae c a then 1000 else ae c a:=J;rw[n]at b;by_cases g:d<=a
 ·rw[am (.inl g)]at b;have o:decide ((d:I)<=a)=T:=by simp;omega
  have p:decide (d<=a)=T:=X g
  have w:(d:I)<=a:=O
  have Gf:=Q b;exact qv
 obtain⟨x,y,rfl,q⟩:=k a O;have o:decide ((d:I)<=a)=F:=aF
 have p:decide (d<=a)=F:=X g
 have⟨e,l⟩:=K (ae c a);rw[<-l]at q b;have z:=aJ a;have D:(a:I)<d:=O
 have G:a<d:=O
 by_cases h:e<0
 ·rw[am (.inr h)]at b;have r:decide (e<0)=T:=by simpa using h
  have Gf:=Q b;exact qv
 rw[ak O]at b;have r:decide (e<0)=F:=X h
 by_cases f:1000<e
 ·rw[am f]at b;have s:decide (1000<e)=T:=by simpa using f
  have Gf:=Q b;clear b g j k l h f;exact qv
 rw[ak f]at b;have s:decide (1000<e)=F:=X f
 have Gf:=Q b;clear b g j k l h f;exact qv
def kq(a:ad):I:=if (L a)=0 then 0 else ae a 0
def nv(a:W)(b c d e:I)(f:bp)(g:W):Prop:=f=aq (ao #[b,c,d,e])/\B a a g
def nw(a:W)(c d e f:I):∃b,a.alloc (az #[c,d,e,f] 55)=b/\B a a b/\b.heap.size=(a:N)+1/\ax b a [c,d,e,f]/\∀g,aH b ⟨a,g,Z⟩=F:=⟨_,J,aN _ _,D,ax.new a _ _,λg=>aE⟩
def T6(x:V)(b:ad)(a:W)(y:aX a x b):ap ab 30 #[x] a (nv a (kq b) (dh b 1) (dh b 2) (dh b 3)):=by
 have⟨bv,aR,aS,aT,aU,aV⟩:=nw a 0 0 0 0;have ai:=Q (λe bx f bz=>T5 x b bx e (y.bw f) bz);have bA:=Q (λe f=>(y.bw f:aX e x b));obtain⟨bN,al,bO,rfl,an,_,_⟩:=y.open;have z:=Q (U aU (U aV aT));have ar:=Q aS;change H _ at aR an;clear aS;clear y aU aV aT;have⟨g,aW⟩:=K (dh b 1);have⟨h,a0⟩:=K (dh b 2);have⟨i,a1⟩:=K (dh b 3);have a2:=Q (λ(e:W) f=>ai e 1 f O);have a3:=Q (λ(e:W) f=>ai e 2 f O);have a4:=Q (λ(e:W) f=>ai e 3 f O);rw[<-aW]at a2⊢;rw[<-a0]at a3⊢;rw[<-a1]at a4⊢;clear aW a0 a1;go_in;go_upto_region 1 with fail;rw[aR];go_wp2_with fail;refine mU (a2 bv ar) λbB av=>?_;have a5:=ar.trans (av.mono ar.size);have G:=Q (U av a5);clear av a5;go_wp2_with fail;refine mU (a3 bB G.2) λbC ay=>?_;have a6:=G.2.trans (ay.mono G.2.size);have P:=Q (U (q G.oo.1 ay) a6);clear ay a6;go_wp2_with fail;refine mU (a4 bC P.2) λn aA=>?_;have aC:=q P.1 aA;have R:=P.2.trans (aA.mono P.2.size);have⟨k,aD,aE,aF,a8,a9⟩:=nw n 0 g h i;have ba:=q aC aE;have bb:=R.trans (aE.mono R.size);have c:=Q (U ba (U bb (U a8 (U a9 aF))));have bD:=R.size;have bE:=Q aC.size;change H _ at aD;clear aA aC R aE aF a8 a9 ba bb;have o:=c.2.2.1;have l:ax k a [(0:I),(0:I),(0:I),(0:I)]:=z.1.bw c.1;have p:∀aG,aH k ⟨a,aG,Z⟩=F:=λaG=>aY c.1 (Y z.2.2) (z.2.1 aG);have aI:∀(r:W) (s:I),ax r a [(0:I),(0:I),(0:I),(0:I)]->B a a r->ax ((((aj r a (s:I)).setCell ⟨a,1,Z⟩ g).setCell ⟨a,2,Z⟩ h).setCell ⟨a,3,Z⟩ i) a [(s:I),g,h,i]/\B a a ((((aj r a (s:I)).setCell ⟨a,1,Z⟩ g).setCell ⟨a,2,Z⟩ h).setCell ⟨a,3,Z⟩ i):=λr s bF bG=>by have bH:=(((bF.set 0 (s:I) D).set 1 g D).set 2 h D).set 3 i D;exact⟨X bH,((((bG.setCell (p:=⟨a,0,none⟩) (Nat.le_refl _) _).setCell (p:=⟨a,1,none⟩) (Nat.le_refl _) _).setCell (p:=⟨a,2,none⟩) (Nat.le_refl _) _).setCell (p:=⟨a,3,none⟩) (Nat.le_refl _) _)⟩
 have bP:=o 0 _ J;have g1:=o 1 _ J;have g2:=o 2 _ J;have g3:=o 3 _ J;have bI:=l 0 _ J;have f1:=l 1 _ J;have bJ:=l 2 _ J;have bK:=l 3 _ J;have bc:=p 0;have be:=p 1;have bh:=p 2;have bk:=p 3;have bm:=Q l;change H _ at aI;clear o l p bD;by_cases aK:al=0;·subst aK;have⟨d,t⟩:=aI k 0 bm c.2.1;have u:H (kq b=0):=Q (by unfold kq;rw[am an.oo]);change H _ at d t;go_wp2_with (rw[aD]);have aL:=d 0 _ J;have aN:=d 1 _ J;have aO:=d 2 _ J;have aP:=d 3 _ J;rw[u];exact b0 (v:=ao #[(0:I),g,h,i]) (by simp[results,results30,go_sem,aL,aN,aO,aP]) J ⟨J,t⟩
 have⟨_,_,_,bo,_,_,bq⟩:=(bA k c.2.1).open;simp only[bf]at bo;obtain⟨rfl,rfl,rfl⟩:=bo;obtain⟨bR,bS,rfl,br⟩:=bq 0 O;have u:kq b=ae b 0:=by unfold kq;rw[ak (by rw[an];exact aK)]
 have⟨v,bs⟩:=K (ae b 0);rw[<-bs]at br u;rw[eX]at br;have bT:(0:I)<al:=O
 have bU:0<al:=O
 have bV:=c.2.2.2.1 0;have aF:=c.2.2.2.2;have⟨ag,ah⟩:=K (aj k n v);have bM:(a:N)<n:=bi z.2.2 bE.out
 have j:M (λaQ=>aQ=(n:N)) k ag:=by rw[ah];exact M.grown (bn _ _ _) (λaQ bt=>X bt.symm)
 have m:=bm.bl j O;have bu:B a a ag:=c.2.1.trans (j.bg c.2.1.size λaQ bW bt=>O);have w:ax ag n [v,g,h,i]:=by rw[ah];exact c.2.2.1.set 0 v D
 have⟨d,t⟩:=aI ag v m bu;have bX:=w 0 _ J;have bY:=w 1 _ J;have bZ:=w 2 _ J;have b2:=w 3 _ J;have b3:=m 0 _ J;have b4:=m 1 _ J;have b5:=m 2 _ J;have b6:=m 3 _ J;have b7:=j.free bc (Y c.2.1.size) O;have b8:=j.free be (Y c.2.1.size) O;have b9:=j.free bh (Y c.2.1.size) O;have b':=j.free bk (Y c.2.1.size) O;change H _ at d t u ah;clear bq bs j m bu w bM bI f1 bJ bK bc be bh bk g1 g2 g3 aK;go_upto_region 2 with(rw[aD])
 go_upto_region 4 with fail;rw[<-ah];go_wp2_with fail;have aL:=d 0 _ J;have aN:=d 1 _ J;have aO:=d 2 _ J;have aP:=d 3 _ J;rw[u];exact b0 (v:=ao #[v,g,h,i]) (by simp[results,results30,go_sem,aL,aN,aO,aP]) J ⟨J,t⟩
def T7(x:Value)(a:List Int)(b:World)(y:aX b x a):Calls prog 15 #[x] b (nv b (kq a) (dh a 1%9) (dh a 2%21) (dh a 3%13)):=by
 have⟨aJ,an,z,p,ar,av⟩:=nw b 0 0 0 0;have ay:=Q (T6 x a aJ (y.bw z));obtain⟨a0,a1,a2,rfl,_,_,_⟩:=y.open;have G:=uW a 1;have P:=uW a 2;have R:=uW a 3;have⟨k,aA⟩:=K (kq a);have⟨c,ad⟩:=K (dh a 1);have⟨d,ae⟩:=K (dh a 2);have⟨e,ag⟩:=K (dh a 3);rw[<-aA,<-ad,<-ae,<-ag]at ay⊢;rw[<-ad]at G;rw[<-ae]at P;rw[<-ag]at R;have a3:Int.tmod c 9=c%9:=Int.tmod_eq_emod_of_nonneg G.1;have a4:Int.tmod d 21=d%21:=Int.tmod_eq_emod_of_nonneg P.1;have a5:Int.tmod e 13=e%13:=Int.tmod_eq_emod_of_nonneg R.1;have ah:=Q (U ar (U av p));have aK:=Q z;change H _ at an;clear z;clear y ar av p aA ad ae ag;go_in;go_upto_region 1 with fail;rw[an];go_wp2_with fail;refine mU ay λf ai=>?_;have⟨aC,aD,aE,aN,h,r⟩:=nw f k c d e;have l:=q ai aE;have aO:=h 0 _ J;have g1:=h 1 _ J;have g2:=h 2 _ J;have g3:=h 3 _ J;have aP:=r 1;have aQ:=r 2;have aR:=r 3;have aS:=ai.size;have p:=ah.2.2;have⟨m,s⟩:=K (((aC.setCell ⟨f,1,none⟩ (c%9:Int)).setCell ⟨f,2,none⟩ (d%21:Int)).setCell ⟨f,3,none⟩ (e%13:Int));have n:ax m f [k,(c%9:Int),(d%21:Int),(e%13:Int)]:=by rw[s];have:=((h.set 1 (c%9:Int) D).set 2 (d%21:Int) D).set 3 (e%13:Int) D;simpa using this
 have t:∀(u:World) (g:Nat) (ak:Value),M (λv=>v=(f:Nat)) u (u.setCell ⟨f,g,none⟩ ak):=λu g ak=>M.grown (bn u ⟨f,g,none⟩ ak) λv aF=>X aF.symm
 have w:M (λv=>v=(f:Nat)) aC m:=by rw[s];exact((t _ _ _).trans (t _ _ _) I2 I2).trans (t _ _ _) I2 I2
 have i:ax m b [(0:Int),(0:Int),(0:Int),(0:Int)]:=(ah.1.bw l).bl w O;have o:∀g,m.frozen? ⟨b,g,none⟩=false:=λg=>w.free (aY l O (ah.2.1 g)) (Y l.size) O;have al:=aK.trans (l.mono O);have aG:Below b b m:=al.trans (w.bg al.size λa6 a8 aF=>O);have j:=(((i.set 0 k D).set 1 (c%9:Int) D).set 2 (d%21:Int) D).set 3 (e%13:Int) D;simp only[List.set_cons_zero,List.set_cons_succ]at j;have aI:=(((aG.setCell (p:=⟨b,0,none⟩) (aL _) k).setCell (p:=⟨b,1,none⟩) (aL _) (c%9:Int)).setCell (p:=⟨b,2,none⟩) (aL _) (d%21:Int)).setCell (p:=⟨b,3,none⟩) (aL _) (e%13:Int);have a9:=n 0 _ J;have ba:=n 1 _ J;have bb:=n 2 _ J;have bc:=n 3 _ J;have be:=i 0 _ J;have bf:=i 1 _ J;have bh:=i 2 _ J;have bi:=i 3 _ J;have bk:=o 0;have bm:=o 1;have bo:=o 2;have bq:=o 3;change H _ at aD j aI;change H _ at s;clear ai aE aN h r n t w i o al aG aS p l G P R;go_upto_region 2 with(rw[aD])
 go_upto_region 5 with fail;rw[<-s];clear aO g1 g2 g3 aP aQ aR;go_wp2_with fail;have aT:=j 0 _ J;have aU:=j 1 _ J;have aV:=j 2 _ J;have aW:=j 3 _ J;exact b0 (v:=.agg #[k,(c%9:Int),(d%21:Int),(e%13:Int)]) (by simp[results,results15,go_sem,aT,aU,aV,aW]) J ⟨J,aI⟩
def ik(b:I)(c:I)(d:ag):ag:=(d.filter λa=>a.1==c).map λa=>(b,a.2)
def g6(b:ar)(c:I):N->ag
 |0=>[]
 |a+1=>g6 b c a++ik a c (ah b a)
def T8(b a:I)(c:ag)(d e:I):ik b a (c++[(d,e)])=if d=a then ik b a c++[(b,e)]else ik b a c:=by unfold ik;rw[h1,ck];by_cases f:d=a<;>simp[f]
def AI(b c:I)(a:ag):(ik b c a).length<=L a:=by unfold ik;rw[de];exact List.length_filter_le _ _
def uX(b:ar)(c:I)(d:N)(e:∀f,(ah b f).length<=d)(a:N):(g6 b c a).length<=a*d:=by
 induction a with
  |zero=>simp[g6]
  |succ a g=>rw[g6,bL,Nat.succ_mul];have:=AI a c (ah b a);have:=e a;omega
def AJ(a:W)(f:ag)(g:bp)(b:W):Prop:=∃c d e,g=aq (S c d e)/\aW 89 b a (S c d e) f/\B a a b
def AK{b:bj}{c:ag}(d:aW b w a u c):∃f g h,u=S f g h:=by rcases bW d with⟨rfl,_⟩|⟨_,_,rfl,_⟩<;>exact⟨_,_,_,J⟩
def T9(a:W)(c d:I):∃b,a.alloc (az #[c,d] 224)=b/\B a a b/\b.heap.size=(a:N)+1/\C b a=A (aa ac c)/\C b ⟨a,1,Z⟩=A (aa ac d):=⟨_,J,aN _ _,D,aE,aE⟩
def T'(aA aC aD aE:I)(aF:bz)(n aG:N)(aI aN:V)(g:ar)(c:I)(h:W)(bX:n<=2000)(aO:bb h aN g)(bg:L g=n)(z:∀j,(ah g j).length<=64)(bh:∃D i aP,aI=S D i aP):ap ab 197 #[ao #[aA,aC,aD,aE,S aF n aG,aI],aN,c] h (AJ h (g6 g c n)):=by
 obtain⟨bi,bl,bm,rfl⟩:=bh;have⟨bZ,aQ,G,bn,bo⟩:=bR h aA aC aD aE (S aF n aG) (S bi bl bm);obtain⟨b0,i,b2,rfl,bq,b3,aS⟩:=aO.open;obtain⟨br,bs,bt,bu,bv,bx⟩:=bo;have bA:i=n:=O
 subst bA;have aT:=uX g c 64 z;have M:H (∀a:N,g6 g c (a+1)=g6 g c a++ik a c (ah g a)):=Q λ_=>rfl;have aU:=Q (U aT z);have b4:=G.size;change H _ at aQ G bq aS;clear bn aO bg z aT;go_in;go_upto_region 1 with fail;rw[aQ];have aV:min (i:I) (i:I)=i:=O
 go_wp2_with fail;try rw[aV]
 clear aV br bs bt bu bv bx;go_loopw [7,8,10,17] (λP D u j wr=>∃(a:N) (k aX p:V),k=P/\aX=D/\p=u/\j=(a:I)/\a<=i/\aW 89 wr h k (g6 g c a)/\B h h wr) (λ_ _ _ j _=>i-(aw j).toNat);exact⟨0,_,_,_,J,J,J,J,a3 _,aW.nil _ _ _,G⟩;obtain⟨a,k,aX,p,rfl,rfl,rfl,rfl,b5,e,f⟩:=hrel;obtain⟨b6,rfl⟩:=K wr;by_cases Ch:a<i
 ·obtain⟨u,b7,b8,q,b9,rfl,aY,hp⟩:=aS a Ch;have aY:=s f aY;have bB:=aJ a;have bC:(a:I)<i:=by omega
  have v:=M a;have a0:=aU.1 a;have bD:=aU.2 a;have⟨d,a1⟩:=K (ah g a);have⟨r,a2⟩:=K (g6 g c a);rw[<-a1]at v hp bD;rw[<-a2]at v e a0;have⟨_,_,_,a4,R,_,a5⟩:=hp.open;simp only[bf]at a4;obtain⟨rfl,rfl,rfl⟩:=a4;have b':L r<=200000:=by have:a*64<=2000*64:=Nat.mul_le_mul_right _ O;omega
  have ca:=f.size;have M:=Q v;change H _ at R a5;clear v;clear a1 a2 a0 hp;have Y:=Q e;have ad:=Q f;clear e f;go_wp2;go_loopw [7,10,25] (λP u j wr=>∃(b:N) (k p:V),k=P/\p=u/\j=b/\b<=q/\aW 89 wr h k (r++ik a c (d.take b))/\B h h wr) (λ_ _ j _=>q-(aw j).toNat);exact⟨0,_,_,J,J,J,a3 _,by simpa[ik]using Y.oo,ad⟩;obtain⟨b,k,p,rfl,rfl,rfl,cc,e,f⟩:=hrel;obtain⟨bE,rfl⟩:=K wr;obtain⟨bF,bG,bH,rfl⟩:=AK e;by_cases Gp:b<q
  ·obtain⟨cd,ce,rfl,l,g1⟩:=a5 b Gp;have l:=bk f (aR _ _ l) l;have g1:=bk f (aR _ _ g1) g1;have bB:=aJ b;have bC:(b:I)<q:=by omega
   have ae:=T8 a c (d.take b) (al d b).1 (al d b).2;rw[show(d.take b++[((al d b).1,(al d b).2)])=d.take (b+1)from(iq d b (by rw[R];exact Gp)).symm]at ae;have w:(r++ik a c (d.take b)).length+1<=1000000000000:=by have cf:=AI a c (d.take b);have cg:=List.length_take_le' b d;rw[bL];omega
   have⟨ag,ai⟩:=K (r++ik a c (d.take b));have t:r++ik a c (d.take (b+1))=if(al d b).1=c then ag++[((a:I),(al d b).2)]else ag:=by rw[ae,ai];split;rw[ev];rfl
   rw[<-ai]at e w;have⟨⟨x,a6⟩,a8⟩:=K (al d b);rw[<-a8]at t l g1;simp only at t l g1;have⟨bI,an,av,bJ,ch,ci⟩:=T9 bE x a6;have y:=e.bw av;have bK:=f.size;have ax:=f.trans (av.mono bK);have bM:=ax.size;have a9:=Q ax;change H _ at an t;replace w:=Q w;replace y:=Q y;clear av bJ e f ax ai a8 ae;by_cases o:x=c
   ·have bN:(x==c)=T:=by simpa using o
    have m:=t.oo;rw[am o]at m;change H _ at m;clear o;go_upto_region 8 with fail;rw[an];clear l g1;go_wp2_with (at_builtin;refine wU J _ _ 96 89 _ underlying96 fv J J bI h (S bF bG bH) ag (a:I) a6 J J y w bM ?_);intro cj aP ck ay bO ba bP bS;rw[<-m]at ay;have bc:=a9.trans ba;have be:=Q (U ay bc);clear ay bO ba bP bS bc;go_wp2;go_roundw;case rel=>exact⟨b+1,_,_,J,J,aK,O,be.1,be.2⟩
    simp only[aw];exact qw
   have bN:(x==c)=F:=X o
   have m:=t.oo;rw[ak o]at m;change H _ at m;clear o;go_upto_region 8 with fail;rw[an];clear l g1;go_wp2;go_roundw;case rel=>exact⟨b+1,_,_,J,J,aK,O,by rw[m];exact y,a9⟩
   simp only[aw];exact qw
  have bT:b=q:=O
  subst bT;rw[cm (by rw[R];exact aL _),<-M]at e;have bU:=Q e;have bV:=Q f;clear e f;go_wp2;go_roundw;case rel=>exact⟨a+1,_,_,_,J,J,J,aK,O,bU,bV⟩
  exact bY
 have bW:a=i:=O
 subst bW;have Y:=Q e;have ad:=Q f;obtain⟨cl,cn,co,rfl⟩:=AK e;clear e f;go_wp2;go_ret;exact⟨_,_,_,J,Y,ad⟩
def eK(a:ad):I:=(a.find? λb=>decide (b≠0)).getD 0
def AL(b:ad)(d:∀a,a<L b->ae b a=0):eK b=0:=by unfold eK;rw[List.find?_eq_none.2];rfl;intro f e;obtain⟨a,c,rfl⟩:=gP e;have:=d a c;simp[ae,List.getD,c]at this;simp[this]
def AM(a:ad)(b:N)(e:b<L a)(g:∀c,c<b->ae a c=0)(f:ae a b≠0):eK a=ae a b:=by
 unfold eK;have h:a=a.take b++a[b]::a.drop (b+1):=by rw[<-List.drop_eq_getElem_cons e,g']
 have d:ae a b=a[b]:=by simp[ae,List.getD,e]
 rw[d]at f⊢;have i:(a.take b).find? (λd=>decide (d≠0))=Z:=by rw[List.find?_eq_none];intro l j;obtain⟨c,k,rfl⟩:=gP j;rw[dd]at k;have:=g c O;rw[show ae a c=a[c]' O by simp[ae,List.getD,show c<L a by omega]]at this;simp[this]
 conv=>lhs;rw[h]
 rw[List.find?_append,i,Option.none_or,List.find?_cons_of_pos (X f)];rfl
def Ua(n:N)(o:V)(c:ad)(d:W)(y:C d ⟨n,9,Z⟩=A o)(r:aX d o c)(D:L c<=1000000):ap ab 169 #[aM (A n)] d (fW d (eK c)):=by
 obtain⟨G,e,M,rfl,Da,_,p⟩:=r.open;have P:e<=1000000:=O
 change H _ at Da p;go_in;go_wp2;go_loopw [4,10] (λt a wr=>∃(b:N) (q:V),q=t/\a=b/\b<=e/\(∀a,a<b->ae c a=0)/\B d d wr) (λ_ a _=>e-(aw a).toNat);exact⟨0,_,J,J,a3 _,λa f=>absurd f (fx _),aS _ _⟩;obtain⟨b,q,rfl,rfl,R,h,i⟩:=hrel;obtain⟨U,rfl⟩:=K wr;by_cases Ch:b<e
 ·obtain⟨Y,ag,rfl,j⟩:=p b Ch;have j:=s i j;have k:=(AM c) b c1 h;have⟨l,m⟩:=K (ae c b);rw[<-m]at j k;have ah:=aJ b;have ai:(b:I)<e:=by omega
  have z:=Q i;by_cases g:l=0
  ·have u:(l !=0)=F:=by simpa using g
   have v:H (∀a,a<b+1->ae c a=0):=Q (λa f=>by by_cases w:a<b;exact h a w;rw[show a=b by omega,<-m];exact g);go_wp2;go_roundw;case rel=>exact⟨b+1,_,J,aK,O,v,z⟩
   exact bY
  have u:(l !=0)=T:=X g
  have B6:=Q (k g);clear k g h m i;exact nU
 have x:b=e:=O
 subst x;have B6:=Q ((AL c) (λa f=>h a (by rw[Da]at f;exact f)));have z:=Q i;exact nU
section
attribute [local go_sem] Oper.semAt_some
structure nx(c e d g:N)(h i j k m:I)(n o p:V)(a:W):Prop where
 inst:ci a c h i j k n o
 l:C a e=A p
 b:C a d=A (aa ac m)
 f:C a g=A (.func (.func 250) #[] #[aM (A c),aM (A d)])
def nx.bw{m n:I}(g:nx a c d e i j k m n u v y w)(h:B w w x):nx a c d e i j k m n u v y x:=⟨g.inst.bw h,s h g.l,s h g.b,s h g.f⟩
def Ub(G ai ak al:Nat)(M i c d o:Int)(P:Option Addr)(g R:Nat)(u U:Value)(e:List (List Int))(j:List (Int×Int))(a:World)(aQ:g<=1000000)(v:nx G ai ak al M i c d o (.slice P g R) u U a)(w:bt a u e)(X:ba a U j)(am:j.length<=1000000)(aR:o<=1000000):Calls prog 253 #[.pointer (some ⟨al,0,none⟩),.pointer (some ⟨G,0,none⟩),.pointer (some ⟨ai,0,none⟩)] a (hs a (dr e c d (hq g e i c d j) o.toNat) true):=by
 obtain⟨ar,av,ad,ae,ax,ay⟩:=cP a (.slice none 0 0);have x:=v.bw ad;have aS:=Q (λ(k:World) (m:Below (a:Nat) a k)=>OA M i c d P g R u U e j k aQ (w.bw m) (X.bw m) am);have aT:=Q (λ(k:World) (aA:Value) (m:Below (a:Nat) a k) (aV:bb k aA (hq g e i c d j))=>uA G ak M i c d o (.slice P g R) u aA e _ k ⟨_,_,_,rfl⟩ (v.bw m).inst (v.bw m).b (w.bw m) aV (Nat.le_trans (z6 _ _ _ _ _ _) am) aR);obtain⟨a6,a8,a9,rfl,_,_,_⟩:=w.open;obtain⟨be,bf,bg,rfl,_,_,_⟩:=X.open;obtain⟨aW,aX,ag,h,a0,a1⟩:=x.inst;have Ct:=x.l;have ah:=x.f;have aC:=Q (And.intro ax ay);have n:=Q ad;change H _ at av ae;clear ad;clear X w v x ax ay;go_in;go_upto_region 1 with fail;rw[av.oo];have a2:=ag;have a3:=h;clear ag h;go_upto_region 1 with fail;refine bv [100,101,102,203,204,305,6] ?_;iterate 3 refine mS ?_
 refine aU λaD p=>?_;go_simp;refine mF (aS.oo _ (n.oo.trans ((an ar).mono n.oo.size))) λaE bh bi ag ⟨aF,aG⟩=>?_;have r:=q (an ar) aG;have aJ:=n.oo.trans (r.mono n.oo.size);refine p.oo _ _ (.mk r) ?_;refine aU λaD p=>?_;go_simp;refine mF (aT.oo aE _ aJ aF.now) λa4 y z h ⟨aK,aL⟩=>?_;have t:=q r aL;refine p.oo _ _ (.mk t) ?_;clear aW aX a2 a3 a0 a1 Ct ah;have Ct:=s t aC.oo.1;have ah:=aY t (Y ae.oo) aC.oo.2;obtain⟨aN,D⟩:=K (a4.setCell ⟨a,0,none⟩ (.slice y z h));have aO:hs a (dr e c d (hq g e i c d j) o.toNat) true (.returned (.tuple #[.agg #[.slice y z h],.bool true])) aN:=by rw[D];have bk:=ae.oo;have:=r.size;exact⟨_,_,_,rfl,aI.oT (J0:=(aE:Nat)) aK O O,fR (n.oo.trans (t.mono n.oo.size)) (Nat.le_refl _) (Nat.le_refl _)⟩
 have aP:aN.cell? ⟨a,0,none⟩=some (.slice y z h):=by rw[D];exact World.cell?_setCell_same' _ _ _ mO
 change H _ at aO aP;change H _ at D;clear aK aL t r aJ aG aF;refine b4 λaD p=>?_;go_simp;try rw[<-D.oo]
 refine p.oo _ _ ?_;clear Ct ah;refine mS ?_;refine bc ?_;go_wp2_with fail;have a5:=aP.oo;exact bodyPost_ret (v:=.tuple #[.agg #[.slice y z h],.bool true]) (by simp[results,results253,go_sem,a5]) rfl aO.oo
def Uc(P R X ad:N)(ae ah k m d:I)(ak:bz)(al am:N)(v w:V)(n:ai)(e:ag)(a:W)(o:nx P R X ad ae ah k m d (S ak al am) v w a)(ar:bt a v n)(x:ba a w e)(av:L e<=1000000)(aS:d<=1000000):ap ab 255 #[aM (A ad),aM (A R)] a (hs a (dr n k m (dT e) d.toNat) T):=by
 have⟨ax,ay,y,z,aA,aC⟩:=cP a (S Z 0 0);have D:=o.bw y;have aT:=Q (λG g=>xF w e G (x.bw g) av);have aV:=Q (λG aW g aX=>uA P X ae ah k m d (S ak al am) v aW n _ G ⟨_,_,_,J⟩ (o.bw g).inst (o.bw g).b (ar.bw g) aX (by rw[uz];exact av) aS);obtain⟨a2,a3,a4,rfl,_,_,_⟩:=x.open;have Ct:=D.l;have M:=D.f;have aD:=Q (U aA aC);have c:=Q y;change H _ at ay z;clear y;clear x ar o D aA aC;go_in;go_upto_region 1 with fail;rw[ay];go_upto_region 1 with fail;refine bv [100,101,202,203,304,5] ?_;iterate 2 refine mS ?_
 refine aU λaE h=>?_;go_simp;refine mF (aT _ (c.trans ((an ax).mono c.size))) λaF a5 a6 a8 ⟨aG,aJ⟩=>?_;have i:=q (an ax) aJ;have aK:=c.trans (i.mono c.size);refine h _ _ (.mk i) ?_;refine aU λaE h=>?_;go_simp;refine mF (aV aF _ aK aG.now) λa0 p r t ⟨aN,aO⟩=>?_;have j:=q i aO;refine h _ _ (.mk j) ?_;clear Ct M;have Ct:=s j aD.1;have M:=aY j (Y z.oo) aD.2;have⟨aP,u⟩:=K (aj a0 a (S p r t));have aQ:hs a (dr n k m (dT e) d.toNat) T (aq (aZ #[ao #[S p r t],au T])) aP:=by rw[u];have a9:=z.oo;have:=i.size;exact⟨_,_,_,J,aI.oT (J0:=(aF:N)) aN O O,fR (c.trans (j.mono c.size)) (aL _) (aL _)⟩
 have aR:C aP a=A (S p r t):=by rw[u];exact bP _ _ _ mO
 change H _ at aQ aR;change H _ at u;clear aN aO j i aK aJ aG;refine b4 λaE h=>?_;go_simp;try rw[<-u]
 refine h _ _ ?_;clear Ct M;refine mS ?_;refine bc ?_;go_wp2_with fail;have a1:=aR.oo;exact b0 (v:=aZ #[ao #[S p r t],au T]) (by simp[results,results255,go_sem,a1]) J aQ
def mu(d:N)(a:ai)(e b c:I)(f:ag)(g:N):ar:=if(e2 d a e b c f).1 then dr a b c (e2 d a e b c f).2 g else[]
def Ud(X aE aF aG:Nat)(ad h c d j:Int)(ae:Option Addr)(e ag:Nat)(u ah:Value)(g:List (List Int))(i:List (Int×Int))(a:World)(a5:e<=1000000)(v:nx X aE aF aG ad h c d j (.slice ae e ag) u ah a)(w:bt a u g)(ai:ba a ah i)(aJ:i.length<=1000000)(a6:j<=1000000):Calls prog 256 #[.pointer (some ⟨X,0,none⟩),.pointer (some ⟨aE,0,none⟩),.pointer (some ⟨aG,0,none⟩)] a (hs a (mu e g h c d i j.toNat) (e2 e g h c d i).1):=by
 obtain⟨a8,aK,n,x,aL,aN⟩:=cP a (.slice none 0 0);have y:=v.bw n;have ak:=Q (SG ad h c d ae e ag u ah g i a8 a5 (w.bw n) (ai.bw n) aJ);have al:=Q (λ(am:World) (aO:Value) (an:Below (a:Nat) a am) (a9:bb am aO (e2 e g h c d i).2)=>uA X aF ad h c d j (.slice ae e ag) u aO g _ am ⟨_,_,_,rfl⟩ (v.bw an).inst (v.bw an).b (w.bw an) a9 (Nat.le_trans (z7 _ _ _ _ _ _) aJ) a6);obtain⟨bv,bx,bz,rfl,_,_,_⟩:=w.open;obtain⟨bA,bB,bC,rfl,_,_,_⟩:=ai.open;obtain⟨bc,be,bf,bg,bh,bk⟩:=y.inst;have Ct:=y.l;have aP:=y.f;have aQ:=Q (And.intro aL aN);have m:mu e g h c d i j.toNat=if(e2 e g h c d i).1 then dr g c d (e2 e g h c d i).2 j.toNat else[]:=rfl;obtain⟨⟨bl,bD⟩,aR⟩:=K (e2 e g h c d i);rw[<-aR]at ak al m⊢;simp only at ak al m⊢;obtain⟨aS,aT⟩:=K (mu e g h c d i j.toNat);rw[<-aT]at m⊢;have aU:=Q n;change H _ at aK x m;clear n;change H _ at aP;clear ai w v y aL aN aT aR;go_in;go_upto_region 1 with fail;rw[aK.oo];go_wp2_with fail;refine mF ak.oo λbm aV aW aX ⟨a0,ar⟩=>?_;have av:=aU.oo.trans (ar.mono aU.oo.size);obtain⟨ax,ay,o,bn,bE⟩:=c8 bm (.slice aV aW aX);have bo:=o;have aA:=av.trans (o.mono av.size);have p:=q ar o;have Ct:=s p aQ.oo.1;have a1:=aY p (Y x.oo) aQ.oo.2;have bq:=s p aP.oo;have br:=Q (al.oo ax (.slice aV aW aX) aA (a0.now.bw o));have a2:=Q p;have aC:=Q aA;change H _ at ay;clear bc be bf bg bh bk a0 ar av o bo p aA bn;cases bl with
  |false=>
   have k:=m.oo;simp only[Bool.false_eq_true,if_false]at k;obtain⟨z,D⟩:=K (ax.setCell ⟨a,0,none⟩ (.slice none 0 0));have r:hs a aS false (.returned (.tuple #[.agg #[.slice none 0 0],.bool false])) z:=by rw[D,k];exact⟨_,_,_,rfl,λbs _ _=>jQ bs,fR aC.oo (Nat.le_refl _) (Nat.le_refl _)⟩
   have t:z.cell? ⟨a,0,none⟩=some (.slice none 0 0):=by rw[D];exact World.cell?_setCell_same' _ _ _ mO
   change H _ at r t;change H _ at D;clear k;go_wp2_with (rw[ay.oo]);try rw[<-D.oo]
   have aD:=t.oo;exact bodyPost_ret (v:=.tuple #[.agg #[.slice none 0 0],.bool false]) (by simp[results,results256,go_sem,aD]) rfl r.oo
  |true=>
   have k:=m.oo;simp only[if_true]at k;go_wp2_with (rw[ay.oo]);refine mF br.oo λz G M P ⟨a3,R⟩=>?_;have Ct:=s R Ct;have a1:=aY R (bi x.oo a2.oo.size) a1;obtain⟨a4,U⟩:=K (z.setCell ⟨a,0,none⟩ (.slice G M P));have r:hs a aS true (.returned (.tuple #[.agg #[.slice G M P],.bool true])) a4:=by rw[U,k];have bF:=x.oo;have:=a2.oo.size;exact⟨_,_,_,rfl,aI.oT (J0:=(ax:Nat)) a3 O O,fR (aC.oo.trans (R.mono aC.oo.size)) (Nat.le_refl _) (Nat.le_refl _)⟩
   have t:a4.cell? ⟨a,0,none⟩=some (.slice G M P):=by rw[U];exact World.cell?_setCell_same' _ _ _ mO
   change H _ at r t;change H _ at U;clear k a3 R bq;go_wp2_with fail;try rw[<-U.oo]
   have aD:=t.oo;exact bodyPost_ret (v:=.tuple #[.agg #[.slice G M P],.bool true]) (by simp[results,results256,go_sem,aD]) rfl r.oo
end
section
def AN(acz:cb)(o:FuncId)(p:Array V)(q:aD){d:Type}(r:d->Array V)(s:E d->d->W->Prop)(Fin:E d->Prop)(g:W):Prop:=∀(l:N) (b:E d->W->Prop) (c:W) (m:aD),B g g c->(g:N)+2<=(c:N)->(∀a h n,b a h->B h.heap.size h n->b a n)->(∀i,m i->i<(c:N)/\¬q i)->(∀a j e,b a e->s a j e->(c:N)<=e.heap.size->YieldAt Fence.wide 0 acz l (r j) e λk f=>k=aq (au T)/\b (a++[j]) f/\M m e f)->b [] c->ap acz o (#[.func (.yield l) #[] #[]]++p) c λk f=>(∃t,k=aq t)/\∃a,Fin a/\b a f
def Ue{c:Type}(a e f:W)(g:E c->W->Prop)(h:E c)(i:aD):bJ
 | .normal,_,b=>g h b/\M (λd=>i d\/d=(a:N)+1) e b/\b.heap[(a:N)+1]? =f.heap[(a:N)+1]?
 |_,_,_=>False
variable{acz:cb}
def Uf{j:Type}{ae:Operand}{y:Array Tmp}{t u:Code}{ag:bJ}{o:a'}{a:W}{p:N}{z:Array V}{ah:aD}{G:j->Array V}{ai:E j->j->W->Prop}{Fin:E j->Prop}(aI:o.eval ae= .func (.func p) #[] z)(aJ:∀args a,(callFunc p args).run acz a= .ok (.enter p args) a)(aK:AN acz p z ah G ai Fin a)(aN:∀h,(G h).size=y.size)(l:E j->W->Prop)(H:aD)(K:∀c m P,l c m->M (λb=>b=a.heap.size+1) m P->l c P)(ak:∀b,H b->b<a.heap.size/\¬ah b)(aO:l [] a)(aP:∀(al:N)(c:E j)(h:j)(d:W),l c d->ai c h d->a.heap.size+1<(d:N)->t.wpIn (Fence.wide.inRound al) 0 acz (Exit.then (λam e=>B d d e/\∀n,M (λb=>b=a.heap.size+1) e n->u.wpIn (Fence.wide.inRound al) 0 acz (Ue a d n l (c++[h]) H) am n) (λ_ _ _=>False)) {tmps:=(y.zip (G h)).foldl (λQ (aR,an)=>Q.setIfInBounds aR an) o.tmps,defers:=[]} d)(aT:∀(c:E j)(d:W),Fin c->l c d->d.heap[a.heap.size]? =A (.deferred (A []))->ag .normal {o with defers:={target:=.collected a.heap.size,args:=#[]}::o.defers} d):(Code.rangeFunc ae y t u).wp acz ag o a:=by
 refine wpIn_wide (n:=0).1 (wpIn_rangeFunc ?_);intro R aU;obtain⟨q,k⟩:∃q:LoopState->Option Code->Loop,q=λaV aW=>{state:=aV,pending:=aW,fn:=R,tmps:=o.tmps,params:=y,assign:=t,body:=u,defers:=a.heap.size}:=⟨_,J⟩
 obtain⟨e,v⟩:∃e,(a.alloc (.deferred (A []))).alloc (.loop (q .ready Z))=e:=⟨_,J⟩
 have aX:e.heap[a.heap.size+1]? =A (.loop (q .ready Z)):=by rw[<-v];have:=World.alloc_heap_new (a.alloc (.deferred (A []))) (.loop (q .ready Z));rwa [World.size_alloc]at this
 have aY:e.heap[a.heap.size]? =A (.deferred (A [])):=by rw[<-v];exact(Below.heap_alloc _ _ _ D).trans (World.alloc_heap_new a _)
 have ax:B a.heap.size a e:=by rw[<-v];exact((aS _ a).alloc (aL _) _).alloc D _
 have bh:e.heap.size=a.heap.size+1+1:=by rw[<-v];simp
 have ay:∀b,H b->b<a.heap.size:=λb f=>(ak b f).1;have a0:=K _ _ _ aO (M.bw ax);refine⟨a.heap.size+1,[{target:=.collected a.heap.size,args:=#[]}],e,{target:=.fn (.func p) z,args:=#[.func (.yield (a.heap.size+1)) #[] #[]]},e,p,#[.func (.yield (a.heap.size+1)) #[] #[]]++z,e,?_,?_,?_,?_,λa1=>by simp[Fence.wide]at a1,?_⟩;rw[<-v,k];exact run_enterLoop_outer _ _ _ _ _;·simp only[resolve,aI];simp[go_sem]
 intro bi _;trivial;·simp[invoke,go_sem,aJ]
 refine callsIn_wide.2 ((aK (a.heap.size+1) (λc m=>l c m/\m.heap[a.heap.size+1]? =A (.loop (q .ready Z))/\m.heap[a.heap.size]? =A (.deferred (A []))) e H ax O ?_ (λb f=>⟨Y (ay b f),(ak b f).2⟩) ?_ ⟨a0,aX,aY⟩).mono ?_);rintro c m P ⟨w,i,f⟩ x;exact⟨K _ _ _ w (M.bw x),(x.block _ ((bM.1 i).1)).trans i,(x.block _ ((bM.1 f).1)).trans f⟩;rintro c h d ⟨w,i,f⟩ a2 _;have aA:=(bM.1 i).1;have aC:=run_yield (P:=acz) (args:=G h) i (by rw[k];exact aN h);rw[k]at aC;refine⟨R,_,t,u,aC,roundIn_of_wpIn aU (wpIn_mono (aP (a.heap.size+1) c h d w a2 aA) ?_)⟩;intro g am n hp;cases g with
  |normal=>
   obtain⟨x,a3⟩:=hp;have aE:=(x.block _ aA).trans i;have a4:=(bM.1 aE).1;refine⟨_,run_beginRound aE (by rw[k]),wpIn_mono (a3 _ (hc n _ _)) ?_⟩;intro a5 bk a6 r;cases a5 with
    |normal=>obtain⟨a8,s,U⟩:=r;rw[World.putObj_heap_same a4]at U;have aF:=(bM.1 U).1;refine⟨_,_,(run_endRound (P:=acz) Z U),J,⟨K _ _ _ a8 (hc a6 _ _),?_,?_⟩,?_⟩;rw[World.putObj_heap_same aF];rw[k];rfl;rw[World.putObj_heap_other O];exact(s.block _ O λg=>by rcases g with g|g;exact absurd (ay _ g) O;omega).trans f;refine⟨s.os,s.tape,s.output,X s.size,λb f a9=>?_⟩;by_cases ad:b=a.heap.size+1;subst ad;rw[World.putObj_heap_same aF,i,k];rfl;rw[World.putObj_heap_other ad];exact s.block b f λg=>by rcases g with g|g;exact a9 g;exact ad g
    |ret=>exact r.elim
    |exit id=>exact r.elim
    |goto Q=>exact r.elim
    |panic ba=>exact r.elim
    |outgrown=>exact r.elim
  |ret=>exact hp.elim
  |exit id=>exact hp.elim
  |goto Q=>exact hp.elim
  |panic ba=>exact hp.elim
  |outgrown=>exact hp.elim
 rintro g n ⟨⟨an,rfl⟩,c,bb,w,i,f⟩;have aG:=run_endLoop (P:=acz) i (by rw[k];simp);rw[k]at aG;refine⟨Z,_,aG,aT c _ bb (K _ _ _ w (hc n _ _)) ?_⟩;exact(World.putObj_heap_other O).trans f
end
section
attribute [local go_sem] Oper.semAt_some
def f7(e:N)(a:ai)(f b c:I)(d:ag)(g:N):aV:=dT d::dr a b c (hq e a f b c d) g::dr a b c (dT d) g::(if(e2 e a f b c d).1 then[mu e a f b c d g]else[])
structure hC(f b e c g d:N)(h i j k l:I)(m n o:V)(a:W):Prop where
 adU:nx e c g d h i j k l m n o a
 s:C a f=A (S (A b) 4 4)
 q0:C a b=A (.func (.func 251) #[] #[aM (A c)])
 q1:C a ⟨b,1,Z⟩=A (.func (.func 253) #[] #[aM (A d),aM (A e),aM (A c)])
 q2:C a ⟨b,2,Z⟩=A (.func (.func 255) #[] #[aM (A d),aM (A c)])
 q3:C a ⟨b,3,Z⟩=A (.func (.func 256) #[] #[aM (A e),aM (A c),aM (A d)])
def hC.bl{acG acH acI acJ acK acL:N}{acM acN acO acP acQ:I}{acR acS acT:V}{e f:W}{b:aD}(g:hC acG acH acI acJ acK acL acM acN acO acP acQ acR acS acT e)(a:M b e f)(h:¬b acG)(d:¬b acH)(c:¬b acI)(i:¬b acJ)(j:¬b acK)(k:¬b acL):hC acG acH acI acJ acK acL acM acN acO acP acQ acR acS acT f:=by obtain⟨⟨⟨l,m,n,o,p,q⟩,r,s,t⟩,u,v,w,x,y⟩:=g;exact⟨⟨⟨a.cell l c,a.cell m c,a.cell n c,a.cell o c,a.cell p c,a.cell q c⟩,a.cell r i,a.cell s j,a.cell t k⟩,a.cell u h,a.cell v d,a.cell w d,a.cell x d,a.cell y d⟩
def hC.bw{acG acH acI acJ acK acL:N}{acM acN acO acP acQ:I}{acR acS acT:V}{a b:W}(c:hC acG acH acI acJ acK acL acM acN acO acP acQ acR acS acT a)(d:B a a b):hC acG acH acI acJ acK acL acM acN acO acP acQ acR acS acT b:=c.bl (M.bw (I':=λ_=>False) d) id id id id id id
def oI(a:V×ar):Array V:=#[ao #[a.1]]
structure mv(b:E (V×ar)->W->Prop)(c:aD)(d e:W)(f g h i k l:N)(n o p q r:I)(s t u:V)(a:E (V×ar))(v:aV)(wr:W):Prop where
 j:b a wr
 m:a.map (·.2)=v
 aO:M c d wr
 jB:hC f g h i k l n o p q r s t u wr
 size:(e:N)<=wr
section
variable{acA:E (V×ar)->W->Prop}{acB acC:aD}{acD acE wr acF:W}{acG acH acI acJ acK acL:N}{acM acN acO acP acQ:I}{acR acS acT:V}{acU:E (V×ar)}{acV:aV}
def mv.next(a:mv acA acB acD acE acG acH acI acJ acK acL acM acN acO acP acQ acR acS acT acU acV wr)(e:∀acU c d,acA acU c->B c.heap.size c d->acA acU d)(b:B wr wr acF):mv acA acB acD acE acG acH acI acJ acK acL acM acN acO acP acQ acR acS acT acU acV acF:=⟨e _ _ _ a.j b,a.m,a.aO.then b,a.jB.bw b,a1 a.size b.size⟩
def mv.round{x:V×ar}(e:mv acA acB acD acE acG acH acI acJ acK acL acM acN acO acP acQ acR acS acT acU acV wr)(hF:∀b,acC b->¬((b<(acD:N)/\¬acB b)\/b=acG\/b=acH\/b=acI\/b=acJ\/b=acK\/b=acL))(f:acA (acU++[x]) acF)(c:M acC wr acF):mv acA acB acD acE acG acH acI acJ acK acL acM acN acO acP acQ acR acS acT (acU++[x]) (acV++[x.2]) acF:=⟨f,by simp[e.m],e.aO.trans c I2 (λb c a=>Classical.byContradiction λg=>hF b a (.inl ⟨c,g⟩)),e.jB.bl c (λa=>hF _ a D) (λa=>hF _ a D) (λa=>hF _ a D) (λa=>hF _ a D) (λa=>hF _ a D) (λa=>hF _ a D),a1 e.size c.size⟩
end
def Ug(acG acH acI acJ acK acL:Nat)(acM acN acO acP acQ:Int)(G:Option Addr)(d P:Nat)(acS acT:Value)(h:List (List Int))(e:List (Int×Int))(acD acE:World)(bf:d<=1000000)(acB:Nat->Prop)(aE:∀a,M acB acD a->bt a acS h)(ax:∀a,M acB acD a->ba a acT e)(aF:e.length<=1000000)(aP:acQ<=1000000)(bg:M acB acD acE)(bh:hC acG acH acI acJ acK acL acM acN acO acP acQ (.slice G d P) acS acT acE):AN prog 258 #[.pointer (some ⟨acG,0,none⟩)] (λc=>(c<(acD:Nat)/\¬acB c)\/c=acG\/c=acH\/c=acI\/c=acJ\/c=acK\/c=acL) oI (λacU Y a=>(∃U,f7 d h acN acO acP e acQ.toNat=acU.map (·.2)++Y.2::U)/\(∃bv ay bx,Y.1= .slice bv ay bx)/\aI bb (λc=>c<(acE:Nat)+2) a Y.1 Y.2) (λacU=>acU.map (·.2)=f7 d h acN acO acP e acQ.toNat) acE:=by
 intro bE acA aG acC aQ bi aA bk an bl;have aR:mv acA acB acD aG acG acH acI acJ acK acL acM acN acO acP acQ (S G d P) acS acT [] [] aG:=⟨bl,J,bg.then aQ,bh.bw aQ,aL _⟩
 have bm:=Q (λ(a:W) (R:M acB acD a) (f:hC acG acH acI acJ acK acL acM acN acO acP acQ (S G d P) acS acT a)=>SI acJ acT e a f.adU.l (ax a R) aF);have bn:=Q (λ(a:W) (R:M acB acD a) (f:hC acG acH acI acJ acK acL acM acN acO acP acQ (S G d P) acS acT a)=>Ub acI acJ acK acL acM acN acO acP acQ G d P acS acT h e a bf f.adU (aE a R) (ax a R) aF aP);have bo:=Q (λ(a:W) (R:M acB acD a) (f:hC acG acH acI acJ acK acL acM acN acO acP acQ (S G d P) acS acT a)=>Uc acI acJ acK acL acM acN acO acP acQ G d P acS acT h e a f.adU (aE a R) (ax a R) aF aP);have bq:=Q (λ(a:W) (R:M acB acD a) (f:hC acG acH acI acJ acK acL acM acN acO acP acQ (S G d P) acS acT a)=>Ud acI acJ acK acL acM acN acO acP acQ G d P acS acT h e a bf f.adU (aE a R) (ax a R) aF aP);have t:f7 d h acN acO acP e acQ.toNat=dT e::dr h acO acP (hq d h acN acO acP e) acQ.toNat::dr h acO acP (dT e) acQ.toNat::(if(e2 d h acN acO acP e).1 then[mu d h acN acO acP e acQ.toNat]else[]):=J;obtain⟨aS,aT⟩:=K (dT e);obtain⟨aU,aV⟩:=K (dr h acO acP (hq d h acN acO acP e) acQ.toNat);obtain⟨aW,aX⟩:=K (dr h acO acP (dT e) acQ.toNat);obtain⟨aY,a0⟩:=K (mu d h acN acO acP e acQ.toNat);obtain⟨br,a2⟩:=K ((e2 d h acN acO acP e).1);rw[<-aX,<-aV,<-a0,<-a2,<-aT]at t;rw[<-aT]at bm;rw[<-aV]at bn;rw[<-aX]at bo;rw[<-a0,<-a2]at bq;obtain⟨av,bs⟩:=K (f7 d h acN acO acP e acQ.toNat);rw[<-bs]at t an⊢;have aJ:H ((acE:N)+2<=(aG:N)):=Q bi;have aK:=Q (λc (aC:acC c)=>(bk c aC).2);have bF:=aR.jB.s;change H _ at aA an aR t;clear bk aE ax bg aQ bi bh aT aV aX a0 a2 bs bl;go_in;go_wp2;go_loopw [9] (λa4 wr=>∃(c:N) (acU:E (V×ar)),a4=(c:I)/\c<=4/\mv acA acB acD aG acG acH acI acJ acK acL acM acN acO acP acQ (S G d P) acS acT acU (av.take c) wr) (λa4 _=>4-(aw a4).toNat);exact⟨0,[],J,a3 _,aR⟩;obtain⟨c,acU,rfl,bG,b⟩:=hrel;obtain⟨aD,rfl⟩:=K wr;by_cases bH:c<4
 ·have X:=b.size;have aN:=Q b.m;have f1:=b.jB.s;by_cases bz:c=0
  ·subst bz;have ad:=b.jB.q0;have ae:=Q (bm.oo aD b.aO b.jB);have ag:=Q b;clear b;go_wp2_with fail;refine mF ae λah n o p ⟨u,v⟩=>?_;obtain⟨ai,w,i,ak,al⟩:=c8 ah (S n o p);have k:=Q (ag.oo.next aA (q v i));change H _ at w;clear ak;have f:(∃U,av=acU.map (·.2)++aS::U):=⟨_,by rw[aN,t];rfl⟩
   have g:=an acU (S n o p,aS) ai k.j ⟨f,⟨_,_,_,J⟩,(u.bw i).mono λa5 am=>cg am (a1 aJ X)⟩ k.size;obtain⟨a6,a8,a9,bc,g,x⟩:=g;have y:=Q x;simp only[oI]at g;clear f x u v i ad f1 X;go_upto_region 4 with(rw[w])
   refine wpIn_wide (n:=0).1 ?_;gi_wp2;refine⟨J,y.mono ?_⟩;rintro aC be ⟨rfl,z,D⟩;have r:=k.round (x:=(S n o p,aS)) aK z D;change H _ at r;clear g z D al y;gi_wp2;go_wp2;go_roundw;case rel=>exact⟨1,_,by go_num,O,by have:=r.oo;rw[t]at this⊢;exact this⟩
   simp[aw]
  by_cases bA:c=1
  ·subst bA;have ad:=b.jB.q1;have ae:=Q (bn.oo aD b.aO b.jB);have ag:=Q b;clear b;go_wp2_with fail;refine mF ae λah n o p ⟨u,v⟩=>?_;obtain⟨ai,w,i,ak,al⟩:=c8 ah (S n o p);have k:=Q (ag.oo.next aA (q v i));change H _ at w;clear ak;have f:(∃U,av=acU.map (·.2)++aU::U):=⟨_,by rw[aN,t];rfl⟩
   have g:=an acU (S n o p,aU) ai k.j ⟨f,⟨_,_,_,J⟩,(u.bw i).mono λa5 am=>cg am (a1 aJ X)⟩ k.size;obtain⟨a6,a8,a9,bc,g,x⟩:=g;have y:=Q x;simp only[oI]at g;clear f x u v i ad f1 X;go_upto_region 4 with(rw[w])
   refine wpIn_wide (n:=0).1 ?_;gi_wp2;refine⟨J,y.mono ?_⟩;rintro aC be ⟨rfl,z,D⟩;have r:=k.round (x:=(S n o p,aU)) aK z D;change H _ at r;clear g z D al y;gi_wp2;go_wp2;go_roundw;case rel=>exact⟨2,_,by go_num,O,by have:=r.oo;rw[t]at this⊢;exact this⟩
   simp[aw]
  by_cases bB:c=2
  ·subst bB;have ad:=b.jB.q2;have ae:=Q (bo.oo aD b.aO b.jB);have ag:=Q b;clear b;go_wp2_with fail;refine mF ae λah n o p ⟨u,v⟩=>?_;obtain⟨ai,w,i,ak,al⟩:=c8 ah (S n o p);have k:=Q (ag.oo.next aA (q v i));change H _ at w;clear ak;have f:(∃U,av=acU.map (·.2)++aW::U):=⟨_,by rw[aN,t];rfl⟩
   have g:=an acU (S n o p,aW) ai k.j ⟨f,⟨_,_,_,J⟩,(u.bw i).mono λa5 am=>cg am (a1 aJ X)⟩ k.size;obtain⟨a6,a8,a9,bc,g,x⟩:=g;have y:=Q x;simp only[oI]at g;clear f x u v i ad f1 X;go_upto_region 4 with(rw[w])
   refine wpIn_wide (n:=0).1 ?_;gi_wp2;refine⟨J,y.mono ?_⟩;rintro aC be ⟨rfl,z,D⟩;have r:=k.round (x:=(S n o p,aW)) aK z D;change H _ at r;clear g z D al y;gi_wp2;go_wp2;go_roundw;case rel=>exact⟨3,_,by go_num,O,by have:=r.oo;rw[t]at this⊢;exact this⟩
   simp[aw]
  have bC:c=3:=O
  subst bC;have ad:=b.jB.q3;have ae:=Q (bq.oo aD b.aO b.jB);have ag:=Q b;clear b;go_wp2_with fail;refine mF ae λah n o p ⟨u,v⟩=>?_;obtain⟨ai,w,i,ak,al⟩:=c8 ah (S n o p);have k:=Q (ag.oo.next aA (q v i));change H _ at w;clear ak;cases br with
   |false=>
    have r:=k.oo;change H _ at r;clear u v i ad f1 X;go_wp2_with (rw[w]);go_roundw;case rel=>exact⟨4,_,by go_num,O,by have:=r.oo;rw[t]at this⊢;exact this⟩
    simp[aw]
   |true=>
    have f:(∃U,av=acU.map (·.2)++aY::U):=⟨_,by rw[aN,t];rfl⟩
    have g:=an acU (S n o p,aY) ai k.j ⟨f,⟨_,_,_,J⟩,(u.bw i).mono λa5 am=>cg am (a1 aJ X)⟩ k.size;obtain⟨a6,a8,a9,bc,g,x⟩:=g;have y:=Q x;simp only[oI]at g;clear f x u v i ad f1 X;go_upto_region 4 with(rw[w])
    refine wpIn_wide (n:=0).1 ?_;gi_wp2;refine⟨J,y.mono ?_⟩;rintro aC be ⟨rfl,z,D⟩;have r:=k.round (x:=(S n o p,aY)) aK z D;change H _ at r;clear g z D al y;gi_wp2;go_wp2;go_roundw;case rel=>exact⟨4,_,by go_num,O,by have:=r.oo;rw[t]at this⊢;exact this⟩
    simp[aw]
 have bD:c=4:=O
 subst bD;have bu:∃acU,acU.map (·.2)=av/\acA acU aD:=⟨acU,by rw[b.m,t];cases br<;>rfl,b.j⟩
 change H _ at bu;clear b;go_wp2;go_end0;exact⟨⟨_,J⟩,bu⟩
end
section
attribute [local go_sem] Oper.semAt_some
def AO(a:W)(i j k l m:I)(n o p:V)(q:bp)(c:W):Prop:=∃b d e f g h,q=aq (.func (.func 258) #[] #[aM (A ⟨b,0,Z⟩)])/\hC b d e f g h i j k l m n o p c/\B a a c/\a<=b/\a<=d/\a<=e/\a<=f/\a<=g/\a<=h
def Uh(i j k l g:I)(w x y:V)(a:W)(aS:∃n o p,w=S n o p)(aT:∃n o p,x=S n o p)(aU:∃n o p,y=S n o p):ap ab 228 #[ao #[i,j,k,l,w,x],y,g] a (AO a i j k l g w x y):=by
 obtain⟨z,G,K,rfl⟩:=aS;obtain⟨M,P,Q,rfl⟩:=aT;obtain⟨t,u,v,rfl⟩:=aU;have⟨h,al,am,an,ar⟩:=bR a i j k l (S z G K) (S M P Q);obtain⟨c,av,ay,aV,R⟩:∃c,h.alloc (az #[S t u v] 96)=c/\B h.heap.size h c/\c.heap.size=h.heap.size+1/\C c ⟨h.heap.size,0,Z⟩=A (S t u v):=⟨_,J,aN _ _,D,aE⟩
 obtain⟨d,aA,aC,aW,U⟩:∃d,c.alloc (az #[g] 3)=d/\B c.heap.size c d/\d.heap.size=c.heap.size+1/\C d ⟨c.heap.size,0,Z⟩=A (aa ac g):=⟨_,J,aN _ _,D,aE⟩
 have aD:h.heap.size=a.heap.size+1:=an;have aF:c.heap.size=a.heap.size+2:=O
 have aG:d.heap.size=a.heap.size+3:=O
 obtain⟨b,aI,aJ,aX,X⟩:∃b,d.alloc (az #[.func (.func 250) #[] #[aM (A ⟨a.heap.size,0,Z⟩),aM (A ⟨a.heap.size+2,0,Z⟩)]] 314)=b/\B d.heap.size d b/\b.heap.size=d.heap.size+1/\C b ⟨d.heap.size,0,Z⟩=A (.func (.func 250) #[] #[aM (A ⟨a.heap.size,0,Z⟩),aM (A ⟨a.heap.size+2,0,Z⟩)]):=⟨_,J,aN _ _,D,aE⟩
 have aK:b.heap.size=a.heap.size+4:=O
 obtain⟨e,aL,aO,aY,Y⟩:∃e,b.alloc (az #[.func (.func 251) #[] #[aM (A ⟨a.heap.size+1,0,Z⟩)],.func (.func 253) #[] #[aM (A ⟨a.heap.size+3,0,Z⟩),aM (A ⟨a.heap.size,0,Z⟩),aM (A ⟨a.heap.size+1,0,Z⟩)],.func (.func 255) #[] #[aM (A ⟨a.heap.size+3,0,Z⟩),aM (A ⟨a.heap.size+1,0,Z⟩)],.func (.func 256) #[] #[aM (A ⟨a.heap.size,0,Z⟩),aM (A ⟨a.heap.size+1,0,Z⟩),aM (A ⟨a.heap.size+3,0,Z⟩)]] 316)=e/\B b.heap.size b e/\e.heap.size=b.heap.size+1/\ax e b.heap.size [.func (.func 251) #[] #[aM (A ⟨a.heap.size+1,0,Z⟩)],.func (.func 253) #[] #[aM (A ⟨a.heap.size+3,0,Z⟩),aM (A ⟨a.heap.size,0,Z⟩),aM (A ⟨a.heap.size+1,0,Z⟩)],.func (.func 255) #[] #[aM (A ⟨a.heap.size+3,0,Z⟩),aM (A ⟨a.heap.size+1,0,Z⟩)],.func (.func 256) #[] #[aM (A ⟨a.heap.size,0,Z⟩),aM (A ⟨a.heap.size+1,0,Z⟩),aM (A ⟨a.heap.size+3,0,Z⟩)]]:=⟨_,J,aN _ _,D,ax.new b _ _⟩
 have a0:e.heap.size=a.heap.size+5:=O
 obtain⟨f,aP,aQ,a1,ad⟩:∃f,e.alloc (az #[S (A ⟨a.heap.size+4,0,Z⟩) 4 4] 320)=f/\B e.heap.size e f/\f.heap.size=e.heap.size+1/\C f ⟨e.heap.size,0,Z⟩=A (S (A ⟨a.heap.size+4,0,Z⟩) 4 4):=⟨_,J,aN _ _,D,aE⟩
 rw[aD]at R;rw[aF]at U;rw[aG]at X;rw[aK]at Y;rw[a0]at ad;have ae:=aQ;have ag:=q aO ae;have ah:=q aJ ag;have ai:=q aC ah;have ak:=q ay ai;have r:=Y.bw ae;have aR:hC (a.heap.size+5) (a.heap.size+4) a.heap.size (a.heap.size+1) (a.heap.size+2) (a.heap.size+3) i j k l g (S z G K) (S M P Q) (S t u v) f:=⟨⟨ar.bw ak,s ai R,s ah U,s ag X⟩,ad,r 0 _ J,r 1 _ J,r 2 _ J,r 3 _ J⟩
 have m:AO a i j k l g (S z G K) (S M P Q) (S t u v) (aq (.func (.func 258) #[] #[aM (A ⟨a.heap.size+5,0,Z⟩)])) f:=⟨_,_,_,_,_,_,J,aR,q am ak,O,O,O,O,O,O⟩
 change H _ at al av aA aI aL aP m;clear am ay aC aJ aO aQ an aV aW aX aY a1 ar R U X Y ad ae ag ah ai ak r aR;go_in;go_upto_region 1 with fail;rw[al,av,aA];try rw[aF]
 try rw[aD]
 go_upto_region 2 with fail;try rw[aI]
 try rw[aG]
 go_wp2_with fail;try rw[aL]
 try rw[aK]
 try rw[aP]
 exact mW
def Ui{b:cb}{c:Func}{d:bp->W->Prop}{e:Array V}{Kl:V}(f:(results c e).run b w= .ok Kl w)(g:d (aq Kl) w):bodyPostM Fence.wide 0 b c d .ret {tmps:=e,defers:=[]} w:=⟨_,f,g⟩
def oJ(d:N)(c:ai)(e f g:I)(a:Bool×I×ar)(b:ar):Bool×I×ar:=if eZ d c e f g b=0 then(if a.1=F\/cl c b<a.2.1 then(T,cl c b,b)else a)else a
def gH(a:N)(b:ai)(c d e:I)(f:aV):Bool×I×ar:=f.foldl (oJ a b c d e) (F,0,[])
def Uj(a:N)(b:ai)(c d e:I)(f:aV)(g:ar):gH a b c d e (f++[g])=oJ a b c d e (gH a b c d e f) g:=by unfold gH;rw[List.foldl_append];rfl
def r8(a:N)(b:ai)(f c d:I)(e:ag)(g:N):I:=if iE a b c d e≠0 then iE a b c d e else if(gH a b f c d (f7 a b f c d e g)).1 then 0 else 14
def ny(a:N)(b:ai)(e c d:I)(f:ag)(g:N):ar:=if iE a b c d f≠0 then[]else if(gH a b e c d (f7 a b e c d f g)).1 then(gH a b e c d (f7 a b e c d f g)).2.2 else[]
def r9(a:W)(f:ar)(g:I)(h:bp)(b:W):Prop:=∃c d e,h=aq (aZ #[ao #[S c d e],g])/\aI bb (λi=>i<(a:N)) b (S c d e) f/\B a a b
def AP{g:ai}{e:ag}:∀f∈f7 a g i j k e b,a6 f<=L e:=by intro f d;unfold f7 at d;simp only[cK]at d;rcases d with rfl|rfl|rfl|c;rw[uz];exact aL _;exact a1 (lU _ _ _ _ _).1 (z6 _ _ _ _ _ _);exact a1 (lU _ _ _ _ _).1 (by rw[uz];exact aL _);split at c;rename_i h;simp only[List.mem_singleton]at c;subst c;unfold mu;rw[am h];exact a1 (lU _ _ _ _ _).1 (z7 _ _ _ _ _ _);cases c
structure iW(e c d h:N)(i:V)(g:Bool×I×ar)(a:W):Prop where
 b:C a e=A i
 l:C a c=A (aa ac g.2.1)
 f:C a d=A (au g.1)
 zb:aH a e=F
 zl:aH a c=F
 zf:aH a d=F
 ne:e<c/\c<d/\d<h
 off:aI bb (λj=>j<h+2) a i g.2.2
def iW.aO{n:Bool×I×ar}{I':aD}(g:iW a c d e u n w)(i:M I' w x)(k:∀j,I' j->e<=j/\j<e+2):iW a c d e u n x:=by
 have r:¬I' a:=λh=>bi (k _ h) g.ne
 have s:¬I' c:=λh=>bi (k _ h) g.ne
 have t:¬I' d:=λh=>bi (k _ h) g.ne
 exact⟨i.cell g.b r,i.cell g.l s,i.cell g.f t,i.free g.zb (aR _ _ g.b) r,i.free g.zl (aR _ _ g.l) s,i.free g.zf (aR _ _ g.f) t,g.ne,g.off.step i.size (λj D G=>i.block j D (λh=>G (k j h).2)) (λj _ h=>h)⟩
def iW.bw{e:Bool×I×ar}(g:iW a b c d u e w)(m:B w w x):iW a b c d u e x:=g.aO (M.bw (I':=λ_=>False) m) λ_ o=>o.elim
def mw(a:W)(b c d:N)(e:V)(f:I):W:=((aj a b e).setCell c f).setCell d (au T)
def iW.store{v:V}{D:Bool×I×ar}{c:I}{Jj:ar}(m:iW a d e g u D w)(G:aI bb (λh=>h<g+2) w v Jj):iW a d e g v (T,c,Jj) (mw w a d e v c)/\M (λh=>h=a\/h=d\/h=e) w (mw w a d e v c):=by
 have q:∀(o:W) (p:N) (r:V),M (λh=>h=p) o (aj o ⟨p,0,Z⟩ r):=λo p r=>M.grown (bn o ⟨p,0,Z⟩ r) λh f=>X f.symm
 have H:=m.ne;have s:=q w a v;have t:=q (aj w a v) d c;have x:=q ((aj w a v).setCell d c) e (au T);have y:M (λh=>h=a\/h=d\/h=e) w (mw w a d e v c):=((s.mono (O':=λh=>h=a\/h=d) λ_ _ f=>.inl f).trans t I2 (λ_ _ f=>.inr f)).trans x (λ_ _ f=>vF) (λ_ _ f=>.inr (.inr f));refine⟨⟨?_,?_,?_,?_,?_,?_,H,?_⟩,y⟩;exact x.cell (t.cell (bP _ _ _ (by rw[m.b];rfl)) O) O;exact x.cell (bP _ _ _ (by rw[s.cell m.l O];rfl)) O;exact bP _ _ _ (by rw[t.cell (s.cell m.f O) O];rfl);unfold mw;rw[bs,bs,bs];exact m.zb;unfold mw;rw[bs,bs,bs];exact m.zl;unfold mw;rw[bs,bs,bs];exact m.zf;exact G.step y.size (λh K P=>y.block h K (λf=>P (by rcases f with f|f|f<;>omega))) (λh _ f=>f)
def Uk(a:W)(c:I):∃b,a.alloc (az #[c] 3)=b/\B a a b/\b.heap.size=(a:N)+1/\C b a=A (aa ac c)/\aH b a=F:=⟨_,J,aN _ _,D,aE,aE⟩
end
end Go.Proofs.YtdlofedcpibjcaaGreatDoor
