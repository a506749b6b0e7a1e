/- A part of the proof of TopLines: contracts of the functions that it reaches. Conditions: as each states. -/
import Derived.Test.YtdlofedcpibjcaaGreatDoorQ0
import Derived.Test.YtdlofedcpibjcaaGreatDoorA00
namespace Go.Proofs.YtdlofedcpibjcaaGreatDoor
open Go.RowKit Go.Proofs.Tryz
set_option linter.all false
set_option maxRecDepth 100000
set_option maxHeartbeats 25600000
open Go renaming World->W,Value->V,Addr->bQ,Act->a',Oper->bd,Program->cb,Ending->bp,TypeId->bj,Calls->ap
open Go.RowKit renaming Below->B,wrap64->aB,intOf->aw
open Option renaming some->A,none->Z
open Bool renaming true->T,false->F
open Go.Value renaming int->aa,slice->S,pointer->aM,agg->ao,bool->au,string->a7,tuple->aZ,ownBlock->af
open Go.IntKind renaming i64->ac,u64->b1
open Go.Ending renaming returned->aq
open Go.Obj renaming cells->az
open Go.World renaming setCell->aj,cell?->C,frozen?->aH
open List renaming length->L
open Go.Proofs.Tryz renaming prog->ab
open _root_ renaming Int->I,Nat->N,List->E
variable{a b c d e g:N}{w x:W}{i j k l:I}{u v y:V}{p:Prop}
def iz(a:W)(c:I):∃b,a.alloc (az #[c] 3)=b/\B a a b/\b.heap.size=(a:N)+1/\C b a=A (aa ac c):=⟨_,J,aN _ _,D,aE⟩
def ty{b:ad}(c:ay w a u b):∃e f g,u=S e f g:=by rcases bW c with⟨rfl,_⟩|⟨j,k,rfl,_⟩<;>exact⟨_,_,_,J⟩
def Mc{e:V}(f:C w a=A u)(h:C w ⟨a,1,Z⟩=A v)(j:C w ⟨a,2,Z⟩=A y)(l:C w ⟨a,3,Z⟩=A e):ax w a [u,v,y,e]:=by
 intro m n b;match m,b with
  |0,b=>simp at b;subst b;exact f
  |1,b=>simp at b;subst b;exact h
  |2,b=>simp at b;subst b;exact j
  |3,b=>simp at b;subst b;exact l
def Md(bh bk bl bm:I)(bn bo bE:V)(i:ai)(bq:ar)(br:W)(cV:∃bs aG b',bn=S bs aG b')(dA:bt br bo i)(h:bb br bE bq)(dB:cx bq):ap ab 262 #[ao #[bh,bk,bl,bm,bn,bo],ao #[bE]] br λf dC=>∃aI aW,f=aq (aM (A ⟨aI,0,Z⟩))/\hX dC aI bh bk bl bm bn bo bE aW i bq/\B br br dC:=by
 have⟨eY,dD,dE,dF,n⟩:=bR br bh bk bl bm bn bo;have⟨t,dG,cW,eZ,ca⟩:=c8 eY bE;have⟨e0,dH,cX,e1,dI,dK,dL,dM⟩:=Ma t bh bk bl bm bn bo bE;rw[dF]at ca;have cy:=q dE cW;have cY:gp t t bh bk bl bm bn bo bE i bq 0 e0 (S Z 0 0) []:=gp.start dI dK dL dM cX;have cc:=dA.bw cy;have cZ:=h.bw cy;have dN:=n.bw cW;have dO:=Q (λ(j:W) (b c4:I) (R:B t t j)=>lH bh bk bl bm bn bo i b c4 j (cc.bw R));have dP:=Q (λ(j:W) (dQ:V) (c:ag) (R:B t t j) (hp:ba j dQ c) (e2:L c<=1000000000000)=>o9 bh bk bl bm bn bo dQ i c j cV (cc.bw R) hp e2);have cz:=Q (λ(j:W) (R:B t t j)=>dN.bw R);have dR:=Q (λ(j:W) (aW:V) (bF:aP) (ax:gp t t bh bk bl bm bn bo bE i bq (L bq) j aW bF)=>U (ax.done J (cc.bw ax.bw) cV (cZ.bw ax.bw)) (q cy ax.bw));obtain⟨e3,e4,e5,rfl⟩:=cV;obtain⟨e6,e7,e8,rfl,_,_,_⟩:=cc.open;obtain⟨dS,aG,e9,rfl,dT,gq,dV⟩:=cZ.open;have dW:=Q (λ(j:W) (R:B t t j) (aA:N) (e':aA<aG)=>(by have⟨aL,cd,bG,cA,bH,f,aQ,hp⟩:=dV aA e';exact⟨aL,cd,bG,cA,bH,f,s R aQ,hp.bw R⟩:∃aL cd bG cA bH,dS=A ⟨aL,cd,Z⟩/\C j ⟨aL,cd+aA,Z⟩=A (S bG cA bH)/\ba j (S bG cA bH) (ah bq aA)));have dX:=s cX ca;obtain⟨fa,fb,ce,fc,fd,fe⟩:=dN;have dY:(t:N)=(br:N)+2:=O
 change H _ at dD dG dH cY dT dB dX dY;clear n dA h dE cW cX dF eZ e1 dI dK dL dM dV cc cZ cy;go_in;go_upto_region 1 with fail;rw[dD,dG];have ff:H ((br:N)+1<(t:N)):=Q (Y dY.oo);generalize (br:N)+1=gr at*;go_upto_region 2 with fail;rw[dH];have⟨aX,d1⟩:=K (t:N);rw[<-d1]at dO dP cz dR cY dW ff⊢;change H _ at d1;clear fa fb ce fc fd fe ca;have ca:=dX.oo;go_wp2_with fail;clear ca;go_loopw [22] (λaA wr=>∃(v:N) (aW:V) (bF:aP),aA=(v:I)/\v<=aG/\gp aX t bh bk bl bm (S e3 e4 e5) (S e6 e7 e8) (S dS aG e9) i bq v wr aW bF) (λaA _=>aG-(aw aA).toNat);exact⟨0,_,_,J,a3 _,cY⟩;obtain⟨v,aW,bF,rfl,bP,ax⟩:=hrel;obtain⟨bS,rfl⟩:=K wr;by_cases Ch:v<aG
 ·obtain⟨aL,cd,bG,bu,bH,rfl,aQ,hp⟩:=dW bS ax.bw v Ch;have gt:=aJ v;have gu:(v:I)<aG:=by omega
  have⟨c,aY⟩:=K (ah bq v);have cf:L c<=1000000:=by rw[aY];exact dB v
  have⟨g,d2,cB,d3,cC⟩:=d0 bS (S bG bu bH);have⟨c5,c6,cg,d4,fg⟩:=iz g 0;have d5:=ax.lt;have cD:=ax.next cB;have bV:=λ(j:W) (R:B g g j)=>cD.bw.trans (R.mono (iv cD.lt));have fh:=Q (dP.oo c5 (S bG bu bH) c (bV _ cg) (by rw[aY];exact hp.bw (q cB cg)) O);have d6:=hp.bw cB;have⟨_,_,_,d7,d8,_,cE⟩:=d6.open;simp only[bf]at d7;obtain⟨rfl,rfl,rfl⟩:=d7;have d9:ay c5 g (S (A (g:N)) 1 1) [0]:=by rw[<-c6];exact xO g 0
  have⟨w,x,y,a0,a4,a5⟩:=cz g (bV _ (aS _ _));have fi:=λae=>s (aN g ae) w;have fj:=λae=>s (aN g ae) x;have fk:=λae=>s (aN g ae) y;have fl:=λae=>s (aN g ae) a0;have fm:=λae=>s (aN g ae) a4;have fn:=λae=>s (aN g ae) a5;have fo:=λae=>s (aN g ae) cC;rw[<-aY]at cE;have bZ:L c=bu:=by rw[aY];exact d8
  have d':=s cg cC;have cF:H (aX<bS/\(g:N)=(bS:N)+1/\(c5:N)=(g:N)+1):=Q ⟨d5,d3,d4⟩;have fp:H (∀b,af aW=A b->b<(bS:N)):=Q (λb n=>(bI ax.own b n).2);have fq:=Q cD;have fr:=Q d9;change H _ at bV d2 c6 aY cE bZ d' cf cg;clear cD d9;change H _ at cC;clear w x y a0 a4 a5 d3 d4 cB hp d6 fg ax d8 d5;go_upto_region 5 with fail;rw[d2];clear aQ;go_wp2_with fail;rw[c6];refine mU fh λcG c9=>?_;clear fi fj fk fl fm fn fo;have⟨fs,eb,ec,ft,Ew,C7,FM,FN,bv,bx,bz⟩:=xN cG (S Z 0 0) (S Z 0 0) (S (A (g:N)) 1 1) (b2 i c);have cH:=q c9 ec;have ed:=fr.bw cH;have fu:=c9.size;have ee:eW g cG i c 0 0 fs (S Z 0 0) (S Z 0 0) (S (A (g:N)) 1 1):=eW.start Ew C7 FM FN bv bx bz (by rw[show fB c 0=[0]from J];exact ed) (λv bP=>by simp[af]at bP;have:=cF.oo;omega) (Y cF.oo);have ef:=q cg cH;have fv:=s cH d';have gv:H ((g:N)<cG):=Q (Y cF.oo);change H _ at eb ee ef;clear Ew C7 FM FN bv bx bz c9 ec ft cH ed fu;go_upto_region 6 with fail;rw[eb];generalize cG=u at*;go_wp2_with fail;clear fv;go_loopw [9,10,34] (λc' aI aA wr=>∃(e:N) (X ak cI:V),c'=(gi i c e)/\aI=(gj i c e)/\aA=e/\e<=bu/\eW g u i c e e wr X ak cI/\B g g wr) (λ_ _ aA _=>bu-(aw aA).toNat);exact⟨0,_,_,_,J,J,J,a3 _,ee,ef⟩;obtain⟨e,X,ak,cI,rfl,rfl,rfl,gw,l,b0⟩:=hrel;obtain⟨a6,rfl⟩:=K wr;by_cases da:e<bu
  ·obtain⟨gx,gy,rfl,aQ,f1⟩:=cE e da;have aQ:=s b0 aQ;have f1:=s b0 f1;have gz:=aJ e;have gA:(e:I)<bu:=by omega
   have⟨⟨cJ,bJ⟩,cK⟩:=K (al c e);rw[<-cK]at aQ f1;simp only at aQ f1;have⟨aR,eg,eh,fx,ei,b3⟩:=eU a6 cJ bJ;have ej:=l.next eh;have fy:H (∀b,(af X=A b\/af ak=A b\/af cI=A b)->b<(a6:N)):=Q (λb n=>by rcases n with f|f|f;exact(l.o0.lt b f).2;exact(l.o1.lt b f).2;exact(l.o2.lt b f).2);have fz:H (u<(a6:N)):=Q l.lt;have bA:=b0.trans (eh.mono b0.size);have⟨bK,ch⟩:=K (gi i c (e+1));have⟨a8,ci⟩:=K (gj i c (e+1));have db:=s bA cC;have⟨w,x,y,a0,a4,a5⟩:=cz aR (bV _ bA);have ek:=Q (λ(j:W) (b c4:I) (R:B aR aR j)=>dO j b c4 (bV _ (bA.trans (R.mono bA.size))));have el:=Q (λ(j:W) (R:B aR aR j)=>cz j (bV _ (bA.trans (R.mono bA.size))));have fC:=Q ej;have dc:=Q bA;change H _ at eg cK ch ci;clear ej bA;clear l b0 fx;go_upto_region 10 with fail;rw[eg];go_upto_if 40 with fail;go_cut [9,10] (λc' aI cj=>c'=bK/\aI=a8/\B aR aR cj);case first=>
    rcases Nat.eq_zero_or_pos e with em|em;·subst em;clear aQ f1 ei b3 db w x y a0 a4 a5;go_wp2;go_meet;exact⟨by rw[ch];rfl,by rw[ci];rfl,aS _ _⟩
    obtain⟨G,rfl⟩:∃G,e=G+1:=⟨e-1,O⟩
    have⟨_,_,f,a9,_⟩:=cE G O;simp only[a2,bN,bT]at f;obtain⟨rfl,rfl⟩:=f;have a9:=s dc a9;have⟨en,cL⟩:=K ((al c G).1);rw[<-cL]at a9;have dd:cJ=(al c (G+1)).1:=by rw[<-cK]
    have de:bK=aB (gi i c (G+1)+bC i (aB (en+1)) (aB (cJ+1))):=by rw[ch,cL,dd];rfl
    have df:a8=aB (gj i c (G+1)+bC i (aB (cJ+1)) (aB (en+1))):=by rw[ci,cL,dd];rfl
    change H _ at cL dd de df;have⟨gB,eo⟩:=K (gi i c (G+1));have⟨gC,ep⟩:=K (gj i c (G+1));rw[<-eo]at de⊢;rw[<-ep]at df⊢;change H _ at eo ep;have dg:decide ((0:I)<((G+1:N):I))=T:=by simp only[ez];omega
    have dh:decide (0<G+1)=T:=D
    have gD:=aJ G;have gE:(G:I)<bu:=O
    have gF:IntKind.i64.wrap (G:I)=G:=hf _ (bi cf.oo bZ.oo);clear aQ f1;go_upto_region 11 with fail;refine fw ((.p 0 (.p 2 (.p 3 (.p 8 (.r 1 (.p 4 (.p 5 (.r 6 (.p 7 (.p 11 (.r 9 (.p 10 (.p 12 .d)))))))))))))) (dp aR) aT aT (λ_ _ Jy _ _ h=>fT) (.mk (an _)) ?_;iterate 13 refine mS ?_
    refine gc ?_;have⟨eq,di⟩:=K aR.drew;rw[<-di];have dj:B aR aR eq:=by rw[di];exact an _
    clear db w x y a0 a4 a5 di;have⟨w,x,y,a0,a4,a5⟩:=el eq dj;go_wp2_with fail;refine mU (ek _ _ _ dj) λfD fE=>?_;have dk:=q dj fE;clear w x y a0 a4 a5;have⟨w,x,y,a0,a4,a5⟩:=el fD dk;go_wp2_with fail;refine mU (ek _ _ _ dk) λgG fF=>?_;have fG:=q dk fF;clear w x y a0 a4 a5;go_wp2;go_meet;exact⟨by rw[de],by rw[df],fG⟩
   obtain⟨rfl,rfl,dl⟩:=hcut;have er:=fC.next dl;have es:=dc.trans (dl.mono dc.size);have b3:=s dl b3;have cM:=Q (LF i c e);have cN:=Q (LG i c e);have fH:=Q (LH c e);rw[<-ch]at cM;rw[<-ci]at cN;have et:fA c (e+1)=aB (fA c e+bJ):=by rw[show bJ=(al c e).2 by rw[<-cK]];rfl
   have dm:H ((gl i c e).length+1<=1000000000000):=Q (by simp[gl];have:=cf.oo;have:=bZ.oo;omega);have dn:H ((gm i c e).length+1<=1000000000000):=Q (by simp[gm];have:=cf.oo;have:=bZ.oo;omega);have b5:=Q er;have fI:=Q es;have eu:=Q et;clear er es et;clear aQ f1 ei db w x y a0 a4 a5;go_upto_region 14 with fail;go_cut [] (λcj=>∃dq dr,eW g u i c (e+1) e cj dq dr cI/\B g g cj/\C cj ⟨a6,1,Z⟩=A (aa ac bJ));case first=>
    have⟨k,am⟩:=K wc.drew;have aC:B wc wc k:=by rw[am];exact an _
    have o:=b5.next aC;have ds:¬(af X=A u\/af ak=A u):=λf=>by rcases f with f|f;exact o.ne u (.inl f) J;exact o.ne u (.inr (.inl f)) J
    have a9:=P2.start o.o0 o.o1 o.xJ;have fJ:=b5.c0;have fK:=b5.c1;have Hb:=bU.cell (G:=λb=>af X=A b\/af ak=A b) o.c0 ds;have Hc:=bU.cell (G:=λb=>af X=A b\/af ak=A b) o.c1 ds;have ev:∀b,(af X=A b\/af ak=A b)->(g:N)<=b:=λb n=>by rcases n with f|f;exact(o.o0.lt b f).1;exact(o.o1.lt b f).1
    have b6:H ((g:N)<=k):=Q o.size;have He:H (∀(j:W) (bs aL:V),M (λb=>af X=A b\/af ak=A b) k j->((aj j ⟨u,0,Z⟩ bs).setCell ⟨u,1,Z⟩ aL).cell? ⟨a6,1,Z⟩=A (aa ac bJ)):=Q (λj bs aL bP=>by have gH:=fz.oo;rw[cq _ _ _ _ (by first|(simp;done)|(simp;omega)),cq _ _ _ _ (by first|(simp;done)|(simp;omega))];exact bP.cell (s aC b3) (λf=>Y (fy.oo (a6:N) vF)));have Hd:H (∀(j:W) (bs aL:V),M (λb=>af X=A b\/af ak=A b) k j->B g g ((aj j u bs).setCell ⟨u,1,Z⟩ aL)):=Q (λj bs aL bP=>fI.trans ((((aC.mono b5.size).trans (bP.bg o.size λb n f=>Y (ev b f))).setCell (p:=⟨u,0,Z⟩) b5.gs _).setCell (p:=⟨u,1,Z⟩) b5.gs _));have CN:=Q o;have DR:=Q ds;have⟨b7,cO,aD,ex,b8⟩:=iz k bK;have⟨fL,fM,ck,fN,fO⟩:=iz k a8;have⟨fP,fQ,cl,gI,ey⟩:=iz b7 a8;have⟨fR,fS,cm,gJ,eA⟩:=iz fL bK;have fU:=s cl b8;have fV:=s cm fO;rw[ex]at ey;rw[fN]at eA;have fW:(k:N)=wc:=by rw[am];rfl
    have eB:∀b,af X=A b->b<(k:N):=λb n=>(o.o0.lt b n).2;clear o aC ev fJ fK;refine fw ((.p 0 (.p 2 (.p 5 (.p 7 (.r 1 (.r 6 (.f 3 (.f 4 (.p 10 (.a 8 (.z 9 (.z 11 (.p 12 (.z 13 .d)))))) 8 (.a 4 (.p 10 (.z 9 (.z 11 (.p 12 (.z 13 .d))))))) 8 (.a 3 (.a 4 (.p 10 (.z 9 (.z 11 (.p 12 (.z 13 .d))))))))))))))) (dU (λb=>af X=A b\/af ak=A b) k) aT aT (λ_ _ Jy _ _ h=>fT) (.mk (by rw[<-am];exact M.refl _ _)) ?_;rw[<-am];clear am fW;iterate 6 refine mS ?_
    refine gN (λad B8=>?_) (λad B8=>?_)
    ·go_simp;try rw[cO]
     refine B8 _ _ (.mk (M.bw aD)) ?_;refine gN (λad B8=>?_) (λad B8=>?_)
     ·refine kB (.tmp 65) (.tmp 67) J b7 g X (gl i c e) bK k J J b8 (a9.next aD).o0 dm (a1 b6 aD.size) ?_;intro g1 bB b9 bD bL cn _;rw[<-cM]at bD;have aE:=(a9.next aD).sj bD bL cn;refine B8 _ _ (.mk aE.aO) ?_;refine mS ?_;refine aU λad B8=>?_;go_simp;have⟨fX,fY,fZ,gK,co⟩:=iz b9 a8;try rw[fY]
      have cP:=aE.next fZ;refine B8 _ _ (.mk cP.aO) ?_;refine b4 λad B8=>?_;refine kB (.tmp 70) (.tmp 72) J fX g ak (gm i c e) a8 b9 J J co cP.o1 dn (a1 b6 cP.aO.size) ?_;intro g2 bc cp aF P aV _;rw[<-cN]at aF;have CA:=cP.vj aF P aV;exact sH
     go_simp;try rw[fQ]
     refine B8 _ _ (.mk (M.bw (q aD cl))) ?_;refine aU λad B8=>?_;refine kB (.tmp 65) (.tmp 67) J fP g X (gl i c e) bK k J J fU (a9.next (q aD cl)).o0 dm (a1 b6 (q aD cl).size) ?_;intro g1 bB b9 bD bL cn _;rw[<-cM]at bD;have aE:=(a9.next (q aD cl)).sj bD bL cn;have co:=bL.cell ey (λf=>by have:(k:N)+1<(k:N):=eB _ f.symm;omega);refine B8 _ _ (.mk aE.aO) ?_;refine mS ?_;refine b4 λad B8=>?_;refine kB (.tmp 70) (.tmp 72) J b9 g ak (gm i c e) a8 ((k:N)+1) J J co aE.o1 dn (a1 b6 aE.aO.size) ?_;intro g2 bc cp aF P aV _;rw[<-cN]at aF;have CA:=aE.vj aF P aV;exact sH
    go_simp;try rw[fM]
    refine B8 _ _ (.mk (M.bw ck)) ?_;refine aU λad B8=>?_;go_simp;try rw[fS]
    refine B8 _ _ (.mk (M.bw (q ck cm))) ?_;refine aU λad B8=>?_;refine kB (.tmp 65) (.tmp 67) J fR g X (gl i c e) bK ((k:N)+1) J J eA (a9.next (q ck cm)).o0 dm (a1 b6 (q ck cm).size) ?_;intro g1 bB b9 bD bL cn _;rw[<-cM]at bD;have aE:=(a9.next (q ck cm)).sj bD bL cn;have co:=bL.cell fV (λf=>by have:(k:N)<k:=eB _ f.symm;omega);refine B8 _ _ (.mk aE.aO) ?_;refine mS ?_;refine b4 λad B8=>?_;refine kB (.tmp 70) (.tmp 72) J b9 g ak (gm i c e) a8 k J J co aE.o1 dn (a1 b6 aE.aO.size) ?_;intro g2 bc cp aF P aV _;rw[<-cN]at aF;have CA:=aE.vj aF P aV;exact sH
   obtain⟨dq,dr,l,dt,b3⟩:=hcut;obtain⟨bM,rfl⟩:=K wc;have du:(fB c e).length=e+1:=by simp[fB]
   obtain⟨dv,dw,rfl,f3,f4,eC,eD⟩:=l.o2.out O;have eE:=(eD e O).1;rw[bX,xw O]at eE;rw[du]at eC;have⟨cQ,eF⟩:=K (e+1);have l:eW g u i c (e+1) e bM dq dr (S (A dv) cQ dw):=by have eG:=l;rw[du]at eG;rw[eF];exact eG
   have gL:(e:I)<cQ:=O
   have ce:=l.c2;have⟨k,am⟩:=K bM.drew;have aC:B bM bM k:=by rw[am];exact an _
   have o:=l.next aC;have⟨b7,cO,aD,ex,b8⟩:=iz k (aB (fA c e+bJ));have be:=o.next aD;have f5:H (B bM bM b7):=Q (q aC aD);have eH:=dt.trans ((aC.mono dt.size).trans (aD.mono o.size));have f6:H ((fB c e).length+1<=1000000000000):=Q (bi cf.oo bZ.oo);have eI:H ((g:N)<=b7):=Q be.size;rw[<-eu]at b8 cO;have f8:=Q eH;change H _ at eF;clear eH;change H _ at du;clear l dt f3 f4 eC eD o aC;go_upto_region 15 with fail;refine fw ((.p 0 (.p 2 (.p 4 (.p 7 (.r 1 (.r 3 (.p 5 (.r 6 (.r 8 (.p 9 (.a 10 (.z 11 (.p 12 (.z 13 .d))))))))))))))) (dp bM) aT aT (λ_ _ Jy _ _ h=>fT) (.mk (an _)) ?_;rw[<-am];clear am;iterate 10 refine mS ?_
   rw[show IntKind.i64.wrap (fA c e+bJ)=fA c (e+1)from by rw[dJ];exact eu.symm];refine aU λad B8=>?_;go_simp;try rw[cO]
   refine B8 _ _ (.mk f5) ?_;clear ce eE b3;refine b4 λad B8=>?_;refine kB (.tmp 77) (.tmp 86) J b7 g (S (A dv) cQ dw) (fB c e) (fA c (e+1)) k J J b8 be.o2 f6 eI ?_;intro g2 bc cp aF P aV _;rw[<-fH]at aF;have m:=be.one aF P aV;have eJ:(S (A dv) cQ dw).ownBlock≠A u:=λf=>be.ne u (.inr (.inr f)) J;have FM:=P.cell be.c2 (λf=>eJ f.symm);have FN:=eS P be.lt (λf=>eJ f.symm) be.f2;have eK:=(f8.grown P eI (λb n=>(be.o2.lt b n).1)).setCell (p:=⟨u,2,Z⟩) be.gs (S (A g2) ((fB c e).length+1) bc);change H _ at m eK;refine B8 _ _ ?_;clear P aV aF be b8;iterate 2 refine mS ?_
   refine gc ?_;clear FM FN;go_wp2;go_roundw;case rel=>exact⟨e+1,_,_,_,by rw[ch],by rw[ci],aK,O,m,eK⟩
   simp only[aw];first|exact dZ da|exact ea da O
  have f9:e=bu:=O
  subst f9;have⟨k,am⟩:=K a6.drew;have aC:B a6 a6 k:=by rw[am];exact an _
  obtain⟨w,cr,bv,rfl⟩:=ty l.o0;obtain⟨x,bB,bx,rfl⟩:=ty l.o1;obtain⟨y,bc,bz,rfl⟩:=ty l.o2;have cR:=fq.next b0;have dx:=l;rw[<-bZ]at dx;obtain⟨cs,ct,cu,f'⟩:∃bs aG b',aW=S bs aG b':=by rcases bW cR.own with⟨rfl,_⟩|⟨aI,gM,rfl,_⟩<;>exact⟨_,_,_,J⟩
  subst f';have ga:=cR.c7;have Ew:=l.c0;have C7:=l.c1;have FM:=l.c2;have FN:=l.c3;have⟨dy,gb,eL,gd,eM,dg,dh,eN,_,_,_⟩:=xN k (S w cr bv) (S x bB bx) (S y bc bz) (b2 i c);have cS:=q aC eL;have cT:=cR.next cS;have bO:=dx.next cS;have ge:=Q (Mc eM dg dh eN);have gO:=cF.oo;have eO:=bO.o0.mono (B':=aX+1) O;have eQ:=bO.o1.mono (B':=aX+1) O;have eR:=bO.o2.mono (B':=aX+1) O;have eT:∀b,((S w cr bv).ownBlock=A b\/(S x bB bx).ownBlock=A b\/(S y bc bz).ownBlock=A b)->(S cs ct cu).ownBlock≠A b:=λb n f=>by have cv:=fp b f;rcases n with n|n|n;have:=(bO.o0.lt b n).1;omega;have:=(bO.o1.lt b n).1;omega;have:=(bO.o2.lt b n).1;omega
  have cU:=Q (λ(aI b':N) (j:W) (cv:j.ownsRow (aX+1) 368 4 (S (A ⟨aI,0,Z⟩) (v+1) b') (v+1) (bF++[S w cr bv,S x bB bx,S y bc bz,(b2 i c)])) (gf:dy.grownBy j (S cs ct cu).ownBlock) (gg:(S cs ct cu).ownBlock=A aI\/aI=dy)=>cT.adB (X9:=S w cr bv) (X':=S x bB bx) (Ya:=S y bc bz) (by rw[<-aY];exact cv) gf gg (by rw[<-aY];exact eO) (by rw[<-aY];exact eQ) (by rw[<-aY];exact eR) eT);rw[<-aY]at cU;have cw:=Q cT;have dz:(S cs ct cu).ownBlock≠A aX:=λf=>Y ((bI cT.own aX f).1)
  change H _ at cS dz;clear l dx cR bO eO eQ eR eT eM dg dh eN gd eL aC cT;go_upto_region 17 with fail;refine fw ((.p 0 (.p 1 (.p 2 (.p 3 (.r 4 (.r 5 (.a 6 (.z 7 (.p 8 (.p 9 (.z 10 .d)))))))))))) (dp a6) aT aT (λ_ _ Jy _ _ h=>fT) (.mk (an _)) ?_;rw[<-am];clear am;iterate 6 refine mS ?_
  refine aU λad B8=>?_;go_simp;try rw[gb]
  refine B8 _ _ (.mk cS) ?_;clear ga Ew C7 FM FN;refine b4 λad B8=>?_;refine iy (.tmp 94) (.tmp 96) 364 368 _ 4 80 underlying364 Mb J av av J dy (aX+1) (S cs ct cu) v bF [S w cr bv,S x bB bx,S y bc bz,(b2 i c)] k J J ge J (by intro G eV;simp at eV;rcases eV with rfl|rfl|rfl|rfl<;>rfl) cw.own O (Y cw.lt) ?_;intro g2 ce cp cv P aV _;have eX:=cU g2 ce cp cv P aV;have gh:=P.cell cw.c7 (λf=>dz f.symm);have gn:=eS P cw.lt (λf=>dz f.symm) cw.f7;have cU:=Q eX;clear eX;refine B8 _ _ ?_;clear P aV cv;iterate 3 refine mS ?_
  refine gc ?_;clear gh gn;go_wp2;go_roundw;case rel=>exact⟨v+1,_,_,aK,O,cU⟩
  exact bY
 have go:v=aG:=O
 subst go;have m:=dR bS aW bF (by rw[dT];exact ax);change H _ at m;clear ax;go_wp2;go_ret;exact⟨aX,aW,J,m.1,m.2⟩
def pm(a:ai)(b c:I):I:=aB (aB (bC a (aB (b+1)) 0+bC a 0 (aB (c+1)))-bC a (aB (b+1)) (aB (c+1)))
def Me(i j k l:I)(c d:V)(m:ai)(e r:I)(a:W)(y:∃e z D,c=S e z D)(n:bt a d m):ap ab 303 #[ao #[i,j,k,l,c,d],(e:I),r] a (fW a (pm m e r)):=by
 have⟨s,t,f,G,K⟩:=bR a i j k l c d;have o:=Q (λM O P R=>lH i j k l c d m O P M ((n.bw f).bw R));obtain⟨am,ar,av,rfl⟩:=y;obtain⟨ax,ay,aA,rfl,_,_,_⟩:=n.open;obtain⟨U,X,Y,ad,ae,ag⟩:=K;have ah:(a:N)<=s:=f.size;have ak:=Q f;change H _ at t;clear f;clear G n;go_in;go_upto_region 1 with fail;rw[t];refine bv [1,2,5,6,10,11,12,13,100,104,109,203,207,8,214,15,16] ?_;iterate 11 refine mS ?_
 simp only[dJ];refine aU λu b=>?_;go_simp;refine mU (o _ _ _ (an _)) λaC v=>?_;have g:=q (an s) v;refine b _ _ (.mk g) ?_;refine aU λu b=>?_;go_simp;refine mU (o _ _ _ g) λaD w=>?_;have h:=q g w;refine b _ _ (.mk h) ?_;refine mS ?_;refine aU λu b=>?_;go_simp;refine mU (o _ _ _ h) λaE x=>?_;have p:=q h x;refine b _ _ (.mk p) ?_;clear U X Y ad ae ag;iterate 2 refine mS ?_
 refine bc ?_;have al:=ak.trans (p.mono ah);clear v w x g h p;go_wp2;go_ret;exact⟨by simp only[dJ];rfl,al⟩
def m'(a b:I):I:=if a=0 then b else a
def Mf(l:V)(a b:I)(g:W)(c:aX g l [a,b]):ap ab 313 #[l] g λd q=>d=aq (m' a b)/\q=g:=by
 obtain⟨t,r,u,rfl,h,_,i⟩:=c.open;have h:r=2:=X h.symm
 subst h;obtain⟨v,w,rfl,m⟩:=i 0 O;have⟨_,_,d,f1⟩:=i 1 O;simp only[a2,bN,bT]at d;obtain⟨rfl,rfl⟩:=d;have n:ae [a,b] 0=a:=J;have o:ae [a,b] 1=b:=J;rw[n]at m;rw[o]at f1;simp only[eX]at m;clear c i n o;go_in;go_wp2;go_loopw [8] (λj wr=>∃e:N,j=(e:I)/\e<=2/\(0<e->a=0)/\(1<e->b=0)/\wr=g) (λj _=>2-(aw j).toNat);exact⟨0,J,O,λc=>absurd c O,λc=>absurd c O,J⟩;obtain⟨e,rfl,s,k,p,rfl⟩:=hrel;match e,s with
  |0,_=>
   by_cases ha:a=0
   ·have d:(a !=0)=F:=by simpa using ha
    go_wp2;go_roundw;case rel=>exact⟨1,aK,O,λ_=>ha,λc=>absurd c O,trivial⟩
    simp[aw]
   have d:(a !=0)=T:=X ha
   have B6:H (m' a b=a):=Q (ak ha);exact mQ
  |1,_=>
   have ha:=k O;have B6:H (m' a b=b):=Q (am ha);by_cases f:b=0
   ·have d:(b !=0)=F:=by simpa using f
    go_wp2;go_roundw;case rel=>exact⟨2,aK,O,λ_=>ha,λ_=>f,trivial⟩
    simp[aw]
   have d:(b !=0)=T:=X f
   exact mQ
  |2,_=>have ha:=k O;have f:=p O;have B6:H (m' a b=0):=Q ((am ha).trans f);clear k p ha f;exact mQ
def Mg(a:W)(c d:I):∃b,a.alloc (az #[c,d] 3)=b/\B a a b/\b.drawn=a.drawn/\aX b (S (A (a:N)) 2 2) [c,d]:=
 ⟨_,J,aN _ _,J,_,2,J,D,D,λe f=>⟨(a:N),0,J,by
  match e,f with
   |0,_=>simp[go_sem,ae]
   |1,_=>simp[go_sem,ae]⟩⟩
def oe(a:ad)(b c:N):I:=m' (Lib.compareInt (ae a b) (ae a c)) (Lib.compareInt b c)
def Mh(l:N)(m:V)(c:ad)(a b:N)(d:W)(n:aX d m c)(D:C d l=A m)(G:a<L c)(M:b<L c):ap ab 312 #[a,b,aM (A l)] d λf o=>f=aq (oe c a b)/\B d d o/\d.drawn<=o.drawn:=by
 obtain⟨U,p,X,rfl,r,_,g⟩:=n.open;obtain⟨Y,ag,rfl,s⟩:=g a O;have⟨_,_,f,f1⟩:=g b O;simp only[a2,bN,bT]at f;obtain⟨rfl,rfl⟩:=f;have h:H (oe c a b=m' (Lib.compareInt (ae c a) (ae c b)) (Lib.compareInt a b)):=Q J;generalize oe c a b=ah at*;have⟨t,u⟩:=K (ae c a);have⟨v,w⟩:=K (ae c b);rw[<-u]at s h;rw[<-w]at f1 h;rw[r]at G M;have ai:=aJ a;have ak:(a:I)<p:=O
 have al:=aJ b;have am:(b:I)<p:=O
 clear n g r u w;go_in;go_upto_region 1 with fail;refine bv [1,5,9,10,100,2,103,104,6,107,208,211,212,213,14] ?_;iterate 10 refine mS ?_
 refine aU λi e=>?_;go_simp;refine mR (cmp_Compare_int t v d.drew) ?_;refine e _ _ (.mk (an _)) ?_;refine aU λi e=>?_;go_simp;refine mR (cmp_Compare_int a b d.drew) ?_;refine e _ _ (.mk (an _)) ?_;have⟨j,x,y,ar,z⟩:=Mg d (Lib.compareInt t v) (Lib.compareInt a b);have k:=q y (an j);have P:=Q (Mf _ _ _ j.drew (z.bw (an _)));clear y z;refine aU λi e=>?_;go_simp;try rw[x]
 refine e _ _ (.mk k) ?_;refine aU λi e=>?_;go_simp;refine mR P ?_;refine e _ _ (.mk k) ?_;clear D s f1;refine mS ?_;refine bc ?_;have R:d.drawn<=j.drew.drawn:=by simp only[World.drew];omega
 clear x;go_wp2;go_ret;rw[h];exact⟨J,k,R⟩
section
def cs(Yf:W)(Yj:N)(Yk:I->Option I):Prop:=∃b e,Yf.heap[Yj]? =A (.map b e)/\(∀a∈b.toList,∃c d,a.key=(c:I)/\a.val=(d:I))/\(b.toList.map (·.key)).Nodup/\∀c d,Yk c=A d↔∃a∈b.toList,a.key=(c:I)/\a.val=(d:I)
def cs.lt{Yf:W}{Yj:N}{Yk:I->Option I}(a:cs Yf Yj Yk):Yj<Yf:=by obtain⟨c,d,b,_⟩:=a;exact(bM.1 b).1
def cs.block{Yf a:W}{Yj:N}{Yk:I->Option I}(b:cs Yf Yj Yk)(c:a.heap[Yj]? =Yf.heap[Yj]?):cs a Yj Yk:=by obtain⟨d,e,f,g⟩:=b;exact⟨d,e,c.trans f,g⟩
def cs.aO{I':aD}{Yf a:W}{Yj:N}{Yk:I->Option I}(b:cs Yf Yj Yk)(c:M I' Yf a)(d:¬I' Yj):cs a Yj Yk:=b.block (c.block Yj b.lt d)
def cs.bw{Yf Kx:W}{Yj:N}{Yk:I->Option I}(a:cs Yf Yj Yk)(b:B Yf Yf Kx):cs Kx Yj Yk:=a.block (b.block Yj a.lt)
def cs.new(Yf:W):cs (Yf.alloc (.map #[] 0)) Yf (λ_=>Z):=⟨#[],0,heap_alloc_last Yf _,D,D,D⟩
open Go.MapKept in
def tz{JP:IntKind}(b:Int)(c:List MapEntry)(q:∀a∈c,∃b i,a.key= .int .i64 b/\a.val= .int .i64 i):(Instr.findNow (.int JP) (.int .i64 b) c 0=some none/\∀d∈c,d.key≠.int .i64 b)\/∃e a,Instr.findNow (.int JP) (.int .i64 b) c 0=some (some (e,a.val))/\c[e]? =some a/\a.key= .int .i64 b:=by
 have r:∀(c:List MapEntry) (f:Nat),(∀a∈c,∃b i,a.key= .int .i64 b/\a.val= .int .i64 i)->(Instr.findNow (.int JP) (.int .i64 b) c f=some none/\∀d∈c,d.key≠.int .i64 b)\/∃e a,Instr.findNow (.int JP) (.int .i64 b) c f=some (some (f+e,a.val))/\c[e]? =some a/\a.key= .int .i64 b:=by
  intro c;induction c with
   |nil=>intro f _;exact .inl ⟨rfl,D⟩
   |cons a c s=>
    intro f n;obtain⟨o,w,g,x⟩:=n a (List.mem_cons_self ..);by_cases j:b=o;subst j;exact .inr ⟨0,a,by simp[Instr.findNow,Instr.sameNow,g],rfl,g⟩;have t:a.key≠.int .i64 b:=λk=>by rw[g]at k;simp at k;exact j k.symm
    have p:(b==o)=false:=X j
    rcases s (f+1) (λd h=>n d (List.mem_cons_of_mem _ h))with⟨l,m⟩|⟨e,u,l,m,v⟩;exact .inl ⟨by simp[Instr.findNow,Instr.sameNow,g,p,l],λd h=>by rcases List.mem_cons.1 h with rfl|h;exact t;exact m d h⟩;exact .inr ⟨e+1,u,by simp[Instr.findNow,Instr.sameNow,g,p,l];omega,X m,v⟩
 simpa using r c 0 q
section
variable{Ye:cb}{Yf:W}{Yg Yh Yi:bj}{Yj:N}{Yk:I->Option I}
def iA(a:Ye.underlying Yh=some (.int .i64))(b:Bool)(c:Int):(Instr.checkKey b 10000 Yh (.int .i64 c)).run Ye Yf= .ok () Yf:=by unfold Instr.checkKey;simp[run_underlying a,Result.andThen]
def cs.look(n:cs Yf Yj Yk)(a:Int):∃c h,Yf.heap[Yj]? =some (.map c h)/\((Yk a=none/\Instr.findNow (.int .i64) (.int .i64 a) c.toList 0=some none/\∀o∈c.toList,o.key≠.int .i64 a)\/∃f b d,Yk a=some d/\Instr.findNow (.int .i64) (.int .i64 a) c.toList 0=some (some (f,.int .i64 d))/\c.toList[f]? =some b/\b.key= .int .i64 a/\b.val= .int .i64 d):=by
 obtain⟨c,h,p,j,t,k⟩:=n;refine⟨c,h,p,?_⟩;rcases tz (JP:=.i64) a c.toList j with⟨g,e⟩|⟨f,b,g,e,l⟩;left;refine⟨?_,g,e⟩;cases q:Yk a with
  |none=>rfl
  |some d=>obtain⟨b,r,s,_⟩:=(k a d).1 q;exact absurd s (e b r)
 right;have m:=List.mem_of_getElem? e;obtain⟨_,d,_,i⟩:=j b m;rw[i]at g;exact⟨f,b,d,(k a d).2 ⟨b,m,l,i⟩,g,e,l,i⟩
def cs.lookup(c:cs Yf Yj Yk)(f:Ye.underlying Yg=some (.map Yh Yi))(a:Ye.underlying Yh=some (.int .i64))(i:∀g:World,(zeroValue Yi).run Ye g= .ok (.int .i64 0) g)(b:Int):(Instr.lookup Yg (.map (some Yj)) (.int .i64 b) true).run Ye Yf= .ok (.tuple #[.int .i64 ((Yk b).getD 0),.bool (Yk b).isSome]) Yf:=by obtain⟨j,k,h,c⟩:=c.look b;unfold Instr.lookup;rcases c with⟨d,e,_⟩|⟨l,m,n,d,e,_⟩;simp[run_underlying f,Result.andThen,MapKept.run_getObj_map h,iA a,MapKept.run_findKey a e,i,d];simp[run_underlying f,Result.andThen,MapKept.run_getObj_map h,iA a,MapKept.run_findKey a e,d]
def cs.BB(b:cs Yf Yj Yk)(f:Ye.underlying Yg=some (.map Yh Yi))(a:Ye.underlying Yh=some (.int .i64))(i:∀g:World,(zeroValue Yi).run Ye g= .ok (.int .i64 0) g)(c:Int):(Instr.lookup Yg (.map (some Yj)) (.int .i64 c) false).run Ye Yf= .ok (.int .i64 ((Yk c).getD 0)) Yf:=by obtain⟨j,k,h,b⟩:=b.look c;unfold Instr.lookup;rcases b with⟨d,e,_⟩|⟨l,m,n,d,e,_⟩;simp[run_underlying f,Result.andThen,MapKept.run_getObj_map h,iA a,MapKept.run_findKey a e,i,d];simp[run_underlying f,Result.andThen,MapKept.run_getObj_map h,iA a,MapKept.run_findKey a e,d]
def fe(Yf:W)(Yj:N)(a:Obj):W:={Yf with heap:=Yf.heap.setIfInBounds Yj a}
def lW(Yf:W)(Yj:N)(b:Obj):M (λa=>a=Yj) Yf (fe Yf Yj b):=⟨J,J,J,by simp[fe],λa _ c=>by simp[fe,Ne.symm c]⟩
def lX{Kw:W}{Js:N}{J3:Obj}(a:Js<Kw):(fe Kw Js J3).heap[Js]? =A J3:=by simp[fe,a]
def cs.update(H:cs Yf Yj Yk)(K:Ye.underlying Yg=some (.map Yh Yi))(n:Ye.underlying Yh=some (.int .i64))(d k:Int):∃r,(Instr.mapUpdate Yg (.map (some Yj)) (.int .i64 d) (.int .i64 k)).run Ye Yf= .ok () r/\cs r Yj (λe=>if e=d then some k else Yk e)/\M (λf=>f=Yj) Yf r:=by
 have O:=H.lt;obtain⟨g,s,o,t,u,P⟩:=H;rcases tz (JP:=.i64) d g.toList t with⟨v,j⟩|⟨e,p,v,j,q⟩;refine⟨fe Yf Yj (.map (g.push {key:=.int .i64 d,val:=.int .i64 k,born:=s}) (s+1)),?_,⟨_,_,lX O,?_,?_,?_⟩,lW _ _ _⟩;unfold Instr.mapUpdate;simp[run_underlying K,Result.andThen,MapKept.run_getObj_map o,iA n,MapKept.run_findKey n v,MapKept.run_setObj_map _ o,fe];intro b a;rw[Array.toList_push,List.mem_append,List.mem_singleton]at a;rcases a with a|rfl;exact t b a;exact⟨d,k,rfl,rfl⟩;rw[Array.toList_push,List.map_append,List.nodup_append];refine⟨u,D,λar ha av Q p=>?_⟩;simp at Q;subst Q;obtain⟨b,a,y⟩:=List.mem_map.1 ha;exact j b a (y.trans p);intro z U;rw[Array.toList_push];by_cases l:z=d;subst l;simp only[if_true,Option.some.injEq,List.mem_append,List.mem_singleton];constructor;rintro rfl;exact⟨_,.inr rfl,rfl,rfl⟩;rintro⟨b,a|rfl,c,i⟩;exact absurd c (j b a);simpa using i;simp only[if_neg l,List.mem_append,List.mem_singleton];rw[P];constructor;rintro⟨b,a,c,i⟩;exact⟨b,.inl a,c,i⟩;rintro⟨b,a|rfl,c,i⟩;exact⟨b,a,c,i⟩;simp at c;exact absurd c.symm l;have R:e<g.size:=by have:=(List.getElem?_eq_some_iff.1 j).1;simpa using this
 have y:g[e]? =some p:=by rw[<-Array.getElem?_toList];exact j
 have G:(g.modify e λb=>{b with key:=.int .i64 d,val:=.int .i64 k}).toList=g.toList.set e {p with key:=.int .i64 d,val:=.int .i64 k}:=by rw[Array.toList_modify,List.modify_eq_set];rw[j];rfl
 have Y:∀f b,g.toList[f]? =some b->b.key= .int .i64 d->f=e:=λf b h a=>by
  obtain⟨ad,ae⟩:=(List.getElem?_eq_some_iff.1 h)
  obtain⟨ag,ah⟩:=(List.getElem?_eq_some_iff.1 j)
  have ai:(g.toList.map (·.key))[f]'(X ad)=(g.toList.map (·.key))[e]'(X ag):=by simp only[List.getElem_map,ae,ah,a,q]
  exact(List.getElem_inj u).1 ai
 refine⟨fe Yf Yj (.map (g.modify e λb=>{b with key:=.int .i64 d,val:=.int .i64 k}) s),?_,⟨_,_,lX O,?_,?_,?_⟩,lW _ _ _⟩;have ak:(Instr.keyThatStays (((g[e]?).map (·.key)).getD (.int .i64 d)) (.int .i64 d)).run Ye Yf= .ok (.int .i64 d) Yf:=by rw[y];simp[Instr.keyThatStays,q,Instr.sameBits]
 unfold Instr.mapUpdate;simp[run_underlying K,Result.andThen,MapKept.run_getObj_map o,iA n,MapKept.run_findKey n v,MapKept.run_setObj_map _ o,fe,ak];intro b a;rw[G]at a;rcases List.mem_or_eq_of_mem_set a with a|rfl;exact t b a;exact⟨d,k,rfl,rfl⟩;rw[G,List.map_set];have:(g.toList.map (·.key)).set e (.int .i64 d)=g.toList.map (·.key):=by apply List.ext_getElem?;intro f;rw[List.getElem?_set];split;rename_i m;subst m;simp only[List.length_map];rw[if_pos (X R),List.getElem?_map,j];simp[q];rfl
 show((g.toList.map (·.key)).set e (.int .i64 d)).Nodup;rw[this];exact u;intro z U;rw[G];by_cases l:z=d;subst l;simp only[if_true,Option.some.injEq];constructor;rintro rfl;exact⟨_,List.mem_of_getElem? (i:=e) (by rw[List.getElem?_set_self (X R)]),rfl,rfl⟩;rintro⟨b,a,c,i⟩;obtain⟨f,h⟩:=List.getElem?_of_mem a;rw[List.getElem?_set]at h;split at h;rename_i m;split at h;cases h;simpa using i;cases h;rename_i m;exact absurd (Y f b h c).symm m;simp only[if_neg l];rw[P];constructor;rintro⟨b,a,c,i⟩;obtain⟨f,h⟩:=List.getElem?_of_mem a;have m:e≠f:=λal=>by subst al;rw[j]at h;cases h;rw[q]at c;simp at c;exact l c.symm
 exact⟨b,List.mem_of_getElem? (i:=f) (by rw[List.getElem?_set_ne m];exact h),c,i⟩;rintro⟨b,a,c,i⟩;rcases List.mem_or_eq_of_mem_set a with a|rfl;exact⟨b,a,c,i⟩;simp at c;exact absurd c.symm l
def cs.delete{ty t2:TypeId}(f:cs Yf Yj Yk)(w:Ye.underlying Yg=some (.map Yh Yi))(m:Ye.underlying Yh=some (.int .i64))(g:Int):∃p,(Builtin.delete_ #[Yg,t2] ty #[.map (some Yj),.int .i64 g]).run Ye Yf= .ok (.tuple #[]) p/\cs p Yj (λd=>if d=g then none else Yk d)/\M (λj=>j=Yj) Yf p:=by
 have x:=f.lt;obtain⟨c,y,n,q,r,z⟩:=f;rcases tz (JP:=.i64) g c.toList q with⟨s,k⟩|⟨d,ae,s,k,D⟩;refine⟨fe Yf Yj (.map c y),?_,⟨_,_,lX x,q,r,λo G=>?_⟩,lW _ _ _⟩;unfold Builtin.delete_;simp[run_underlying w,Result.andThen,MapKept.run_getObj_map n,iA m,MapKept.run_findKey m s,MapKept.run_setObj_map _ n,fe];by_cases h:o=g;subst h;simp only[if_true];constructor;intro f;cases f;rintro⟨a,b,e,_⟩;exact absurd e (k a b);simp only[if_neg h];exact z o G;have H:d<c.size:=by have:=(List.getElem?_eq_some_iff.1 k).1;simpa using this
 have t:(c.eraseIdxIfInBounds d).toList=c.toList.eraseIdx d:=by unfold Array.eraseIdxIfInBounds;rw[dif_pos H,Array.toList_eraseIdx]
 refine⟨fe Yf Yj (.map (c.eraseIdxIfInBounds d) y),?_,⟨_,_,lX x,?_,?_,?_⟩,lW _ _ _⟩;unfold Builtin.delete_;simp[run_underlying w,Result.andThen,MapKept.run_getObj_map n,iA m,MapKept.run_findKey m s,MapKept.run_setObj_map _ n,fe];intro a b;rw[t]at b;exact q a (List.mem_of_mem_eraseIdx b);rw[t];exact List.Nodup.sublist ((List.eraseIdx_sublist ..).map _) r;intro o G;rw[t];have u:∀a,a∈c.toList.eraseIdx d↔a∈c.toList/\a.key≠.int .i64 g:=λa=>by
  rw[List.mem_eraseIdx_iff_getElem?];constructor;rintro⟨j,K,i⟩;refine⟨List.mem_of_getElem? i,λb=>K ?_⟩;obtain⟨O,P⟩:=(List.getElem?_eq_some_iff.1 i)
  obtain⟨Q,R⟩:=(List.getElem?_eq_some_iff.1 k)
  have U:(c.toList.map (·.key))[j]'(X O)=(c.toList.map (·.key))[d]'(X Q):=by simp only[List.getElem_map,P,R,b,D]
  exact(List.getElem_inj r).1 U;rintro⟨b,Y⟩;obtain⟨j,i⟩:=List.getElem?_of_mem b;exact⟨j,λl=>by subst l;rw[k]at i;cases i;exact Y D,i⟩
 by_cases h:o=g;subst h;simp only[if_true];constructor;intro f;cases f;rintro⟨a,b,e,_⟩;exact absurd e ((u a).1 b).2;simp only[if_neg h];rw[z];constructor;rintro⟨a,b,e,v⟩;exact⟨a,(u a).2 ⟨b,λl=>by rw[e]at l;simp at l;exact h l⟩,e,v⟩;rintro⟨a,b,e,v⟩;exact⟨a,((u a).1 b).1,e,v⟩
end
section
variable{Yk:I->Option I}
def pn{Ye:Program}{c:Oper}{a:Act}{f:Act->World->Prop}{k:Exit->Act->World->Prop}(g h i:Operand)(Yg:TypeId)(l:c.op=Op.mapUpdate Yg g h i)(Yf:World)(Yj:Nat){Yh Yi:TypeId}(m:cs Yf Yj Yk)(n:Ye.underlying Yg=some (.map Yh Yi))(o:Ye.underlying Yh=some (.int .i64))(d e:Int)(p:a.eval g= .map (some Yj))(q:a.eval h= .int .i64 d)(r:a.eval i= .int .i64 e)(s:∀b,cs b Yj (λj=>if j=d then some e else Yk j)->M (λt=>t=Yj) Yf b->f (a.put c.dst undef) b):c.wp Ye a Yf f k:=by obtain⟨b,u,v,w⟩:=m.update n o d e;unfold Oper.wp;simp[execOp,l,p,q,r,u,Result.andThen];exact s b v w
def Mi{Ye:Program}{b:Oper}{c:Act}{f:Act->World->Prop}{j:Exit->Act->World->Prop}(g h:Operand)(Yg d:TypeId)(k:b.op= .call {callee:=.builtin .delete,args:=#[g,h],argTypes:=#[Yg,d]})(Yf:World)(Yj:Nat){Yh Yi:TypeId}(l:cs Yf Yj Yk)(m:Ye.underlying Yg=some (.map Yh Yi))(n:Ye.underlying Yh=some (.int .i64))(e:Int)(o:c.eval g= .map (some Yj))(p:c.eval h= .int .i64 e)(q:∀a,cs a Yj (λi=>if i=e then none else Yk i)->M (λr=>r=Yj) Yf a->f (c.put b.dst (.tuple #[])) a):b.wp Ye c Yf f j:=by obtain⟨a,s,t,u⟩:=l.delete (ty:=b.type) (t2:=d) m n e;unfold Oper.wp;simp[execOp,k,resolve,invoke,builtin,o,p,s,Result.andThen];exact q a t u
end
end
section
def tA(a b:a4):Bool:=if a.2=b.2 then decide (a.1<b.1)else decide (a.2<b.2)
def hY(Yr:ag)(a b:N):Bool:=tA (al Yr a) (al Yr b)
def cM(Yr:ag)(a b:N):ag:=(Yr.set a (al Yr b)).set b (al Yr a)
def gT:N->ag->N->ag
 |0,Yr,_=>Yr
 |Yt+1,Yr,a=>if(a-1)/2=a\/hY Yr a ((a-1)/2)=F then Yr else gT Yt (cM Yr ((a-1)/2) a) ((a-1)/2)
def hZ(Yr:ag)(a b:N):N:=if 2*a+2<b/\hY Yr (2*a+2) (2*a+1)=T then 2*a+2 else 2*a+1
def ef:N->ag->N->N->E a4×N
 |0,Yr,a,_=>(Yr,a)
 |Yt+1,Yr,a,b=>if b<=2*a+1\/hY Yr (hZ Yr a b) a=F then(Yr,a)else ef Yt (cM Yr a (hZ Yr a b)) (hZ Yr a b) b
def ja(Yr:ag)(a:a4):ag:=gT (L Yr+1) (Yr++[a]) (L Yr)
def dK(Yr:ag):ag:=if (L Yr)<=1 then[]else(ef (L Yr) (cM Yr 0 (L Yr-1)) 0 (L Yr-1)).1.dropLast
def dH(Yr:ag)(a b:N):(cM Yr a b).length=L Yr:=by simp[cM]
def xP{Yr:ag}{a b:N}{c:a4}(e:a<L Yr):al (Yr.set a c) b=if a=b then c else al Yr b:=by simp only[al,fU,List.getElem?_set];by_cases d:a=b;subst d;simp[e];simp[d]
def lY{Yr:ag}{a b c:N}(d:a<L Yr)(e:b<L Yr):al (cM Yr a b) c=if b=c then al Yr a else if a=c then al Yr b else al Yr c:=by unfold cM;rw[xP (X e)];split;rfl;rw[xP d]
def q5{Yr:ag}{a:N}(b:a<L Yr):al Yr a=Yr[a]:=by simp[al,b]
def Mj{Yr:ag}{b:a4}(d:b∈Yr):∃a,a<L Yr/\al Yr a=b:=by have⟨a,c,e⟩:=List.mem_iff_getElem.1 d;exact⟨a,c,by rw[q5 c,e]⟩
def tB{Yr:ag}{a b:N}(c:a<L Yr)(d:b<L Yr){e:a4}(h:e∈cM Yr a b):e∈Yr:=by have⟨i,f,g⟩:=Mj h;rw[lY c d]at g;rw[dH]at f;rw[<-g];split;exact kG c;split;exact kG d;exact kG f
def ff(Yr:ag)(Yt:I->Option I):Prop:=∀b c,Yt b=A c↔∃a,a<L Yr/\(al Yr a).1=b/\c=(a:I)
def ff.inj{Yr:ag}{Yt:I->Option I}(a:ff Yr Yt){i j:N}(c:i<L Yr)(d:j<L Yr)(e:(al Yr i).1=(al Yr j).1):i=j:=by have f:=(a _ _).2 ⟨i,c,J,J⟩;have b:=(a _ _).2 ⟨j,d,e.symm,J⟩;rw[f]at b;simp only[a2]at b;omega
def ff.nil:ff [] (λ_=>Z):=λa b=>D
def ff.swap{Yr:ag}{Yt:I->Option I}(j:ff Yr Yt){a b:N}(f:a<L Yr)(g:b<L Yr):ff (cM Yr a b) (λe=>if e=(al (cM Yr a b) b).1 then A (b:I)else if e=(al (cM Yr a b) a).1 then A (a:I)else Yt e):=by
 have o:al (cM Yr a b) b=al Yr a:=by rw[lY f g,am J]
 have p:al (cM Yr a b) a=al Yr b:=by rw[lY f g];split;rename_i d;rw[d];rw[am J]
 rw[o,p];intro e q;simp only[dH];constructor;intro k;split at k;rename_i d;cases k;exact⟨b,g,by rw[o,d],J⟩;rename_i r;split at k;rename_i d;cases k;exact⟨a,f,by rw[p,d],J⟩;rename_i s;obtain⟨i,l,c,rfl⟩:=(j e q).1 k;have m:b≠i:=λh=>s (by rw[<-c,h]);have n:a≠i:=λh=>r (by rw[<-c,h]);exact⟨i,l,by rw[lY f g,ak m,ak n];exact c,J⟩;rintro⟨i,l,c,rfl⟩;rw[lY f g]at c;split at c;rename_i h;subst h;rw[am c.symm];rename_i m;split at c;rename_i h;subst h;rw[ak (λd=>by have:=j.inj f g (by rw[c,d]);exact m this.symm),am c.symm];rename_i n;have t:e≠(al Yr a).1:=λd=>n (j.inj f l (by rw[c,d]));have u:e≠(al Yr b).1:=λd=>m (j.inj g l (by rw[c,d]));rw[ak t,ak u];exact(j e i).2 ⟨i,l,c,J⟩
def og{Yr b:ag}{a:N}(c:a<L Yr):al (Yr++b) a=al Yr a:=by simp[al,List.getElem?_append,c]
def q6{Yr:ag}{a:a4}:al (Yr++[a]) (L Yr)=a:=by simp[al]
def ff.push{Yr:ag}{Yt:I->Option I}(i:ff Yr Yt){t:a4}(k:∀l∈Yr,l.1≠t.1):ff (Yr++[t]) (λe=>if e=t.1 then A (L Yr:I)else Yt e):=by
 intro e m;simp only[bL,eu];constructor;intro f;split at f;rename_i g;cases f;exact⟨L Yr,O,by rw[q6,g],J⟩;obtain⟨d,j,a,rfl⟩:=(i e m).1 f;exact⟨d,O,by rw[og j];exact a,J⟩;rintro⟨d,j,a,rfl⟩;by_cases h:d<L Yr;rw[og h]at a;rw[ak (λg=>k _ (kG h) (a.trans g))];exact(i e d).2 ⟨d,h,a,J⟩;have:d=L Yr:=O
 subst this;rw[q6]at a;rw[am a.symm]
def po{Yr:ag}{a:N}(b:a<L Yr-1):al Yr.dropLast a=al Yr a:=by rw[q5 (X b),q5 O];simp
def ff.pop{Yr:ag}{Yt:I->Option I}(d:ff Yr Yt)(k:0<L Yr):ff Yr.dropLast (λc=>if c=(al Yr (L Yr-1)).1 then Z else Yt c):=by
 intro c i;simp only[List.length_dropLast];constructor;intro e;split at e;cases e;rename_i f;obtain⟨a,g,b,rfl⟩:=(d c i).1 e;have h:a<L Yr-1:=by by_cases j:a=L Yr-1;subst j;exact absurd b.symm f;omega
 exact⟨a,h,by rw[po h];exact b,J⟩;rintro⟨a,g,b,rfl⟩;rw[po g]at b;rw[ak (λf=>Y (d.inj (i:=a) (j:=L Yr-1) O O (by rw[b,f])))];exact(d c a).2 ⟨a,O,b,J⟩
def ff.first{Yr:ag}{Yt:I->Option I}(a:ff Yr Yt)(b:0<L Yr):Yt (al Yr 0).1=A 0:=(a _ _).2 ⟨0,b,J,J⟩
def ff.none{Yr:ag}{Yt:I->Option I}(b:ff Yr Yt){a:I}(c:∀d∈Yr,d.1≠a):Yt a=Z:=by
 cases e:Yt a with
  |none=>rfl
  |some f=>have⟨i,g,h,_⟩:=(b a f).1 e;exact absurd h (c _ (kG g))
def tC{Jf:ag}{JJ J0:N}(a:2*JJ+1<J0):hZ Jf JJ J0<J0/\JJ<hZ Jf JJ J0:=by unfold hZ;split<;>omega
def Mk(Yt:N)(Yr:ag)(a:N):(gT Yt Yr a).length=L Yr:=by
 induction Yt generalizing Yr a with
  |zero=>rfl
  |succ Yt b=>unfold gT;split;rfl;rw[b,dH]
def q7(Yt:N)(Yr:ag)(a b:N):(ef Yt Yr a b).1.length=L Yr:=by
 induction Yt generalizing Yr a with
  |zero=>rfl
  |succ Yt c=>unfold ef;split;rfl;rw[c,dH]
def Ml(Yt:N)(Yr:ag)(b:N)(d:b<L Yr){c:a4}(a:c∈gT Yt Yr b):c∈Yr:=by
 induction Yt generalizing Yr b with
  |zero=>exact a
  |succ Yt e=>unfold gT at a;split at a;exact a;exact tB O d (e _ _ (by rw[dH];omega) a)
def Mm(Yt:N)(Yr:ag)(a c:N)(e:c<=L Yr)(f:a<L Yr){d:a4}(b:d∈(ef Yt Yr a c).1):d∈Yr:=by
 induction Yt generalizing Yr a with
  |zero=>exact b
  |succ Yt g=>unfold ef at b;split at b;exact b;rename_i h;have i:=tC (Jf:=Yr) (JJ:=a) (J0:=c) O;exact tB f O (g _ _ (by rw[dH];exact e) (by rw[dH];omega) b)
def tD{Yr:ag}{b a:a4}(c:a∈ja Yr b):a∈Yr\/a=b:=by have:=Ml _ _ _ D c;simpa using this
def Mn{Yr:ag}{b:a4}(a:b∈dK Yr):b∈Yr:=by unfold dK at a;split at a;cases a;exact tB O O (Mm _ _ _ _ (by rw[dH];omega) (by rw[dH];omega) (List.dropLast_subset _ a))
structure cX(e:N)(c:W)(a:N)(i:aD)(g:ag)(d:V)(b:N)(h:I->Option I):Prop where
 c0:C c a=A d
 c1:C c ⟨a,1,Z⟩=A (.map (A b))
 f0:aH c a=F
 own:aW 407 c e d g
 map:cs c b h
 at_:ff g h
 ne:a≠b
 ng:af d≠A a
 nm:af d≠A b
 oh:e<=a/\e<=b
 set:i=λf=>f=a\/f=b\/af d=A f
def cn(Yl:N)(Yo:W)(Ym:N)(Yq:aD)(Yr:ag)(Yp:W):Prop:=∃b Ys Yn Yt,cX Yl Yp Ym b Yr Ys Yn Yt/\M Yq Yo Yp/\∀a,b a->Yq a\/(Yo:N)<=a
variable{Yl Ym Yn:N}{Yo Yp:W}{Yq:aD}{Yr:ag}{Ys:V}{Yt:I->Option I}
def cX.lt(a:cX Yl Yo Ym Yq Yr Ys Yn Yt):∀b,Yq b->b<(Yo:N):=by intro b c;rw[a.set]at c;rcases c with rfl|rfl|c;exact aR _ _ a.c0;exact a.map.lt;exact(a.own.lt b c).2
def cX.le(a:cX Yl Yo Ym Yq Yr Ys Yn Yt):∀b,Yq b->Yl<=b:=by intro b c;rw[a.set]at c;rcases c with rfl|rfl|c;exact a.oh.1;exact a.oh.2;exact(a.own.lt b c).1
def cX.aO{e:aD}(a:cX Yl Yo Ym Yq Yr Ys Yn Yt)(b:M e Yo Yp)(c:∀d,Yq d->¬e d):cX Yl Yp Ym Yq Yr Ys Yn Yt:=by have f:=a.set;subst f;exact⟨b.cell a.c0 (c Ym (.inl J)),b.cell a.c1 (c Ym (.inl J)),b.free a.f0 (aR _ _ a.c0) (c Ym (.inl J)),a.own.aO b (λd g=>c d (.inr (.inr g))),a.map.aO b (c Yn (.inr (.inl J))),a.at_,a.ne,a.ng,a.nm,a.oh,J⟩
def cX.bw(a:cX Yl Yo Ym Yq Yr Ys Yn Yt)(b:B Yo Yo Yp):cX Yl Yp Ym Yq Yr Ys Yn Yt:=a.aO (M.bw (I':=λ_=>False) b) λ_ _ c=>c
def cn.adC{e:W}{f:aD}{Jg g:ag}(c:M Yq Yo Yp)(h:∀a,f a->Yq a\/(Yo:N)<=a)(k:cn Yl Yp Ym f g e):cn Yl Yo Ym Yq g e:=by obtain⟨l,Ys,Yn,Yt,m,d,n⟩:=k;refine⟨l,Ys,Yn,Yt,m,⟨d.os.trans c.os,d.tape.trans c.tape,d.output.trans c.output,a1 c.size d.size,λa i j=>?_⟩,λa o=>?_⟩;exact(d.block a (cg i c.size) λb=>by rcases h a b with b|b;exact j b;omega).trans (c.block a i j);rcases n a o with b|b;exact h a b;exact .inr (a1 c.size b)
def cX.same(b:cX Yl Yo Ym Yq Yr Ys Yn Yt)(a:B Yo Yo Yp):cn Yl Yo Ym Yq Yr Yp:=⟨Yq,Ys,Yn,Yt,b.bw a,M.bw a,λd c=>.inl c⟩
def aW.cells{k:bj}{f:V}{c:ag}(g:aW k Yo Yl f c)(p:0<L c):∃b h,f=S (A ⟨b,0,Z⟩) (L c) h/\L c<=h/\b<(Yo:N)/\∀a,a<L c->C Yo ⟨b,a*2,Z⟩=A (aa ac (al c a).1)/\C Yo ⟨b,a*2+1,Z⟩=A (aa ac (al c a).2)/\aH Yo ⟨b,a*2,Z⟩=F/\aH Yo ⟨b,a*2+1,Z⟩=F:=by have hp:=g.di;obtain⟨q,l⟩:=g;rcases l with⟨_,i⟩|⟨b,m,r,rfl,s,e,i,t,_⟩;omega;refine⟨b,m,J,i,(bM.1 e).1,λa n=>?_⟩;obtain⟨_,_,d,_,_,o⟩:=hp;simp only[bf]at d;obtain⟨rfl,_,_⟩:=d;have⟨_,_,d,j,g1⟩:=o a n;simp only[a2,bN,bT]at d;obtain⟨rfl,rfl⟩:=d;rw[bX]at j g1;exact⟨j,g1,by simp[aH,e],by simp[aH,e]⟩
end
section
def Mp(b:ag)(a:N)(f g:I)(h:a<L b):be (b.set a (f,g))=((be b).set (a*2) f).set (a*2+1) g:=by
 induction b generalizing a with
  |nil=>simp at h
  |cons k b i=>
   have d:∀(c:a4) (e:ag),be (c::e)=aa ac c.1::aa ac c.2::be e:=λc e=>by simp[be]
   cases a with
    |zero=>simp[d]
    |succ a=>
     have j:(a+1)*2=a*2+1+1:=O
     rw[List.set_cons_succ,d,d,i a (X h),j];simp
def aW.lF{g:bj}{Yx:W}{Yu b h f:N}{c:ag}(l:aW g Yx Yu (S (A b) h f) c)(a:N)(d e:I)(m:a<L c):aW g ((aj Yx ⟨b,a*2,Z⟩ d).setCell ⟨b,a*2+1,Z⟩ e) Yu (S (A b) h f) (c.set a (d,e)):=by obtain⟨i,n⟩:=l;unfold aW;refine⟨by rw[b',g7,b'];rw[g7]at i;exact i,?_⟩;rcases n with⟨o,_⟩|⟨w,x,p,j,q,r,s,t,u,k⟩;simp at o;simp only[bf,a2,bN,bT]at j;obtain⟨rfl,v,rfl⟩:=j;refine .inr ⟨b,f,(p.setIfInBounds (a*2) d).setIfInBounds (a*2+1) e,by rw[b',v],q,?_,by rw[b'];exact s,t,X u,?_⟩;simp only[aj,Array.getElem?_modify];simp[r];rw[b',Mp c a d e m];simp only[Array.toList_setIfInBounds,List.take_set]at k⊢;rw[k]
def tE{c:bj}{Yx:W}{Yu:N}{a:V}{b:ag}(d:aW c Yx Yu a b):∃e f,a=S e (L b) f:=by rcases bW d with⟨rfl,g⟩|⟨Yv,h,rfl,_⟩;exact⟨Z,0,by rw[g]⟩;exact⟨_,_,J⟩
section
variable{Yu Yv Yw:N}{Yx:W}{Yy:aD}{Yz:ag}{YA:V}{YB:I->Option I}
def xQ(a:cX Yu Yx Yv Yy Yz YA Yw YB):ap ab 351 #[aM (A Yv)] Yx (fW Yx (L Yz)):=by have b:=a.c0;obtain⟨c,d,rfl⟩:=tE a.own;generalize (L Yz)=e at*;clear a;go_in;go_wp2;go_ret;exact⟨J,aS _ _⟩
def q8(Yx:W)(b c:I):∃a,Yx.alloc (az #[b,c] 407)=a/\B Yx Yx a/\a.heap.size=(Yx:N)+1/\C a Yx=A (aa ac b)/\C a ⟨Yx,1,Z⟩=A (aa ac c):=⟨_,J,aN _ _,D,by simp[go_sem],by simp[go_sem]⟩
def xR(n:cX Yu Yx Yv Yy Yz YA Yw YB)(c e:N)(y:c<L Yz)(D:e<L Yz):ap ab 352 #[aM (A Yv),c,e] Yx (ir Yx (hY Yz c e)):=by
 have G:=n.c0;obtain⟨ad,ae,rfl,_,_,o⟩:=n.own.cells O;have⟨s,t,_,_⟩:=o c y;have⟨u,v,_,_⟩:=o e D;have g:H (hY Yz c e=tA (al Yz c) (al Yz e)):=Q J;have⟨⟨M,l⟩,ha⟩:=K (al Yz c);have⟨⟨P,m⟩,i⟩:=K (al Yz e);rw[<-ha]at s t g;rw[<-i]at u v g;simp only at s t u v;unfold tA at g;simp only at g;have⟨ag,w⟩:=K (hY Yz c e);rw[<-w]at g⊢;generalize (L Yz)=x at*;have ah:=aJ c;have ai:(c:I)<x:=O
 have ar:=aJ e;have av:(e:I)<x:=O
 clear n o ha i w;go_in;go_upto_region 1 with fail;go_cut [7,8] (λR U j=>∃g1 g2,R=aM (A ⟨g1,0,Z⟩)/\U=aM (A ⟨g2,0,Z⟩)/\C j ⟨g1,0,Z⟩=A (aa ac M)/\C j ⟨g1,1,Z⟩=A (aa ac l)/\C j ⟨g2,0,Z⟩=A (aa ac P)/\C j ⟨g2,1,Z⟩=A (aa ac m)/\B Yx Yx j);case first=>
  refine i' ((.p 0 (.p 1 (.p 2 (.p 4 (.p 7 (.p 8 (.p 9 (.p 11 (.r 3 (.p 5 (.r 6 (.r 10 (.p 12 (.r 13 (.f 14 (.a 15 (.a 16 (.z 17 .d))) 15 (.a 14 (.a 16 (.z 17 .d))))))))))))))))))) (dp Yx) (by kernel_rfl) (by kernel_rfl) (.mk (an _)) ?_;iterate 14 refine mS ?_
  refine gN (λk b=>?_) (λk b=>?_);·go_simp;refine b _ _ (.mk (q (aN _ _) (an _))) ?_;refine aU λk b=>?_;go_simp;refine b _ _ (.mk (q (aN _ _) (q (aN _ _) (an _)))) ?_;refine aU λk b=>?_;go_simp;refine b _ _ (.mk (q (aN _ _) (q (aN _ _) (an _)))) ?_;refine mS ?_;refine bc ?_;go_wp2;go_meet;exact⟨_,_,J,J,by simp[go_sem],by simp[go_sem],by simp[go_sem],by simp[go_sem],q (aN _ _) (q (aN _ _) (an _))⟩
  go_simp;refine b _ _ (.mk (q (aN _ _) (an _))) ?_;refine aU λk b=>?_;go_simp;refine b _ _ (.mk (q (aN _ _) (q (aN _ _) (an _)))) ?_;refine aU λk b=>?_;go_simp;refine b _ _ (.mk (q (aN _ _) (q (aN _ _) (an _)))) ?_;refine mS ?_;refine bc ?_;go_wp2;go_meet;exact⟨_,_,J,J,by simp[go_sem],by simp[go_sem],by simp[go_sem],by simp[go_sem],q (aN _ _) (q (aN _ _) (an _))⟩
 obtain⟨g1,g2,rfl,rfl,ax,ay,aA,aC,i⟩:=hcut;clear G s t u v;by_cases h:l=m
 ·have Y:(l !=m)=F:=by simpa using h
  rw[am h]at g;clear h;go_wp2;go_ret;rw[g];exact⟨J,i⟩
 have Y:(l !=m)=T:=X h
 rw[ak h]at g;clear h;go_wp2;go_ret;rw[g];exact⟨J,i⟩
end
end
def Mq{a b:Bool}(c:a=b):aq (au a)=aq (au b):=by rw[c]
def e8(a:I):Bool:=decide (0<=a)&&decide (a<64)
def q9(a:e8 i=T):0<=i/\i<64:=by unfold e8 at a;simpa using a
def Mr(b:e8 i=F):i<0\/64<=i:=by unfold e8 at b;by_cases c:0<=i;by_cases d:i<64;simp[c,d]at b;omega;omega
def sO(a:I)(d:W):ap ab 188 #[a] d λf g=>f=aq (au (e8 a))/\d=g:=by
 by_cases e:0<=a
 ·have b:decide (0<=a)=T:=by simpa using e
  have c:H (e8 a=decide (a<64)):=Q (by unfold e8;rw[b];rfl);go_in;go_wp2;go_ret;rw[c.out];exact⟨J,J⟩
 have b:decide (0<=a)=F:=X e
 have c:H (e8 a=F):=Q (by unfold e8;rw[b];rfl);go_in;go_wp2;go_ret;rw[c.out];exact⟨J,J⟩
def nP(b:N)(a:I):Bool:=e8 a&&b.testBit a.toNat
def Ms(a b:N)(c:a<18446744073709551616):(bits .and b1 ((a:I)/2^b) 1==1)=a.testBit b:=by
 have d:((a:I)/2^b)=((a/2^b:N):I):=D
 have e:=u64_and_nat (a/2^b) 1 (Nat.lt_of_le_of_lt (Nat.div_le_self _ _) c) av;rw[d,show(1:I)=((1:N):I)from J,e,nat_mask1,Nat.testBit_eq_decide_div_mod_eq];by_cases f:a/2^b%2=1;rw[f];rfl;have:a/2^b%2=0:=O
 rw[this];rfl
def KP(a:N)(Jy:I)(Kw:W)(c:a<18446744073709551616):ap ab 216 #[aa b1 a,Jy] Kw λd e=>d=aq (au (nP a Jy))/\Kw=e:=by
 cases Cy:e8 Jy with
  |false=>have C5:H (nP a Jy=F):=Q (by unfold nP;rw[Cy];rfl);exact wi
  |true=>have EL:=Q (sO Jy Kw);rw[Cy]at EL;have⟨b,f⟩:=q9 Cy;obtain⟨g,rfl⟩:=dw b;go_in;go_wp2_with fail;refine mR EL ?_;go_wp2;go_ret;exact⟨Mq (by rw[Ms a g c];unfold nP e8;rw[dD b,dD f];simp),J⟩
def eC(a:N)(b:I):N:=if e8 b=T then a|||2^b.toNat else a
def Mt(a:i=j):aq (aa b1 i)=aq (aa b1 j):=by rw[a]
def tG(a:N)(b:a<64):2^a<18446744073709551616:=by have:2^a<2^64:=Nat.pow_lt_pow_right av b;simpa using this
def Mu(a:N)(b:a<64):IntKind.u64.wrap ((2:I)^a)=((2^a:N):I):=by
 have d:=tG a b;have c:((2:I)^a)=((2^a:N):I):=D
 rw[c];generalize 2^a=e at*;exact IntWalk.u64_in _ O
def tH(a:N)(Jy:I)(Kw:W)(d:a<18446744073709551616):ap ab 150 #[aa b1 a,Jy] Kw λe f=>e=aq (aa b1 (eC a Jy))/\Kw=f:=by
 cases Cy:e8 Jy with
  |false=>have C5:H (eC a Jy=a):=Q (by unfold eC;rw[Cy];rfl);exact wi
  |true=>have EL:=Q (sO Jy Kw);rw[Cy]at EL;have⟨c,g⟩:=q9 Cy;obtain⟨b,rfl⟩:=dw c;go_in;go_wp2_with fail;refine mR EL ?_;have C5:H (bits .or b1 (a:I) (IntKind.u64.wrap (2^b))=(eC a (b:I):I)):=Q (by rw[Mu b O,u64_or_nat a (2^b) d (tG b O)];unfold eC e8;rw[dD c,dD g];simp);go_wp2;go_ret;exact⟨Mt C5,J⟩
def gq(a b:N):I:=((a/2^b%2:N):I)
def h0(a:N):ad:=(List.range 64).map (gq a)
def q'(a b:N):gq a b=if a.testBit b=T then 1 else 0:=by
 unfold gq;rw[Nat.testBit_eq_decide_div_mod_eq];by_cases c:a/2^b%2=1;rw[c];rfl;have:a/2^b%2=0:=O
 rw[this];rfl
def Mw(a b:N):0<=gq a b/\gq a b<=1:=by unfold gq;omega
def Mx(a b:N):(gq a b==1)=a.testBit b:=by rw[q'];cases a.testBit b<;>rfl
def lZ(a:N):(h0 a).length=64:=by simp[h0]
def pp(b a:N)(c:a<64):ae (h0 b) a=gq b a:=jN _ _ _ c
def My(a:N):2^(a+1)=2^a*2:=Nat.pow_succ ..
def xS(a b:N):a/2^b/2=a/2^(b+1):=by rw[My,Nat.div_div_eq_div_mul]
def Mz(a b:N):2*(a/2^(b+1))+a/2^b%2=a/2^b:=by rw[<-xS];omega
def tI(b:I)(c:a<18446744073709551616):eC a b<18446744073709551616:=by unfold eC;split;rename_i e;have⟨f,g⟩:=q9 e;have:=tG b.toNat O;exact Nat.or_lt_two_pow (n:=64) (X c) (X this);exact c
def pq(c a b:N)(d:a<64):(eC c (a:I)).testBit b=(c.testBit b||decide (a=b)):=by
 have:e8 (a:I)=T:=by unfold e8;rw[dD O,dD O];rfl
 unfold eC;rw[am this,cW,Nat.testBit_or,Nat.testBit_two_pow]
def MA(b a:N)(d:a<64):(h0 b).set a 1=h0 (eC b (a:I)):=by apply o4 (by simp[lZ]);intro e c;rw[b',lZ]at c;rw[nV (by rw[lZ];exact d),pp _ _ c,pp _ _ c,q',q',pq b a e d];by_cases f:a=e<;>simp[f]
def jb(b c:N):ad:=(List.range 64).map λa=>if a<c then gq b a else 0
def oi(a b:N):(jb a b).length=64:=by simp[jb]
def MB(a:N):jb a 0=List.replicate 64 0:=by simp[jb,List.map_const']
def MC(a:N):jb a 64=h0 a:=by unfold jb h0;apply List.map_congr_left;intro c b;rw[am (X b)]
def MD(b a:N)(g:a<64):(jb b a).set a (gq b a)=jb b (a+1):=by apply o4 (by simp[oi]);intro d c;rw[b',oi]at c;rw[nV (by rw[oi];exact g)];unfold jb;rw[jN _ _ _ c,jN _ _ _ c];by_cases e:a=d;subst e;simp;rw[ak e];by_cases f:d<a;rw[am f,am O];rw[ak f,ak O]
def xT(b:W)(c d a:N)(h:b.ownsRow c 3 1 (S (A d) a a) a (madeCells #[aa ac 0] a).toList):ay b c (S (A d) a a) (List.replicate a 0):=vr
def ra(a:W)(b:N)(k:b<=65536):∃c,(Instr.makeSlice 22 (b:I) (b:I)).run ab a= .ok (S (A (a:N)) b b) c/\ay c a (S (A (a:N)) b b) (List.replicate b 0)/\B a a c:=by have⟨e,f,g,h,IC⟩:=ew hR;have⟨c,i,d,j⟩:=run_make_full (P:=ab) a a 22 3 e (0:I) 1 underlying22 f g h ac ac b jJ eQ (aL _);refine⟨c,i,xT _ _ _ _ ?_,(aS a a).grown j (aL _) D⟩;rw[Nat.mul_one]at d;exact d
def ME(a:W)(e:N)(f:bp)(b:W):Prop:=∃c d,f=aq (S (A ⟨c,0,Z⟩) 64 d)/\ay b a (S (A ⟨c,0,Z⟩) 64 d) (h0 e)/\B a a b
def MF(b:Nat)(e:World)(m:b<18446744073709551616):Calls prog 72 #[.int .u64 b] e (ME e b):=by
 obtain⟨r,h,n,s⟩:=ra e 64 av;rw[show((64:Nat):Int)=64 from rfl]at h;have t:H (b/2^0=b):=Q D;change H _ at h n;go_in;go_wp2_with fail;rw[h.oo];go_wp2_with fail;generalize i:(e:Nat)=d at*;change H _ at i;go_loopw [0,4] (λu j wr=>∃a c:Nat,a<=64/\j= .int .i64 a/\u= .int .u64 (c:Int)/\c=b/2^a/\ay wr d (.slice (some ⟨d,0,none⟩) 64 64) (jb b a)/\Below d e wr) (λ_ j _=>64-(aw j).toNat);exact⟨0,b,Nat.zero_le _,rfl,rfl,t.oo.symm,by rw[MB];exact n.oo,s⟩;obtain⟨a,c,z,rfl,rfl,g,f,o⟩:=hrel;by_cases k:a<64
 ·obtain⟨g2,G,p,_,_,_,q⟩:=f.out (by rw[oi];decide);simp only[Value.slice.injEq,Option.some.injEq,Addr.mk.injEq,and_true]at p;obtain⟨rfl,K,M⟩:=p;obtain⟨v,hF⟩:=q a (by rw[oi];exact k);rw[Nat.zero_add]at v hF;have l:=f.set a (gq b a) (by rw[oi];exact k);rw[MD b a k,Nat.zero_add]at l;have P:c<18446744073709551616:=by rw[g];exact Nat.lt_of_le_of_lt (Nat.div_le_self _ _) m
  have w:H (c/2=b/2^(a+1)):=Q (by rw[g];exact xS b a);have x:H (ay (wr.setCell ⟨d,a,none⟩ (.int .i64 (c%2))) d (.slice (some ⟨d,0,none⟩) 64 64) (jb b (a+1))):=Q (by
   have:((c:Int)%2)=gq b a:=by unfold gq;rw[g];omega
   rw[this];exact l)
  have r:wrap64 ((c:Int)%2)=(c:Int)%2:=cV O O;clear q f l g m;go_wp2;go_roundw;case rel=>exact⟨a+1,c/2,O,aK,aK,w.oo,x.oo,o.setCell (Nat.le_refl _) _⟩
  simp[aw];omega
 have y:a=64:=O
 subst y;rw[MC]at f;go_wp2;go_ret;exact⟨d,64,rfl,by rw[i.oo];exact f,by rw[i.oo];exact o⟩
def MG(k:V)(b:N)(f:W)(g:b<18446744073709551616)(u:aX f k (h0 b)):ap ab 31 #[k] f λv w=>v=aq (aa b1 b)/\f=w:=by
 obtain⟨R,U,Y,rfl,l,ad,m⟩:=u.open;rw[lZ]at l;subst l;have x:H (b/2^64=0):=Q (Nat.div_eq_of_lt (X g));have ae:H (b/2^0=b):=Q D;change H _ at m;go_in;go_wp2_with fail;go_loop [3,4] (λy a=>∃c d:N,c<=64/\a=aa ac ((c:I)-1)/\y=aa b1 (d:I)/\d=b/2^c) (λ_ a=>(aw a+1).toNat);case atStart=>exact⟨64,0,aL _,J,J,x.symm⟩
 obtain⟨c,d,ag,rfl,rfl,e⟩:=hrel;by_cases z:1<=c
 ·obtain⟨a,rfl⟩:∃a,c=a+1:=⟨c-1,O⟩
  rw[show((a+1:N):I)-1=(a:I) by omega];obtain⟨ah,ai,rfl,n⟩:=m a O;rw[pp b a O]at n;have o:=Mw b a;have⟨p,h⟩:=K (gq b a);have q:2*d+(b/2^a%2)=b/2^a:=by rw[e];exact Mz b a
  have r:(p:I)=((b/2^a%2:N):I):=by rw[h];rfl
  have s:b/2^a<18446744073709551616:=Nat.lt_of_le_of_lt (Nat.div_le_self _ _) g;rw[<-h]at n o;have⟨i,j⟩:=K (b/2^a);rw[<-j]at q r s;have G:H (i=b/2^a):=Q j;have M:H (2*(d:I)+p=(i:I)):=Q O;have t:d<9223372036854775808:=O
  obtain⟨ak,al⟩:=o;have am:=aJ a;have an:(a:I)<64:=O
  clear j q r e h g s;go_wp2_with fail;go_round;case rel=>exact⟨a,i,O,aK,by rw[M],G⟩
  simp[aw]
 have P:c=0:=O
 subst P;have t:d=b:=by rw[e];simp
 subst t;clear e z;go_wp2;go_ret;exact⟨J,J⟩
def a8(b c d:N):ad:=((List.range d).filter λa=>decide (c<=a)&&b.testBit a).map Int.ofNat
def sm(c a b:N)(e:b<=a):a8 c a b=[]:=by unfold a8;rw[List.map_eq_nil_iff,List.filter_eq_nil_iff];intro f d;simp at d;simp;omega
def sG(b c a:N)(d:c<=a)(e:b.testBit a=T):a8 b c (a+1)=a8 b c a++[(a:I)]:=by unfold a8;rw[fu,h1,ck];simp[d,e]
def qr(a c b:N)(d:a.testBit b=F):a8 a c (b+1)=a8 a c b:=by unfold a8;rw[fu,h1,ck];simp[d]
def lD(b c a:N):(a8 b c a).length<=a:=by unfold a8;rw[de];have:=List.length_filter_le (λd=>decide (c<=d)&&b.testBit d) (List.range a);rwa [List.length_range]at this
def pr(a:W)(d:ad)(e:bp)(b:W):Prop:=∃c,e=aq c/\ay b a c d/\B a a b
def MH(B7 JZ:N)(Kw:W)(C4:B7<18446744073709551616):ap ab 215 #[.func (.func 216) #[aa b1 B7] #[],JZ] Kw (pr Kw (a8 B7 JZ 64)):=by
 have a:¬(JZ:I)<0:=O
 have Co:JZ=JZ:=J;go_in;go_wp2;exact vR
def MI(B7:N)(a:I)(Kw:W)(C4:B7<18446744073709551616)(b:a<0):ap ab 215 #[.func (.func 216) #[aa b1 B7] #[],a] Kw (pr Kw (a8 B7 0 64)):=by
 obtain⟨JZ,Co⟩:∃JZ:N,JZ=0:=⟨0,J⟩
 rw[<-Co];go_in;go_wp2_with fail;rw[show(max a 0:I)=(JZ:I) by omega];exact vR
def xU(c:N)(a:I)(d:W)(f:c<18446744073709551616):ap ab 215 #[.func (.func 216) #[aa b1 c] #[],a] d (pr d (a8 c a.toNat 64)):=by
 have i:∃b:N,a.toNat=b/\max a 0=(b:I):=⟨a.toNat,J,O⟩
 obtain⟨b,e,g⟩:=i;rw[e];by_cases h:a<0;have j:b=0:=O
 subst j;clear g e;exact MI c a d f h;have k:a=(b:I):=O
 subst k;clear g e h;exact MH c b d f
def tJ(a:N)(b:W)(c:a<18446744073709551616):ap ab 243 #[aa b1 a] b (pr b (a8 a 0 64)):=by go_in;go_wp2_with fail;refine mE (xU a 0 b c) λf g ⟨d,e⟩=>?_;go_wp2;go_ret;exact⟨_,J,d,e⟩
def MJ(b:N)(h:W)(y:b<18446744073709551616):ap ab 46 #[aa b1 b] h (pr h (a8 b 0 64)):=by
 go_in;go_wp2_with fail;refine(MF b h y).mono ?_;rintro X c ⟨q,ad,rfl,r,l⟩;have⟨ae,ag,ah,e,_,_,s⟩:=r.ints.open;simp only[bf]at e;obtain⟨rfl,rfl,rfl⟩:=e;have m:∀a,a<64->C c ⟨q,a,Z⟩=A (aa ac (gq b a)):=λa i=>by have⟨ai,ak,e,f⟩:=s a i;simp only[a2,bN,bT]at e;obtain⟨rfl,rfl⟩:=e;rw[pp b a i,bX]at f;exact f
 have z:q<c:=aR c _ (m 0 av);have D:=Q l;have t:(h:N)<=c:=l.size;change H _ at m;clear s r l;go_wp2;go_loopw [3,5] (λn o wr=>∃(a:N) (u:V),o=(a:I)/\u=n/\a<=64/\ay wr c u (a8 b 0 a)/\B c c wr) (λ_ o _=>64-(aw o).toNat);exact⟨0,_,J,J,av,ay.nil _ _,aS _ _⟩;obtain⟨a,n,rfl,rfl,i,j,g⟩:=hrel;by_cases G:a<64
 ·have f:=bk g z (m a G);have k:=Mx b a;have⟨al,v⟩:=K (gq b a);rw[<-v]at f k;have am:=aJ a;clear v i;cases d:b.testBit a with
   |true=>
    rw[d]at k;have p:=Q (sG b 0 a (a3 _) d);have M:=Q (lD b 0 a);clear d;go_wp2_with (at_builtin;refine hP J _ _ J wr c n (a8 b 0 a) (a:I) J J j (Y M.oo) g.size ?_);intro an ar w P x;rw[<-p]at w;have R:=g.trans x;clear P x j k f;go_wp2;go_roundw;case rel=>exact⟨a+1,_,aK,J,O,w,R⟩
    simp[aw];omega
   |false=>
    rw[d]at k;have p:=Q (qr b 0 a d);clear d;go_wp2;go_roundw;case rel=>exact⟨a+1,_,aK,J,O,by rw[p];exact j,g⟩
    simp[aw];omega
 have U:a=64:=O
 subst U;go_wp2;go_ret;exact⟨_,J,j.mono t,D.trans (g.mono t)⟩
def fY(a:N)(b:I):I:=(a8 a b.toNat 64).headD (-1)
def MK(b:N)(a:I)(c:N):a8 b a.toNat c=(a8 b 0 c).filter λe=>decide (a<=e):=by
 unfold a8;rw[List.filter_map,List.filter_filter];congr 1;apply List.filter_congr;intro d _;have:decide (a.toNat<=d)=decide (a<=(d:I)):=by rw[decide_eq_decide];omega
 simp[Function.comp]
def ML(a:ad)(c:I)(b:N)(e:b<L a)(f:(a.take b).filter (λd=>decide (c<=d))=[])(g:c<=ae a b):(a.filter λd=>decide (c<=d)).headD (-1)=ae a b:=by
 conv=>lhs;rw[<-g' b a,h1,f]
 rw[List.nil_append,List.drop_eq_getElem_cons e,<-e9 e,List.filter_cons,am (X g)];rfl
def MM(a:ad)(c:I)(b:N)(e:b<L a)(f:(a.take b).filter (λd=>decide (c<=d))=[])(g:¬c<=ae a b):(a.take (b+1)).filter (λd=>decide (c<=d))=[]:=by rw[kE a b e,h1,f];simp;omega
def MN(b:N)(c:I)(h:W)(q:b<18446744073709551616):ap ab 32 #[aa b1 b,c] h λr s=>r=aq (fY b c)/\B h h s:=by
 have m:H (fY b c=((a8 b 0 64).filter λj=>decide (c<=j)).headD (-1)):=Q (by unfold fY;rw[MK]);go_in;go_wp2_with fail;refine mE (MJ b h q) λv w ⟨n,o⟩=>?_;obtain⟨x,f,y,rfl,i,z,p⟩:=n.ints.open;change H _ at p i;clear n;go_wp2_with fail;go_loop [6] (λk=>∃(a:N),k=a/\a<=f/\((a8 b 0 64).take a).filter (λj=>decide (c<=j))=[]) (λk=>f-(aw k).toNat);case atStart=>exact⟨0,J,a3 _,J⟩
 obtain⟨a,rfl,D,d⟩:=hrel;by_cases l:a<f
 ·obtain⟨G,K,rfl,M⟩:=p a l;have P:=aJ a;have R:(a:I)<f:=by omega
  by_cases e:c<=ae (a8 b 0 64) a
  ·have g:=Q (ML _ c a (by rw[i];exact l) d e);have t:decide (c<=ae (a8 b 0 64) a)=T:=by simpa using e
   clear d e;go_wp2;go_ret;rw[m,g];exact⟨J,o⟩
  have g:=Q (MM _ c a (by rw[i];exact l) d e);have t:decide (c<=ae (a8 b 0 64) a)=F:=X e
  clear d e;go_wp2_with fail;go_round;case rel=>exact⟨a+1,aK,O,g⟩
  simp[aw];omega
 have u:a=f:=O
 subst u;rw[cm (by rw[i];exact aL _)]at d;have g:=Q d;clear d;go_wp2;go_ret;rw[m,g];exact⟨J,o⟩
def MO(a:N)(b:I)(c:W)(l:a<18446744073709551616):ap ab 189 #[aa b1 a,b] c λm n=>m=aq (fY a b)/\B c c n:=by
 go_in;go_wp2_with fail;refine mE (xU a b c l) λp q ⟨e,i⟩=>?_;obtain⟨r,f,s,rfl,d,t,g⟩:=e.ints.open;have j:H (fY a b=(a8 a b.toNat 64).headD (-1)):=Q J;generalize a8 a b.toNat 64=h at*;cases h with
  |nil=>simp only[et]at d;subst d;clear g e;go_wp2;go_ret;rw[j];exact⟨J,i⟩
  |cons k h=>
   simp only[dx]at d;obtain⟨u,v,rfl,o⟩:=g 0 O;rw[eX,show ae (k::h) 0=k from J]at o;have w:((f:I)==0)=F:=kw
   have x:(0:I)<f:=O
   have y:0<f:=O
   clear g e d;go_wp2;go_ret;rw[j];exact⟨J,i⟩
def kS(a:ad)(b:N):N:=(a.take b).foldl eC 0
def MP(a:ad)(b:N)(c:b<L a):kS a (b+1)=eC (kS a b) (ae a b):=by unfold kS;rw[kE a b c,List.foldl_append];rfl
def MQ(b:ad):∀a,a<18446744073709551616->b.foldl eC a<18446744073709551616:=by
 induction b with
  |nil=>intro a c;exact c
  |cons d b e=>intro a c;exact e _ (tI d c)
def MR(a:ad)(b:N):kS a b<18446744073709551616:=MQ _ _ av
def MS(h:V)(b:ad)(f:W)(i:aX f h b):ap ab 140 #[h] f λk l=>k=aq (aa b1 (kS b (L b)))/\f=l:=by
 obtain⟨r,d,s,rfl,Da,t,j⟩:=i.open;rw[Da];change H _ at Da j;clear i;go_in;go_wp2_with fail;go_loop [3,8] (λm g=>∃a c:N,a<=d/\g=(a:I)/\m=aa b1 (c:I)/\c=kS b a) (λ_ g=>d-(aw g).toNat);case atStart=>exact⟨0,0,a3 _,J,J,J⟩
 obtain⟨a,c,u,rfl,rfl,e⟩:=hrel;by_cases Ch:a<d
 ·obtain⟨v,w,rfl,x⟩:=j a Ch;have y:=aJ a;have z:(a:I)<d:=by omega
  have n:H (eC c (ae b a)=kS b (a+1)):=Q (by rw[e];exact(MP b a c1).symm);have o:=Q (show c<18446744073709551616 by rw[e];exact MR _ _);clear e;go_wp2_with fail;refine mR (tH c (ae b a) _ o.out) ?_;go_wp2_with fail;go_round;case rel=>exact⟨a+1,_,O,aK,J,n⟩
  simp[aw];omega
 have p:a=d:=O
 subst p;have q:=Q e;clear e;go_wp2;go_ret;rw[q];exact⟨J,J⟩
def xV(d:a<18446744073709551616)(e:64<=b):a.testBit b=F:=Nat.testBit_lt_two_pow (cg (show a<2^64 by simpa using d) (Nat.pow_le_pow_right av e))
def MT(f:a<18446744073709551616)(g:b<18446744073709551616)(h:∀c,c<64->a.testBit c=b.testBit c):a=b:=by apply Nat.eq_of_testBit_eq;intro c;by_cases i:c<64;exact h c i;rw[xV f O,xV g O]
def MU(b:N)(c:I)(a:N)(g:a<64):(eC b c).testBit a=(b.testBit a||decide (c=(a:I))):=by
 cases d:e8 c with
  |true=>have⟨e,h⟩:=q9 d;obtain⟨f,rfl⟩:=dw e;rw[pq b f a O];congr 1;rw[decide_eq_decide];omega
  |false=>have:=Mr d;unfold eC;rw[d,ak D,c9 O,Bool.or_false]
def MV(a:ad)(b c:N):oe a b c<0↔(ae a b<ae a c\/(ae a b=ae a c/\b<c)):=by
 unfold oe m' Lib.compareInt;repeat' split
 all_goals omega
def j1(a:ad)(b c:Fin (L a)):I:=oe a b.val c.val
def xW(a:ad)(b c:Fin (L a)):ltOf (j1 a) b c=T↔(ae a b.val<ae a c.val\/(ae a b.val=ae a c.val/\b.val<c.val)):=by unfold ltOf j1;rw[decide_eq_true_iff];exact MV a _ _
def tK(a:ad)(b c:Fin (L a)):ltOf (j1 a) b c=F↔¬(ae a b.val<ae a c.val\/(ae a b.val=ae a c.val/\b.val<c.val)):=by rw[<-xW];simp
def MW(b:ad):Go.Sort.SWO (ltOf (j1 b)):=by refine⟨λa=>?_,λa c d e f=>?_,λa c d e f=>?_⟩;rw[tK];omega;rw[xW]at*;omega;rw[tK]at*;omega
def MX(a:ad)(b c:Fin (L a))(d:ltOf (j1 a) b c=F)(e:ltOf (j1 a) c b=F):b=c:=by rw[tK]at*;exact Fin.ext O
def na(a:ad):E (Fin (L a)):=(List.finRange (L a)).mergeSort λb c=> !(ltOf (j1 a)) c b
def jc(a:ad):br:=(na a).map (·.val)
def hk(a:ad):ad:=(jc a).map λ(b:N)=>((b:N):I)
def xX(a:ad):(na a).length=L a:=by simp[na]
def rb(a:ad):(jc a).length=L a:=by simp[jc,xX]
def tL(a:ad):(hk a).length=L a:=by simp[hk,rb]
def MY(a:ad)(b:N)(d:b<L a):∃c:N,ae (hk a) b=(c:I)/\c<L a:=by
 have e:b<(na a).length:=by rw[xX];exact d
 refine⟨((na a)[b]).val,?_,((na a)[b]).isLt⟩;simp[ae,hk,jc,e7 e]
def MZ(d:B w w x)(m:w.drawn<=x.drawn):∃e f,x=Go.Sort.grow (w.drewN e) f:=by
 refine⟨x.drawn-w.drawn,x.heap.extract w x,?_⟩;obtain⟨g,h,i,n,j⟩:=d;have k:x.heap=w.heap++x.heap.extract w (x:N):=by
  apply Array.ext_getElem?;intro l;rw[Array.getElem?_append];split;·next c=>exact j l c
  next c=>
  rw[Array.getElem?_extract];split;congr 1;omega;rw[Array.getElem?_eq_none O]
 cases w;cases x;simp only[World.drewN,Go.Sort.grow]at*;subst g;subst h;subst i;congr 1;all_goals first|exact k|omega
def M0[Inhabited (Fin a)](c:Array (Fin a))(b:N)(d:b<c.size):(c.map λf=>((f.val:N):I))[b]! =((c[b]!).val:I):=by rw[getElem!_pos _ b (X d),getElem!_pos _ b d];simp
def l0(b:Fin a):V:=aa ac ((b.val:N):I)
def M1[Inhabited (Fin a)](b:Array (Fin a))(c:Array V):Go.Sort.putCells l0 0 b c=Go.Sort.putCells (aa ac) 0 (b.map λd=>((d.val:N):I)) c:=by
 unfold Go.Sort.putCells;congr 1;funext f d;simp only[Array.size_map,a3,true_and,bX,Nat.sub_zero];split;·next g=>rw[M0 b f g];rfl
 rfl
def xY[Inhabited (Fin a)](c:W)(d e:N)(b:Array (Fin a))(f:Array Obj):sortWorld l0 c d 0 e b f=Go.Sort.grow (Go.Sort.putRow (aa ac) (Go.Sort.ahead c e) d 0 (b.map λh=>((h.val:N):I))) f:=by unfold sortWorld Go.Sort.putRow;congr 2;funext i;exact M1 b i
def l1(a:W)(d:ad)(e:bp)(b:W):Prop:=∃c,e=aq c/\ay b a c d/\B a a b
def M2(a:W)(b:N)(k:b<=1000000000):∃c,(Instr.makeSlice 22 (b:I) (b:I)).run ab a= .ok (S (A (a:N)) b b) c/\ay c a (S (A (a:N)) b b) (List.replicate b 0)/\B a a c:=by have⟨e,f,g,h,IC⟩:=ew hR;have⟨c,i,d,j⟩:=run_make_full (P:=ab) a a 22 3 e (0:I) 1 underlying22 f g h ac ac b jJ eQ (aL _);refine⟨c,i,xT _ _ _ _ ?_,(aS a a).grown j (aL _) D⟩;rw[Nat.mul_one]at d;exact d
def gr(b c:N):ad:=(List.range b).map λa=>if a<c then(a:I)else 0
def M3(a:N):gr a 0=List.replicate a 0:=by apply List.ext_getElem (by simp[gr]);intro b c d;simp[gr]
def j2(a b:N):(gr a b).length=a:=by simp[gr]
def M4(b a:N)(d:a<b):(gr b a).set a (a:I)=gr b (a+1):=by
 apply List.ext_getElem (by simp[gr]);intro e f g;simp only[gr,List.getElem_set,List.getElem_map,List.getElem_range];split;·next c=>subst c;rw[am O]
 next c=>split<;>split<;>first|rfl|omega
def M5{e:ad}(j:ay w a (S (A b) c d) e):c=L e/\a<=b/\L e<=d/\d<=maxLen/\∃f,w.heap[b]? =A (az f 3 (0,0))/\f.size=d*1/\f.toList.take (L e)=e.map (aa ac):=by rcases j.2 with⟨n,_⟩|⟨u,v,f,o,p,q,r,s,t,i⟩;cases n;cases o;exact⟨J,p,r,s,f,q,t,by rw[Nat.mul_one]at i;exact i⟩
def M6(g:N)(o:V)(a:ad)(b:N)(c:W)(s:aX c o a)(R:∀e j k p,o=S (A ⟨e,j,Z⟩) k p->e<b)(U:g<b)(Y:C c g=A o)(ae:0<L a)(aJ:L a<=1000000000)(ag:ay c b (S (A b) (L a) (L a)) (gr (L a) (L a))):ap ab 311 #[S (A b) (L a) (L a),.func (.func 312) #[] #[aM (A g)]] c λu v=>u=aq (aZ #[])/\ay v b (S (A b) (L a) (L a)) (hk a)/\B b c v:=by
 haveI:Inhabited (Fin (L a)):=⟨⟨0,ae⟩⟩
 have⟨_,_,_,_,aK,q,ah,w⟩:=M5 ag;rw[j2]at w;have x:(List.finRange (L a)).toArray.size=L a:=D
 have y:=(bM.1 q).1;have ai:Go.Sort.Holds l0 c b 0 (List.finRange (L a)).toArray:=by
  intro l z;have G:l<L a:=X z
  have⟨r,e⟩:=(holds_of_blockI (ss:=gr (L a) (L a)) q (by rw[j2];exact w)) l (by simpa[j2]using G);refine⟨?_,e⟩;rw[r,getElem!_pos _ l (by simpa[j2]using G),getElem!_pos _ l z];simp[gr,l0];intro aN;omega
 have H:∀f d (i:Array (Fin (L a))),B b c (sortWorld l0 c b 0 f i d):=λf d i=>by rw[xY];exact(aS b c).grown (grownBy_sortedI _) (iv y) (λaO t=>dX)
 have al:CmpLays1 ab 312 #[aM (A g)] l0 (j1 a) b 0 (List.finRange (L a)).toArray.size c:=by
  intro f d i aP h m;have K:=H f d i;generalize sortWorld l0 c b 0 f i d=M at*;obtain⟨am,k,p,rfl,aQ,_,aR⟩:=s.open;have an:aX M (S am k p) a:=by obtain⟨r,ar,O,av,n,ax⟩:=s;refine⟨r,ar,O,av,n,λaA aC=>?_⟩;have⟨e,j,ha,aD⟩:=ax aA aC;exact⟨e,j,ha,(ey (K.block e (R e j _ _ (by rw[O,ha])))).trans aD⟩
  refine mU (Mh g _ a h.val m.val M an ((ey (K.block g U)).trans Y) h.isLt m.isLt) λaE ⟨aF,aG⟩=>?_;exact⟨J,MZ aF aG⟩
 have P:=slices_SortFunc_total l0 (λ_=>rfl) (j1 a) (MW a) 312 #[aM (A g)] b 0 (L a) (List.finRange (L a)).toArray c (λ_ _=>aT) al ai y (by rw[x];omega) (MX a);rw[x]at P;refine P.mono ?_;rintro u aE ⟨rfl,f,d,rfl⟩;refine⟨J,?_,H f d _⟩;rw[xY];have Q:=tL a;have n:=ownsRow_sortedI (n:=f) (os:=d) (ss:=gr (L a) (L a)) (ts:=hk a) (by rw[Q,j2]) (aL b) q (by rw[j2];exact aL _) eQ ah;rw[j2]at n;unfold ay;rw[Q];have aI:(hk a).toArray=((List.finRange (L a)).toArray.toList.mergeSort λh m=> !(ltOf (j1 a)) m h).toArray.map λh=>((h.val:N):I):=by simp[hk,jc,na,List.map_map]
 rw[<-aI];exact n
def M7(Y:Value)(i:List Int)(c:World)(ad:aX c Y i)(aD:i.length<=1000000000):Calls prog 304 #[Y] c (l1 c (hk i)):=by
 obtain⟨l,a,m,rfl,p,_,aF⟩:=ad.open;obtain⟨e,ae,x,bc,ag⟩:∃e,c.alloc (.cells #[.slice l a m] 22)=e/\Below (c:Nat) c e/\e.heap.size=(c:Nat)+1/\e.cell? ⟨c,0,none⟩=some (.slice l a m):=⟨_,rfl,aN _ _,D,aE⟩
 obtain⟨y,z,r,G⟩:=M2 e a O;have aG:=(ad.bw x).bw G;have Ch:∀d f j h,Value.slice l a m= .slice (some ⟨d,f,none⟩) j h->0<a->d<e.heap.size:=by intro d f j h k hp;simp only[Value.slice.injEq]at k;obtain⟨rfl,rfl,rfl⟩:=k;obtain⟨be,bf,ah,M⟩:=aF 0 hp;simp only[Option.some.injEq,Addr.mk.injEq,and_true]at ah;obtain⟨rfl,rfl⟩:=ah;have aI:=World.block_lt_of_cell? _ _ M;simp only at aI;omega
 have ai:=s G ag;rw[<-M3 a]at r;have t:(c:Nat)<e.heap.size:=O
 obtain⟨ak,P⟩:=K (c:Nat);obtain⟨g,R⟩:=K e.heap.size;rw[<-P]at ag ai t;rw[<-R]at z r t;have al:=λd f j h k hp=>R▸Ch d f j h k hp;have aL:=Q (λ(u:World) (v:Below g y u) (hp:0<a) (n:ay u g (.slice (some ⟨g,0,none⟩) a a) (gr a a))=>by
  have aO:aX u (.slice l a m) i:=by obtain⟨aP,h,am,aQ,aR,aS⟩:=aG;refine⟨aP,h,am,aQ,aR,λo aT=>?_⟩;obtain⟨d,f,ha,M⟩:=aS o aT;have aU:=al d f _ _ (by rw[am,ha]) hp;exact⟨d,f,ha,(World.cell?_of_block (v.block d aU)).trans M⟩
  have an:=M6 ak (.slice l a m) i g u aO (λd f j h k=>al d f j h k hp) t ((World.cell?_of_block (v.block ak t)).trans ai) O aD (by rw[p];exact n);rw[p]at an;exact an)
 have aV:Below (c:Nat) c y:=q x G;have w:(c:Nat)<=g:=O
 have ar:=Q aV;change H _ at ae z r p x P R;go_in;go_upto_region 1 with fail;rw[ae.oo];try rw[<-P.oo]
 go_wp2_with fail;rw[z.oo];go_wp2_with fail;go_loopw [10] (λo wr=>∃b:Nat,o= .int .i64 b/\b<=a/\ay wr g (.slice (some ⟨g,0,none⟩) a a) (gr a b)/\Below g y wr) (λo _=>a-(aw o).toNat);exact⟨0,rfl,Nat.zero_le _,r.oo,Below.refl _ _⟩;obtain⟨b,rfl,bg,n,av⟩:=hrel;by_cases Ch:b<a
 ·obtain⟨g2,bh,ax,_,_,_,aW⟩:=n.out (by rw[j2];omega);simp only[Value.slice.injEq,Option.some.injEq,Addr.mk.injEq,and_true]at ax;obtain⟨rfl,aY,a0⟩:=ax;clear aY a0;obtain⟨a1,hF⟩:=aW b (by rw[j2];exact Ch);rw[Nat.zero_add]at a1 hF;have U:=n.set b (b:Int) (by rw[j2];exact Ch);rw[M4 a b Ch,Nat.zero_add]at U;have aA:=av.setCell (p:=⟨g,b,none⟩) (Nat.le_refl _) (.int .i64 (b:Int));change H _ at U aA;have bk:=aJ b;have bl:(b:Int)<a:=by omega
  go_wp2;go_roundw;case rel=>exact⟨b+1,aK,O,U.oo,aA.oo⟩
  exact hQ
 have a2:b=a:=O
 subst a2;have a3:=av;have a4:=n;have X:=Q a3;have aC:=Q a4;go_wp2_with fail;by_cases hp:0<b;·refine mU (aL.oo _ X.oo hp aC.oo) λbm ⟨a5,v⟩=>?_;have a6:=ar.oo.trans ((X.oo.trans v).mono w);have a8:=Q a5;go_wp2;go_ret;exact⟨_,rfl,a8.oo.mono w,a6⟩
 have a9:b=0:=O
 subst a9;refine mR (slices_SortFunc_none (α:=Nat) _ _ _ _) ?_;go_wp2;go_ret;have ba:i=[]:=List.length_eq_zero_iff.1 p.oo;subst ba;have bb:hk ([]:List Int)=gr 0 0:=(List.length_eq_zero_iff.1 (tL [])).trans rfl;exact⟨_,rfl,bb▸aC.oo.mono w,ar.oo.trans (X.oo.mono w)⟩
def co(a:b7)(b:N):I×a4:=a.getD b (0,0,0)
def M8{b:b7}(d:a<L b):co b a=b[a]:=by simp[co,d]
def xZ{b:b7}(c:a<L b):co b a∈b:=by rw[M8 c];exact dY c
def eY(e:W)(h:V)(b:b7):Prop:=∃(g:bz) (f:N),h=S g (L b) f/\L b<=f/\f<=9223372036854775807/\∀a,a<L b->∃c d,g=A ⟨c,d,Z⟩/\C e ⟨c,d+a*3,Z⟩=A (aa ac (co b a).1)/\C e ⟨c,d+a*3+1,Z⟩=A (aa ac (co b a).2.1)/\C e ⟨c,d+a*3+2,Z⟩=A (aa ac (co b a).2.2)
def eY.nil(a:W):eY a (S Z 0 0) []:=⟨Z,0,J,D,D,λc b=>absurd b D⟩
def eY.open{b:b7}(i:eY w u b):∃(d:bz)(e c:N),u=S d e c/\L b=e/\e<=c/\c<=9223372036854775807/\∀a,a<e->∃f g,d=A ⟨f,g,Z⟩/\C w ⟨f,g+a*3,Z⟩=A (aa ac (co b a).1)/\C w ⟨f,g+a*3+1,Z⟩=A (aa ac (co b a).2.1)/\C w ⟨f,g+a*3+2,Z⟩=A (aa ac (co b a).2.2):=by obtain⟨d,c,rfl,k,l,m⟩:=i;exact⟨d,L b,c,J,J,k,l,m⟩
def h2(b:b7):aP:=b.flatMap λa=>[a.1,a.2.1,a.2.2]
def M9(b:b7)(a:I×a4):h2 (b++[a])=h2 b++[aa ac a.1,aa ac a.2.1,aa ac a.2.2]:=by simp[h2]
def M'(b:b7)(a:N)(d:a<L b):(h2 b)[a*3]? =A (aa ac (co b a).1)/\(h2 b)[a*3+1]? =A (aa ac (co b a).2.1)/\(h2 b)[a*3+2]? =A (aa ac (co b a).2.2):=by
 induction b generalizing a with
  |nil=>simp at d
  |cons c b e=>
   match a with
    |0=>simp[h2,co]
    |a+1=>
     have f:h2 (c::b)=aa ac c.1::aa ac c.2.1::aa ac c.2.2::h2 b:=J;rw[f,show(a+1)*3=a*3+1+1+1 by omega,show a*3+1+1+1+1=(a*3+1)+1+1+1 by omega,show a*3+1+1+1+2=(a*3+2)+1+1+1 by omega];simp only[List.getElem?_cons_succ];have g:co (c::b) (a+1)=co b a:=by simp[co]
     rw[g];exact e a (X d)
def dz(b:bj)(c:W)(d:N)(e:V)(a:b7):Prop:=c.ownsRow d b 3 e (L a) (h2 a)
def dz.nil(a:bj)(b:W)(c:N):dz a b c (S Z 0 0) []:=World.ownsRow_nil _ _ _ _
def dz.cells{m:bj}{b:b7}(j:dz m w a u b):(u=S Z 0 0/\b=[])\/∃c h,u=S (A ⟨c,0,Z⟩) (L b) h/\L b<=h/\h<=maxLen/\a<=c/\c<(w:N)/\∀d,d<L b->C w ⟨c,d*3,Z⟩=A (aa ac (co b d).1)/\C w ⟨c,d*3+1,Z⟩=A (aa ac (co b d).2.1)/\C w ⟨c,d*3+2,Z⟩=A (aa ac (co b d).2.2):=by
 rcases bW j with⟨rfl,o⟩|⟨c,p,rfl,q,r,s,t⟩;exact .inl ⟨J,dn.1 o⟩;have i:∀f g,(h2 b)[f]? =A g->C w ⟨c,f,Z⟩=A g:=λf g v=>by have⟨H,l,x⟩:=hb j f g v;simp only[af,a2]at l;subst l;exact x
 refine .inr ⟨c,p,J,q,r,s,t,λd y=>?_⟩;have⟨z,D,G⟩:=M' b d y;exact⟨i _ _ z,i _ _ D,i _ _ G⟩
def dz.BC{e:bj}{b:b7}(f:dz e w a u b):eY w u b:=by rcases f.cells with⟨rfl,rfl⟩|⟨d,h,rfl,i,j,_,_,k⟩;exact eY.nil w;exact⟨A ⟨d,0,Z⟩,h,J,i,j,λl m=>⟨d,0,J,by rw[bX];exact k l m⟩⟩
def dz.lt{c:bj}{d:b7}(e:dz c w a u d):∀b,af u=A b->a<=b/\b<(w:N):=bI e
def dz.kept{c:bj}{d:b7}{r:Option N}(e:dz c w a u d)(h:w.grownBy x r)(j:af u=Z\/af u≠r):dz c x a u d:=gd e h j
def dz.bw{b:bj}{Kx:W}{Kl:V}{c:b7}(e:dz b w a Kl c)(g:B w w Kx):dz b Kx a Kl c:=gd (row:=Z) e (dS g) mM
def dz.mono{b:bj}{B':N}{c:b7}(d:dz b w a u c)(h:B'<=a):dz b w B' u c:=o5 d h
def tM(a:W)(c d e:I):∃b,a.alloc (az #[c,d,e] 350)=b/\B a a b/\b.heap.size=(a:N)+1/\C b a=A (aa ac c)/\C b ⟨a,1,Z⟩=A (aa ac d)/\C b ⟨a,2,Z⟩=A (aa ac e):=⟨_,J,aN _ _,D,aE,aE,aE⟩
def Na:(ab.info? 350).map (λa=>(a.zero,a.size,a.bytes))=A (A (ao #[(0:I),(0:I),(0:I)]),3,24):=aT
def x0{o:Array bd}{p:E bd}{h:bd}{i:a'}{q:bJ}(v:h.guard=Z)(m n:Operand)(w:h.op= .call {callee:=.builtin .append,args:=#[m,n],argTypes:=#[387,387]})(a:W)(c:N)(f:V)(b:b7)(j k l:I)(x:i.eval m=f)(y:i.eval n=S (A (a:N)) 1 1)(r:dz 350 a c f b)(z:L b+1<=1000000000000)(D:c<=(a:N))(G:∀d s e,dz 350 e c (S (A ⟨d,0,Z⟩) (L b+1) s) (b++[(j,k,l)])->a.grownBy e (af f)->B c a e->(af f=A d\/a<=d)->wpList ab o q p (i.put h.dst (S (A ⟨d,0,Z⟩) (L b+1) s)) e):wpList ab o q (h::p) i (a.alloc (az #[j,k,l] 350)):=by refine fr v m n 387 350 _ 3 24 underlying387 Na J av av w _ c f (L b) (h2 b) [j,k,l] a x y (ax.new a [j,k,l] _) J (by intro U t;simp at t;rcases t with rfl|rfl|rfl<;>rfl) (World.ownsRow.alloc r _) z aF ?_;intro d H e K M X g Y ad;have u:=c2 (World.grownBy_alloc a _ _) M;refine G d H e (by simpa[dz,M9]using K) u ((aS c a).grown u D (λO P=>(r.lt O P).1)) ?_;rcases g with g|g;exact .inl g;exact .inr (by rw[g];simp)
def jd(a:I):I:=aB (-a)
def ds(c:ai)(d:ad)(b:I)(e:N):b7:=((d.take e).filter λa=>a !=b).map λa=>(b,a,pm c b a)
def eg(a:ai)(b:ad)(c:I)(d:N):ad:=(ds a b c d).map λe=>jd e.2.2
def x1(d:ai)(a:ad)(c:I)(b:N)(e:b<L a)(f:ae a b=c):ds d a c (b+1)=ds d a c b:=by unfold ds;rw[s1 a b e,h1,f];simp
def x2(d:ai)(a:ad)(c:I)(b:N)(e:b<L a)(f:ae a b≠c):ds d a c (b+1)=ds d a c b++[(c,ae a b,pm d c (ae a b))]:=by unfold ds;rw[s1 a b e,h1,ck];simp[f]
def Nb(d:ai)(a:ad)(c:I)(b:N)(e:b<L a)(f:ae a b≠c):eg d a c (b+1)=eg d a c b++[jd (pm d c (ae a b))]:=by unfold eg;rw[x2 d a c b e f,ck];rfl
def Nc(d:ai)(a:ad)(c:I)(b:N)(e:b<L a)(f:ae a b=c):eg d a c (b+1)=eg d a c b:=by unfold eg;rw[x1 d a c b e f]
def x3(b:ai)(a:ad)(c:I)(d:N):(ds b a c d).length<=L a:=by unfold ds;rw[de];exact a1 (List.length_filter_le _ _) oZ
def nb(a:ai)(b:ad)(c:I)(d:N):(eg a b c d).length=(ds a b c d).length:=by simp[eg]
def je(b:ai)(a:ad)(c:I)(d:N):b7:=((jc (eg b a c (L a))).take d).map λe=>co (ds b a c (L a)) e
def fZ(b:ai)(a:ad)(c:I):b7:=(jc (eg b a c (L a))).map λd=>co (ds b a c (L a)) d
def Nd(b:ai)(a:ad)(c:I):je b a c (ds b a c (L a)).length=fZ b a c:=by unfold je fZ;rw[cm (by rw[rb,nb];exact aL _)]
def Nf(b:ai)(a:ad)(c:I)(d:N)(g:d<(ds b a c (L a)).length):∃e,ae (hk (eg b a c (L a))) d=((e:N):I)/\e<(ds b a c (L a)).length/\je b a c (d+1)=je b a c d++[co (ds b a c (L a)) e]:=by
 have h:d<(jc (eg b a c (L a))).length:=by rw[rb,nb];exact g
 have⟨e,f,i⟩:=MY (eg b a c (L a)) d (by rw[nb];exact g);refine⟨e,f,by rw[<-nb];exact i,?_⟩;have j:(jc (eg b a c (L a)))[d]=e:=by
  have:ae (hk (eg b a c (L a))) d=(((jc (eg b a c (L a)))[d]:N):I):=by simp[ae,hk,e7 h]
  rw[this]at f;exact_mod_cast f
 unfold je;rw[eR h,ck,j];rfl
def Ng(b:ai)(c:ad)(d:I)(a:N):(je b c d a).length<=a:=by unfold je;rw[de,dd];omega
def Nh(b:ai)(a:ad)(c:I):(fZ b a c).length<=L a:=by unfold fZ;rw[de,rb,nb];exact x3 _ _ _ _
def Ni(c:ai)(a:ad)(b:I)(d:I×a4)(e:d∈fZ c a b):d.1=b/\d.2.1∈a:=by
 unfold fZ at e;obtain⟨f,g,rfl⟩:=List.mem_map.1 e;have i:f<(ds c a b (L a)).length:=by unfold jc at g;obtain⟨j,_,rfl⟩:=List.mem_map.1 g;rw[<-nb];exact j.isLt
 have h:=xZ i;generalize co (ds c a b (L a)) f=l at*;unfold ds at h;obtain⟨m,k,rfl⟩:=List.mem_map.1 h;exact⟨J,List.mem_of_mem_take (List.mem_filter.1 k).1⟩
section
def rc(a:W):(zeroValue 3).run ab a= .ok (0:I) a:=by kernel_rfl
def l2(YG:aD)(b:W)(a e:N)(f:V)(g:YG a):M YG b (aj b ⟨a,e,Z⟩ f):=(M.grown (I':=λc=>c=a) (bn b ⟨a,e,Z⟩ f) (λc d=>X d.symm)).mono λc _ d=>d▸g
def M.tr{YG:aD}{a YC b:W}(c:M YG a YC)(d:M YG YC b):M YG a b:=c.trans d I2 I2
section
variable{YC YD YE:N}{YF:W}{YG:aD}{YH:ag}{YI:V}{YJ:I->Option I}
def tN(f:cX YC YF YD YG YH YI YE YJ)(c b:N)(n:c<L YH)(l:b<L YH):ap ab 355 #[aM (A YD),c,b] YF λd a8=>d=aq (aZ #[])/\cn YC YF YD YG (cM YH c b) a8:=by
 have r:=f.set;have g:=f;obtain⟨e,bz,rfl,a9,bA,z⟩:=f.own.cells O;have ba:YG e:=by rw[r];exact .inr (.inr J)
 have bb:YG YE:=by rw[r];exact .inr (.inl J)
 have D:e≠YD:=λd=>f.ng (by rw[<-d];rfl);have aC:e≠YE:=λd=>f.nm (by rw[<-d];rfl);have⟨G,P,be,bg⟩:=z c n;have⟨R,U,bh,bi⟩:=z b l;have⟨⟨X,Y⟩,ha⟩:=K (al YH c);have⟨⟨ad,ae⟩,ag⟩:=K (al YH b);have aD:cM YH c b=(YH.set c (ad,ae)).set b (X,Y):=by unfold cM;rw[<-ha,<-ag]
 rw[<-ha]at G P;rw[<-ag]at R U;simp only at G P R U;have⟨ah,t⟩:=K ((aj YF ⟨e,c*2,Z⟩ ad).setCell ⟨e,c*2+1,Z⟩ ae);have u:=f.own.lF c ad ae n;have aE:M (λa=>a=e) YF ah:=by rw[t];exact(l2 (λa=>a=e) _ _ _ _ J).tr (l2 (λa=>a=e) _ _ _ _ J)
 rw[<-t]at u;have⟨_,_,d,_,_,aF⟩:=u.cells (by rw[b'];omega);simp only[bf,a2,bN,bT]at d;obtain⟨rfl,_,rfl⟩:=d;have⟨bk,bl,bm,bn⟩:=aF b (by rw[b'];exact l);have⟨h,v⟩:=K ((aj ah ⟨e,b*2,Z⟩ X).setCell ⟨e,b*2+1,Z⟩ Y);have w:=u.lF b X Y (by rw[b'];exact l);have aG:M (λa=>a=e) ah h:=by rw[v];exact(l2 (λa=>a=e) _ _ _ _ J).tr (l2 (λa=>a=e) _ _ _ _ J)
 rw[<-v,<-aD]at w;have m:=aE.tr aG;have⟨_,_,d,_,_,ai⟩:=w.cells (by rw[dH];omega);simp only[bf,a2,bN,bT]at d;obtain⟨rfl,_,rfl⟩:=d;have⟨ak,_,_,_⟩:=ai c (by rw[dH];exact n);have⟨aI,_,_,_⟩:=ai b (by rw[dH];exact l);have x:=f.at_.swap n l;have⟨u1,aK⟩:=K ((al (cM YH c b) c).1);have⟨u2,aL⟩:=K ((al (cM YH c b) b).1);rw[<-aK]at ak x;rw[<-aL]at aI x;have aN:¬YD=YE:=f.ne;have am:=f.c0;have aP:=f.c1;have o:=m.cell am D.symm;have ar:=m.cell aP D.symm;have aQ:=f.map.aO m (Ne.symm aC);have aS:M YG YF h:=m.mono λa _ d=>d▸ba;have bo:(cM YH c b).length=L YH:=dH _ _ _;have bq:H (∀(y:W) (p:I->Option I),M (λa=>a=YE) h y->cs y YE p->(∀a,p a=if a=u2 then A (b:I)else if a=u1 then A (c:I)else YJ a)->cn YC YF YD YG (cM YH c b) y):=Q (λy p i br bs=>by have bt:∀a,a=YE->YG a:=λa d=>d▸bb;refine⟨YG,_,YE,p,⟨i.cell o g.ne,i.cell ar g.ne,i.free (m.free g.f0 (aR _ _ g.c0) D.symm) (aR _ _ o) g.ne,w.aO i (λa d bB=>by simp[af]at d;omega),br,?_,g.ne,g.ng,g.nm,g.oh,r⟩,aS.tr (i.mono λa _ d=>bt a d),λa i=>.inl i⟩;rw[show p=_ from funext bs];exact x);have⟨aT,aU⟩:=K (L YH);rw[<-aU]at am o n l;have bC:=aJ c;have bD:(c:I)<aT:=O
 have bE:=aJ b;have bF:(b:I)<aT:=O
 change H _ at t v u w;change H _ at x;clear f g r z aF ai ha ag aD aE aG m aS aK aL a9 bo aU;go_in;clear aP;go_upto_region 0 with fail;refine bv [0,1,2,4,5,6,7,9,10,11,12,14,17,18,19,21,103,108,113,15,116,120,22,123,24,325,26,327] ?_;iterate 25 refine mS ?_
 refine b4 λav j=>?_;go_simp;try rw[<-t]
 refine j _ _ ?_;clear am;refine mS ?_;refine b4 λav j=>?_;go_simp;try rw[<-v]
 refine j _ _ ?_;refine bc ?_;clear G P R U be bg bh bi bk bl bm bn;have⟨ax,ay⟩:=K h.drew;try rw[<-ay]
 have k:B h h ax:=by rw[ay];exact an _
 have aV:=s k o;have aW:=s k ar;have bu:=s k ak;have aX:=aQ.bw k;clear ay aQ ak;go_upto_region 1 with fail;refine bv [0,1,2,4,5,6,8,12,103,107,9,10,111,313] ?_;iterate 13 refine mS ?_
 refine b4 λav j=>?_;refine pn (.tmp 35) (.tmp 43) (.tmp 44) 342 J ax.drew YE (aX.bw (an _)) underlying342 underlying3 u1 c J J J ?_;intro aA aY a0;refine j _ _ ?_;refine bc ?_;have q:M (λa=>a=YE) h aA:=(M.bw (k.trans ((an ax).mono k.size))).tr a0;have aV:=q.cell o aN;have aW:=q.cell ar aN;have bx:=q.cell aI aC;clear bu aX;go_upto_region 2 with fail;refine bv [0,1,2,4,5,6,8,12,103,107,9,10,111,313] ?_;iterate 13 refine mS ?_
 refine b4 λav j=>?_;refine pn (.tmp 48) (.tmp 56) (.tmp 57) 342 J aA.drew YE (aY.bw (an _)) underlying342 underlying3 u2 b J J J ?_;intro a1 a3 a4;refine j _ _ ?_;clear aV aW bx;refine bc ?_;have a5:M (λa=>a=YE) h a1:=q.tr ((M.bw (an aA)).tr a4);have a6:=bq a1 _ a5 a3 (λ_=>rfl);change H _ at a6;clear aY a3 a0 a4 q a5 k;go_wp2;go_end0;exact⟨J,a6⟩
end
end
section
def Nj(b:ag)(a:N):be (b.take a)=(be b).take (a*2):=by
 induction b generalizing a with
  |nil=>simp[be]
  |cons g b f=>
   have e:∀(c:a4) (d:ag),be (c::d)=aa ac c.1::aa ac c.2::be d:=λc d=>by simp[be]
   cases a with
    |zero=>simp[be]
    |succ a=>rw[List.take_succ_cons,e,e,f,show(a+1)*2=a*2+1+1 by omega];simp
def aW.cut{e:bj}{YN:W}{YK c h d:N}{b:ag}(i:aW e YN YK (S (A c) h d) b)(a:N)(r:a<=L b):aW e YN YK (S (A c) a d) (b.take a):=by
 have f:(b.take a).length=a:=by rw[dd];omega
 obtain⟨s,j⟩:=i;unfold aW;rw[f];refine⟨by rw[g7,f];omega,?_⟩;rcases j with⟨k,_⟩|⟨t,u,l,g,m,n,v,o,p,q⟩;simp at k;simp only[bf,a2,bN,bT]at g;obtain⟨rfl,rfl,rfl⟩:=g;refine .inr ⟨c,d,l,J,m,n,O,o,p,?_⟩;rw[Nj,<-q,List.take_take,Nat.min_eq_left O]
def aW.snoc{b:bj}{YN:W}{YK n:N}{c:V}{a:ag}{d e:I}(f:YN.ownsRow YK b 2 c (L a+1) (be a++[aa ac d,aa ac e])):aW b YN YK c (a++[(d,e)]):=by unfold aW;rw[bL,sZ];exact f
def Nk:(ab.info? 407).map (λa=>(a.zero,a.size,a.bytes))=A (A (ao #[(0:I),(0:I)]),2,16):=by kernel_rfl
section
variable{YK YL YM:N}{YN:W}{YO:aD}{YP:ag}{YQ:V}{YR:I->Option I}
def Nl(b:cX YK YN YL YO YP YQ YM YR)(f e:I)(av:∀bf∈YP,bf.1≠f)(bg:L YP<=1000000000):ap ab 354 #[aM (A YL),.iface 407 (ao #[f,(e:I)])] YN λa bh=>a=aq (aZ #[])/\cn YK YN YL YO (YP++[(f,e)]) bh:=by
 have P:=b.set;have⟨R,ay,U,bi,X,ad⟩:=q8 YN f e;have l:=b.bw U;have aA:=b.at_.push (t:=(f,e)) av;obtain⟨n,o,rfl⟩:=tE b.own;have aC:H (∀(d g:W) (p:I->Option I) (g2 i:N),M (λc=>c=YM) YN d->cs d YM p->(∀c,p c=if c=f then A (L YP:I)else YR c)->d.heap.size<=g.heap.size->g.ownsRow YK 407 2 (S (A ⟨g2,0,Z⟩) (L YP+1) i) (L YP+1) (be YP++[aa ac f,aa ac e])->d.grownBy g (S n (L YP) o).ownBlock->((S n (L YP) o).ownBlock=A g2\/d.heap.size<=g2)->cn YK YN YL YO (YP++[(f,e)]) (aj g ⟨YL,0,Z⟩ (S (A ⟨g2,0,Z⟩) (L YP+1) i))):=Q (λd g p g2 i h aD bk bL bl bm ae=>by
  have m:=h.cell b.c0 b.ne;have bn:=h.cell b.c1 b.ne;have bo:YL<d.heap.size:=aR _ _ m;have r:M (λc=>(S n (L YP) o).ownBlock=A c) d g:=M.grown bm λc a=>a;have bq:=r.cell m b.ng;have br:=r.cell bn b.ng;have bt:=aD.aO r b.nm;have bu:g2≠YL:=by rcases ae with a|a;exact λe=>b.ng (e▸a);omega
  have bM:YM<d.heap.size:=aD.lt;have bx:g2≠YM:=by rcases ae with a|a;exact λe=>b.nm (e▸a);omega
  have ag:M (λc=>c=YL) g (aj g YL (S (A ⟨g2,0,Z⟩) (L YP+1) i)):=l2 (λc=>c=YL) _ _ _ _ J;refine⟨λc=>c=YL\/c=YM\/(S (A ⟨g2,0,Z⟩) (L YP+1) i).ownBlock=A c,_,YM,p,⟨bP _ _ _ (by rw[bq];rfl),by rw[cq _ _ _ _ D];exact br,by rw[bs];exact r.free (h.free b.f0 (aR _ _ b.c0) b.ne) bo b.ng,(aW.snoc (n:=0) bl).aO ag (λc a aE=>by simp[af]at a;omega),bt.aO ag (Ne.symm b.ne),?_,b.ne,by simpa[af]using bu,by simpa[af]using bx,b.oh,J⟩,?_,λc bz=>?_⟩;rw[show p=_ from funext bk];exact aA;rw[P];exact((h.mono λc _ a=>.inr (.inl a)).tr (r.mono λc _ a=>.inr (.inr a))).tr (ag.mono λc _ a=>.inl a);rw[P];rcases bz with a|a|a;exact .inl (.inl a);exact .inl (.inr (.inl a));simp only[af,a2]at a;subst a;rcases ae with a|a;exact .inl (.inr (.inr a));exact .inr (a1 h.size a))
 have w:=l.c0;have bA:=l.c1;have aF:¬YL=YM:=b.ne;have bN:YL<YN:=aR _ _ b.c0;have ah:=l.own;have aG:=l.map;have aI:=l.f0;have bB:H (YM<YN):=Q b.map.lt;have aJ:=Q b.nm;have ai:=Q b.ng;have bC:H (YK<=(YN:N)):=Q (Y b.oh.1);have aK:H (L YP+1<=1000000000000):=Q O;have⟨t,x⟩:=K (L YP);rw[<-x]at w ah aC aK aJ ai;have bD:=Q ah;change H _ at ay x U;clear ah;clear b l P aA bg av bi;have bO:∀ak,(Instr.typeAssert (.iface 407 (ao #[f,(e:I)])) 20 407 T).run ab ak= .ok (aZ #[ao #[f,(e:I)],au T]) ak:=λak=>by kernel_rfl
 go_in;go_upto_region 2 with fail;try rw[ay]
 refine bv [0,1,2,4,6,7,8,103,105,109,10,311] ?_;iterate 11 refine mS ?_
 refine b4 λaL u=>?_;refine pn (.tmp 15) (.tmp 17) (.tmp 22) 342 J R.drew YM (aG.bw (an _)) underlying342 underlying3 f t J J J ?_;intro d aN h;refine u _ _ ?_;refine bc ?_;have j:M (λc=>c=YM) R d:=(M.bw (an R)).tr h;have aP:M (λc=>c=YM) YN d:=(M.bw U).tr j;have aQ:¬(YN:N)=YM:=Y bB.oo
 have m:=j.cell w aF;have X:=j.cell X aQ;have ad:=j.cell ad aQ;have aS:=j.free aI (aR _ _ w) aF;have aT:=bD.aO j (λc a aE=>aJ (aE▸a));have⟨y,bE,aV,bF,aX,a0⟩:=q8 d f e;have v:=q aV (an y);have al:=aT.bw v;have a3:ax y.drew d.heap.size [f,(e:I)]:=λbG bH k=>by
  match bG,k with
   |0,k=>simp at k;subst k;exact aX
   |1,k=>simp at k;subst k;exact a0
 have am:=s v m;have a4:=aY v (aR _ _ m) aS;have a5:YL<(y.drew:N):=aR _ _ am;have a6:=Q aP;have z:=Q v;change H _ at aN am a4 a5 al a3;clear aP v;clear w bA aG aI aS h j aT aV bF aX a0;go_upto_region 3 with fail;refine bv [0,1,2,3,104,105,206,307,8,9,310] ?_;iterate 6 refine mS ?_
 refine aU λaL u=>?_;go_simp;try rw[bE]
 refine u _ _ (.mk z) ?_;clear m X ad;refine b4 λaL u=>?_;refine iy (.tmp 27) (.tmp 29) 399 407 _ 2 16 underlying399 Nk J (by decide) (by decide) J y.drew YK (S n t o) t (be YP) [f,(e:I)] d.heap.size J J a3 J (by intro bH a8;simp at a8;rcases a8 with rfl|rfl<;>rfl) (by rw[x];rw[x]at al;exact al) aK (by have:=bC.oo;have:=a6.size;have:=z.size;omega) ?_;intro g2 i g a9 G ba _;have ar:d.grownBy g (S n t o).ownBlock:=c2 (dS z) G;have bb:=aC d g _ g2 i a6 aN (λ_=>rfl) ar.size a9 ar (ba.imp id λa=>by rw[a];exact z.size);have bI:=G.cell am (λa=>ai a.symm);have bJ:=eS G a5 (λa=>ai a.symm) a4;change H _ at bb;refine u _ _ ?_;clear a9 G ba ar;iterate 3 refine mS ?_
 clear bI bJ;refine bc ?_;go_wp2;go_end0;exact⟨J,bb⟩
end
end
section
section
variable{YS YT YU:N}{YV:W}{YW:aD}{YX:ag}{YY:V}{YZ:I->Option I}
def tO(e:cX YS YV YT YW YX YY YU YZ)(am:0<L YX)(bg:L YX<=1000000000):ap ab 353 #[aM (A YT)] YV λb aX=>(∃a0,b=aq a0)/\cn YS YV YT YW YX.dropLast aX:=by
 have P:=e.set;obtain⟨d,o,rfl,bh,ar,av⟩:=e.own.cells am;obtain⟨c,p⟩:∃c,L YX=c+1:=⟨L YX-1,O⟩
 have⟨q,r,R,U⟩:=av c O;have t:d≠YT:=λb=>e.ng (by rw[<-b];rfl);have ax:d≠YU:=λb=>e.nm (by rw[<-b];rfl);have bi:YS<=d:=(e.own.lt d J).1;have m:=e.at_.pop am;rw[p,Nat.add_sub_cancel]at m;have⟨⟨X,a1⟩,ha⟩:=K (al YX c);rw[<-ha]at q r m;simp only at q r m;have⟨Y,ay,g,a2,aA,aC⟩:=q8 YV X a1;have ad:∀a,a=d\/a=YT\/a=YU->YW a:=λa b=>by rw[P];rcases b with b|b|b;exact .inr (.inr (by rw[b];rfl));exact .inl b;exact .inr (.inl b)
 have bk:YT<YV:=aR _ _ e.c0;have bl:YU<YV:=e.map.lt;have i:=e.bw g;have⟨ae,u⟩:=K ((aj Y ⟨d,c*2,Z⟩ (0:I)).setCell ⟨d,c*2+1,Z⟩ (0:I));have j:=i.own.lF c 0 0 O;have k:M (λa=>a=d) Y ae:=by rw[u];exact(l2 (λa=>a=d) _ _ _ _ J).tr (l2 (λa=>a=d) _ _ _ _ J)
 rw[<-u]at j;have j:=j.cut c (by rw[b'];omega);have hcut:(YX.set c (0,0)).take c=YX.dropLast:=by rw[List.dropLast_eq_take,p,Nat.add_sub_cancel,List.take_set_of_le (aL _)]
 rw[hcut]at j;have⟨f,l⟩:=K (aj ae YT (S (A d) c o));have v:M (λa=>a=YT) ae f:=by rw[l];exact l2 (λa=>a=YT) _ _ _ _ J
 have aD:=j.aO v (λa b a3=>by simp[af]at b;omega);have w:M (λa=>a=d\/a=YT\/a=YU) Y f:=(k.mono λa _ b=>.inl b).tr (v.mono λa _ b=>.inr (.inl b));have x:=i.c0;have a4:=i.c1;have ag:=k.cell x t.symm;have aE:=k.free i.f0 (aR _ _ x) t.symm;have ah:C f YT=A (S (A d) c o):=by rw[l];exact bP _ _ _ (by rw[ag];rfl)
 have aF:C f ⟨YT,1,Z⟩=A (.map (A YU)):=by rw[l,cq _ _ _ _ D];exact k.cell a4 t.symm
 have aG:aH f YT=F:=by rw[l,bs];exact aE
 have y:¬YT=YU:=e.ne;have aI:=(i.map.aO k (Ne.symm ax)).aO v (Ne.symm e.ne);have aK:¬(YV=d\/YV=YT\/YV=YU):=O
 have aN:=w.cell aA aK;have aP:=w.cell aC aK;have a5:YX.dropLast.length=c:=by rw[List.length_dropLast];omega
 have a6:H (∀(z:W) (n:I->Option I),M (λa=>a=YU) f z->cs z YU n->(∀a,n a=if a=X then Z else YZ a)->cn YS YV YT YW YX.dropLast z):=Q (λz n h a8 a9=>by refine⟨YW,S (A d) c o,YU,n,⟨h.cell ah y,h.cell aF y,h.free aG (aR _ _ ah) y,aD.aO h (λa b a3=>by simp[af]at b;omega),a8,?_,y,by simpa[af]using t,by simpa[af]using ax,e.oh,P⟩,?_,λa h=>.inl h⟩;rw[show n=_ from funext a9];exact m;exact((M.bw (I':=YW) g).tr (w.mono λa _ b=>ad a b)).tr (h.mono λa _ b=>ad a (.inr (.inr b))));have ba:=s g q;have bb:=s g r;have R:=aY g ar R;have U:=aY g ar U;have⟨ai,ak⟩:=K (L YX);rw[<-ak]at x ag p;have aQ:=e.c0;rw[<-ak]at aQ;have be:(ai:I)=c+1:=O
 have bm:=aJ c;have bn:(c:I)<ai:=O
 have bo:(c:I)<=o:=O
 have bq:IntKind.i64.wrap (c:I)=c:=hf _ O;have br:aB ((ai:I)-1)=(c:I):=by rw[be];exact(cV O O).trans O
 change H _ at ay u l ak p;clear e i P av ha m k v w j aD hcut ad a5 a2 g;go_in;go_upto_region 3 with fail;rw[ay];go_upto_region 4 with fail;rw[<-u];clear x q r aQ;go_upto_region 5 with fail;rw[<-l];refine bv [0,1,2,4,103,105,306] ?_;iterate 6 refine mS ?_
 refine b4 λbt bf=>?_;refine Mi (.tmp 37) (.tmp 39) 342 _ J f.drew YU (aI.bw (an _)) underlying342 underlying3 X J J ?_;intro aS aT aU;refine bf _ _ ?_;refine bc ?_;have G:M (λa=>a=YU) f aS:=(M.bw (an f)).tr aU;have aV:¬(YV:N)=YU:=O
 have aN:=G.cell aN aV;have aP:=G.cell aP aV;have aW:=a6 aS _ G aT (λ_=>rfl);change H _ at aW;clear ah aF aG aI aT aU G ag aE aA aC ba bb R U;go_wp2;go_ret;exact⟨⟨_,J⟩,aW⟩
end
end
section
section
variable{Y0 Y1 Y2:N}{Y3:W}{Y4:aD}{Y5:ag}{Y6:V}{Y7:I->Option I}
def x4(M:cX Y0 Y3 Y1 Y4 Y5 Y6 Y2 Y7)(f:N)(ad:f<L Y5)(ae:L Y5<=1000000000):ap ab 315 #[.iface 405 (aM (A Y1)),f] Y3 λk ah=>k=aq (aZ #[])/\cn Y0 Y3 Y1 Y4 (gT (f+1) Y5 f) ah:=by
 have P:cn Y0 Y3 Y1 Y4 Y5 Y3:=M.same (aS _ _);obtain⟨ai,q⟩:=K (gT (f+1) Y5 f);rw[<-q];have al:=Q q;change H _ at P;clear q;clear M;have aQ:∀a,(method 541 405 (aM (A Y1)) "Less").run ab a= .ok (352,aM (A Y1)) a:=λa=>by kernel_rfl
 have aR:∀a,(method 541 405 (aM (A Y1)) "Swap").run ab a= .ok (355,aM (A Y1)) a:=λa=>by kernel_rfl
 go_in;go_wp2;go_loopw [1] (λr wr=>∃(g h:N) (d:ag),r=g/\g<L d/\L d<=1000000000/\g<h/\gT h d g=ai/\cn Y0 Y3 Y1 Y4 d wr) (λr _=>(aw r).toNat);exact⟨f,f+1,Y5,J,ad,ae,fD _,al.symm,P⟩;obtain⟨g,h,d,rfl,s,an,t,c,o⟩:=hrel;obtain⟨i,rfl⟩:=K wr;obtain⟨h,rfl⟩:∃l,h=l+1:=⟨h-1,O⟩
 rw[gT]at c;rcases Nat.eq_zero_or_pos g with u|u;·subst u;rw[am (.inl D)]at c;rw[c]at o;have ar:=Q o;clear o;clear c t;go_wp2;go_end0;exact⟨J,ar⟩
 obtain⟨b,rfl⟩:∃b,g=b+1:=⟨g-1,O⟩
 obtain⟨e,R⟩:=K (b/2);have aT:(b:I)/2=(e:I):=O
 have aU:((e:I)==(b:I)+1)=F:=by simp;omega
 have aV:¬(e:I)=b+1:=O
 rw[Nat.add_sub_cancel,<-R]at c;have av:¬e=b+1:=O
 obtain⟨ax,aW,aX,aY,p,v,w⟩:=o;have x:=Q (xR p (b+1) e s O);have y:(cM d e (b+1)).length=L d:=dH _ _ _;have U:=Q (λ(a:W) (m:B i i a)=>tN (p.bw m) e (b+1) O s);have ay:=Q (λ(a aA:W) (aC:ag) (m:B i i a) (aD:cn Y0 a Y1 ax aC aA)=>cn.adC (Yq:=Y4) (Jg:=d) (v.then m) (λl k=>w l k) aD);have aF:=Q (λ(a:W) (m:B i i a)=>cn.adC (Yq:=Y4) (Jg:=d) v (λl k=>w l k) (p.same m));rw[show((b+1:N):I)=(b:I)+1 by omega]at x U;obtain⟨aG,X⟩:=K (hY d (b+1) e);rw[<-X]at x c;have z:H (e<b+1):=Q O;have aI:=Q s;have aJ:=Q an;have aK:=Q t;change H _ at y;clear t;clear p v w X R u;go_wp2_with fail;refine mU x λG n=>?_;cases aG with
  |false=>rw[am (.inr J)]at c;have j:=aF G n;rw[c]at j;change H _ at j;clear c n;go_wp2;go_end0;exact⟨J,j⟩
  |true=>rw[ak (by simp[av])]at c;have aL:=Q (U.oo G n);have aN:=Q c;have aO:=Q n;clear c n;go_wp2_with fail;refine mU aL λaP Y=>?_;have j:=ay G aP _ aO Y;change H _ at j;clear Y;go_wp2;go_roundw;exact⟨e,h,_,J,by rw[y];have:=aI.oo;have:=z.oo;omega,by rw[y];exact aJ,bi aK.oo z.oo,aN,j⟩;have:=z.oo;simp[aw];omega
end
end
section
section
variable{Y8 Y9 Y':N}{Za:W}{Zb:aD}{Zc:ag}{Zd:V}{Ze:I->Option I}
def Nm(o:cX Y8 Za Y9 Zb Zc Zd Y' Ze)(c:Nat)(aN:c<Zc.length)(v:Zc.length<=1000000000):Calls prog 318 #[.iface 405 (.pointer (some ⟨Y9,0,none⟩)),.int .i64 0,.int .i64 c] Za λx aO=>(∃aP,x= .returned (.bool aP))/\cn Y8 Za Y9 Zb (ef Zc.length Zc 0 c).1 aO:=by
 have aK:cn Y8 Za Y9 Zb Zc Za:=o.same (aS _ _);obtain⟨y,an⟩:=K ((ef (L Zc) Zc 0 c).1);rw[<-an];have a6:=Q v;have a8:=Q aN;have aQ:=Q an;change H _ at aK;clear an;clear o;have a9:∀h,(method 541 405 (aM (A Y9)) "Less").run ab h= .ok (352,aM (A Y9)) h:=λh=>by kernel_rfl
 have ba:∀h,(method 541 405 (aM (A Y9)) "Swap").run ab h= .ok (355,aM (A Y9)) h:=λh=>by kernel_rfl
 go_in;go_wp2;go_loopw [7] (λar wr=>∃(a k:N) (b:ag),ar=a/\a<=c/\L b=L Zc/\c<k+a/\(ef k b a c).1=y/\cn Y8 Za Y9 Zb b wr) (λar _=>c-(aw ar).toNat);exact⟨0,L Zc,Zc,J,a3 _,J,O,aQ.symm,aK⟩;obtain⟨a,k,b,rfl,bb,aR,av,l,ae⟩:=hrel;obtain⟨i,rfl⟩:=K wr;obtain⟨k,rfl⟩:∃z,k=z+1:=⟨k-1,O⟩
 rw[ef]at l;by_cases ax:c<=2*a+1
 ·rw[am (.inl ax)]at l;simp only at l;rw[l]at ae;have aT:decide ((c:I)<=2*(a:I)+1)=T:=by simp;omega
  have aU:=Q ae;clear ae;clear l av;go_wp2;go_ret;exact⟨⟨_,J⟩,aU⟩
 have aT:decide ((c:I)<=2*(a:I)+1)=F:=by simp;omega
 have bc:decide (2*(a:I)+1<0)=F:=by simp;omega
 obtain⟨aV,be,bf,bg,ah,ay,aA⟩:=ae;have bh:2*a+1<L b:=O
 have bi:aB (2*(a:I)+1)=2*(a:I)+1:=cV O O;have bk:aB (2*(a:I)+1+1)=2*(a:I)+2:=(cV O O).trans O;have bl:(2*(a:I)+1+1)=2*(a:I)+2:=O
 have d:H (a<c/\L b=L Zc/\c<L b/\c<k+1+a):=Q ⟨O,aR,O,av⟩;have bm:H (¬(c<=2*a+1)/\(ef (k+1) b a c)=ef (k+1) b a c):=Q ⟨ax,J⟩;have ai:=Q (λ(h:W) (G M:N) (u:B i i h) (aC:G<L b) (aD:M<L b)=>xR (ah.bw u) G M aC aD);have aE:=Q (λ(h:W) (G M:N) (u:B i i h) (aC:G<L b) (aD:M<L b)=>tN (ah.bw u) G M aC aD);have aF:=Q (λ(h aW:W) (aX:ag) (u:B i i h) (aY:cn Y8 h Y9 aV aX aW)=>cn.adC (Yq:=Zb) (Jg:=b) (ay.then u) (λz x=>aA z x) aY);have aG:=Q (λ(h:W) (u:B i i h)=>cn.adC (Yq:=Zb) (Jg:=b) ay (λz x=>aA z x) (ah.same u));have aI:H (∀w,hZ b a c=w->(if hY b w a=F then(b,a)else ef k (cM b a w) w c).1=y):=Q (λw a1=>by rw[a1]at l;by_cases v:hY b w a=F;rw[am (.inr v)]at l;rw[am v];exact l;rw[ak (λo=>by rcases o with o|o;exact ax o;exact v o)]at l;rw[ak v];exact l);clear ah ay aA l av;by_cases a2:2*a+2<c
 ·have a4:decide (2*(a:I)+2<(c:I))=T:=by simp;omega
  have aJ:=Q (ai.oo i (2*a+2) (2*a+1) (aS _ _) O O);obtain⟨a5,P⟩:=K (hY b (2*a+2) (2*a+1));rw[<-P]at aJ;rw[show((2*a+2:N):I)=2*(a:I)+2 by omega,show((2*a+1:N):I)=2*(a:I)+1 by omega]at aJ;go_wp2_with fail;refine mU aJ λaL al=>?_;cases a5 with
   |false=>
    have p:hZ b a c=2*a+1:=by unfold hZ;rw[ak (by rw[<-P];simp)]
    change H _ at p;clear P;have m:=Q (ai.oo aL (2*a+1) a al (Y d.oo) (Y d.oo));obtain⟨R,r⟩:=K (hY b (2*a+1) a);have f:=Q (aI.oo (2*a+1) p);rw[<-r]at m f;rw[show(((2*a+1):N):I)=2*(a:I)+1 by omega]at m;clear r;go_wp2_with fail;refine mU m λj n=>?_;have g:B i i j:=q al n;cases R with
     |false=>rw[am J]at f;have e:=aG j g;rw[show b=y from f]at e;change H _ at e;clear n g;go_wp2;go_ret;exact⟨⟨_,J⟩,e⟩
     |true=>
      rw[ak D]at f;have s:=Q (aE.oo j a (2*a+1) g (Y d.oo) (Y d.oo));rw[show(((2*a+1):N):I)=2*(a:I)+1 by omega]at s;have U:H ((cM b a (2*a+1)).length=L b):=Q (dH _ _ _);have X:=Q g;clear g;clear n;go_wp2_with fail;refine mU s λad t=>?_;have e:=aF j ad _ X t;change H _ at e;clear t;go_wp2;go_roundw;case rel=>exact⟨(2*a+1),k,_,by first|rfl|go_num,Y d.oo,by rw[U];exact d.2.1,Y d.oo,f,e⟩
      have:=d.oo;simp[aw];omega
   |true=>
    have p:hZ b a c=2*a+2:=by unfold hZ;rw[am ⟨a2,P.symm⟩]
    change H _ at p;clear P;have m:=Q (ai.oo aL (2*a+2) a al (Y d.oo) (Y d.oo));obtain⟨R,r⟩:=K (hY b (2*a+2) a);have f:=Q (aI.oo (2*a+2) p);rw[<-r]at m f;rw[show(((2*a+2):N):I)=2*(a:I)+2 by omega]at m;clear r;go_wp2_with fail;refine mU m λj n=>?_;have g:B i i j:=q al n;cases R with
     |false=>rw[am J]at f;have e:=aG j g;rw[show b=y from f]at e;change H _ at e;clear n g;go_wp2;go_ret;exact⟨⟨_,J⟩,e⟩
     |true=>
      rw[ak D]at f;have s:=Q (aE.oo j a (2*a+2) g (Y d.oo) (Y d.oo));rw[show(((2*a+2):N):I)=2*(a:I)+2 by omega]at s;have U:H ((cM b a (2*a+2)).length=L b):=Q (dH _ _ _);have X:=Q g;clear g;clear n;go_wp2_with fail;refine mU s λad t=>?_;have e:=aF j ad _ X t;change H _ at e;clear t;go_wp2;go_roundw;case rel=>exact⟨(2*a+2),k,_,by first|rfl|go_num,Y d.oo,by rw[U];exact d.2.1,Y d.oo,f,e⟩
      have:=d.oo;simp[aw];omega
 have a4:decide (2*(a:I)+2<(c:I))=F:=by simp;omega
 have p:hZ b a c=2*a+1:=by unfold hZ;rw[ak O]
 change H _ at p;have m:=Q (ai.oo i (2*a+1) a (aS _ _) (Y d.oo) (Y d.oo));obtain⟨R,r⟩:=K (hY b (2*a+1) a);have f:=Q (aI.oo (2*a+1) p);rw[<-r]at m f;rw[show(((2*a+1):N):I)=2*(a:I)+1 by omega]at m;clear r;go_wp2_with fail;refine mU m λj n=>?_;have g:B i i j:=q (aS _ _) n;cases R with
  |false=>rw[am J]at f;have e:=aG j g;rw[show b=y from f]at e;change H _ at e;clear n g;go_wp2;go_ret;exact⟨⟨_,J⟩,e⟩
  |true=>
   rw[ak D]at f;have s:=Q (aE.oo j a (2*a+1) g (Y d.oo) (Y d.oo));rw[show(((2*a+1):N):I)=2*(a:I)+1 by omega]at s;have U:H ((cM b a (2*a+1)).length=L b):=Q (dH _ _ _);have X:=Q g;clear g;clear n;go_wp2_with fail;refine mU s λad t=>?_;have e:=aF j ad _ X t;change H _ at e;clear t;go_wp2;go_roundw;case rel=>exact⟨(2*a+1),k,_,by first|rfl|go_num,Y d.oo,by rw[U];exact d.2.1,Y d.oo,f,e⟩
   have:=d.oo;simp[aw];omega
end
end
section
section
variable{Zf Zg Zh:N}{Zi:W}{Zj:aD}{Zk:ag}{Zl:V}{Zm:I->Option I}
def Nn(m:cX Zf Zi Zg Zj Zk Zl Zh Zm)(b c:I)(t:∀u∈Zk,u.1≠b)(v:L Zk<=100000000):ap ab 305 #[.iface 405 (aM (A Zg)),.iface 407 (ao #[b,c])] Zi λf w=>f=aq (aZ #[])/\cn Zf Zi Zg Zj (ja Zk (b,c)) w:=by
 have x:=Q (Nl m b c t O);have d:(Zk++[(b,c)]).length=L Zk+1:=D
 have n:H (ja Zk (b,c)=gT (L Zk+1) (Zk++[(b,c)]) (L Zk)):=Q J;have ad:∀a,(method 541 405 (aM (A Zg)) "Push").run ab a= .ok (354,aM (A Zg)) a:=λa=>by kernel_rfl
 have ae:∀a,(method 541 405 (aM (A Zg)) "Len").run ab a= .ok (351,aM (A Zg)) a:=λa=>by kernel_rfl
 obtain⟨g,o⟩:=K (L Zk);rw[<-o]at n v d;change H _ at d;clear m o;go_in;go_wp2_with fail;refine mU x λe ⟨y,ah,ai,f1,h,p,q⟩=>?_;have i:=Q (xQ h);rw[d]at i;have z:=Q (λ(a:W) (j:B e e a)=>x4 (h.bw j) g (by rw[d];omega) (by rw[d];omega));have G:=Q (λ(a M:W) (P:ag) (j:B e e a) (R:cn Zf a Zg y P M)=>cn.adC (Yq:=Zj) (Jg:=Zk) (p.then j) (λU f=>q U f) R);rw[show((g+1:N):I)=(g:I)+1 by omega]at i;clear h p q;go_wp2_with fail;refine mU i λr k=>?_;have X:=Q (z.oo r k);change H _ at k;go_wp2_with fail;refine mU X λY s=>?_;have l:=G r Y _ k s;rw[<-n]at l;change H _ at l;clear s;go_wp2;go_end0;exact⟨J,l⟩
def No(o:cX Zf Zi Zg Zj Zk Zl Zh Zm)(p:0<L Zk)(y:L Zk<=100000000):ap ab 316 #[.iface 405 (aM (A Zg)),(0:I)] Zi λe aA=>(∃q,e=aq q)/\cn Zf Zi Zg Zj (dK Zk) aA:=by
 have x:=Q (xQ o);have aQ:∀b,(method 541 405 (aM (A Zg)) "Swap").run ab b= .ok (355,aM (A Zg)) b:=λb=>by kernel_rfl
 have aR:∀b,(method 541 405 (aM (A Zg)) "Len").run ab b= .ok (351,aM (A Zg)) b:=λb=>by kernel_rfl
 have aS:∀b,(method 541 405 (aM (A Zg)) "Pop").run ab b= .ok (353,aM (A Zg)) b:=λb=>by kernel_rfl
 obtain⟨a,k⟩:∃a,L Zk=a+1:=⟨L Zk-1,O⟩
 rw[k]at x;rw[show((a+1:N):I)=(a:I)+1 by omega]at x;have l:H (dK Zk=if (L Zk)<=1 then[]else(ef (L Zk) (cM Zk 0 a) 0 a).1.dropLast):=Q (by unfold dK;rw[k,Nat.add_sub_cancel]);have aT:a<=100000000:=O
 have aU:IntKind.i64.wrap (a:I)=a:=hf _ O;go_in;go_wp2_with fail;refine mU x λz r=>?_;have s:=o.bw r;rcases Nat.eq_zero_or_pos a with G|G;·subst G;have m:=Q (tO s p O);rw[am O]at l;have P:Zk.dropLast=[]:=dn.1 (by rw[List.length_dropLast];omega);rw[P,<-l]at m;have aC:=Q (λ(f:W) (g:ag) (c:cn Zf z Zg Zj g f)=>cn.adC (Yq:=Zj) (Jg:=Zk) (M.bw r) (λaD e=>.inl e) c);clear o s k p y P;go_wp2_with fail;refine m.mono ?_;rintro e u ⟨⟨q,rfl⟩,c⟩;have i:=aC u _ c;change H _ at i;clear c;go_wp2;go_ret;exact⟨⟨_,J⟩,i⟩
 have aV:((a:I)!=0)=T:=by simp;omega
 rw[ak O]at l;have aE:=Q (tN s 0 a p O);have aF:=Q (λ(f:W) (g:ag) (c:cn Zf z Zg Zj g f)=>cn.adC (Yq:=Zj) (Jg:=Zk) (M.bw r) (λaD e=>.inl e) c);have n:(cM Zk 0 a).length=a+1:=by rw[dH];exact k
 have j:((ef (L Zk) (cM Zk 0 a) 0 a).1).length=a+1:=by rw[q7];exact n
 have aG:=Q k;change H _ at n j;clear o s k p y r;go_wp2_with fail;refine mU aE λu c=>?_;obtain⟨aI,aW,aX,aY,c,R,U⟩:=aF u _ c;have X:=Q (Nm c a (by rw[n];omega) (by rw[n];omega));rw[n,<-aG]at X;have aJ:=Q (λ(f:W) (g:ag) (d:cn Zf u Zg aI g f)=>cn.adC (Yq:=Zj) (Jg:=Zk) R U d);clear c R U;go_wp2_with fail;refine X.mono ?_;rintro e Y ⟨⟨aK,rfl⟩,d⟩;have d:=aJ Y _ d;obtain⟨aL,a0,a1,a2,d,ad,ae⟩:=d;obtain⟨ah,ai⟩:=K ((ef (L Zk) (cM Zk 0 a) 0 a).1);rw[<-ai]at d l j;have al:=Q (λ(f:W) (g:ag) (h:cn Zf Y Zg aL g f)=>cn.adC (Yq:=Zj) (Jg:=Zk) ad ae h);have m:=Q (tO d (by rw[j];omega) (by rw[j];omega));have an:=Q (x4 d 0 (by rw[j];omega) (by rw[j];omega));have ar:gT (0+1) ah 0=ah:=by unfold gT;rw[am (.inl D)]
 rw[ar]at an;rw[<-l]at m;clear d ad ae ai ar;cases aK with
  |true=>go_wp2_with fail;refine m.mono ?_;rintro e v ⟨⟨q,rfl⟩,h⟩;have i:=al v _ h;change H _ at i;clear h;go_wp2;go_ret;exact⟨⟨_,J⟩,i⟩
  |false=>go_wp2_with fail;refine mU an λv h=>?_;obtain⟨aN,a3,a4,a5,h,av,ax⟩:=al v _ h;have ay:=Q (tO h (by rw[j];omega) (by rw[j];omega));rw[<-l]at ay;have aO:=Q (λ(f:W) (g:ag) (w:cn Zf v Zg aN g f)=>cn.adC (Yq:=Zj) (Jg:=Zk) av ax w);clear h av ax;go_wp2_with fail;refine ay.mono ?_;rintro e aP ⟨⟨q,rfl⟩,w⟩;have i:=aO aP _ w;change H _ at i;clear w;go_wp2;go_ret;exact⟨⟨_,J⟩,i⟩
end
end
section
section
variable{Zn Zo Zp:N}{Zq:W}{Zr:aD}{Zs:ag}{Zt:V}{Zu:I->Option I}
def Np(Zq:W):ap ab 284 #[] Zq λp j=>∃Zo Zr Zt Zp Zu,p=aq (aM (A ⟨Zo,0,Z⟩))/\cX Zq j Zo Zr [] Zt Zp Zu/\B Zq Zq j:=by
 have s:= @run_makeMap ab;obtain⟨a,c,k,l⟩:∃a,Zq.alloc (.map #[] 0)=a/\B Zq Zq a/\a.heap.size=(Zq:N)+1:=⟨_,J,aN _ _,D⟩
 have e:=cs.new Zq;rw[c]at e;obtain⟨b,f,g,r,m,n,o⟩:∃b,a.alloc (az #[S Z 0 0,.map (A (Zq:N))] 403)=b/\B a.heap.size a b/\b.heap.size=a.heap.size+1/\C b a.heap.size=A (S Z 0 0)/\C b ⟨a.heap.size,1,Z⟩=A (.map (A (Zq:N)))/\aH b a.heap.size=F:=⟨_,J,aN _ _,D,by simp[go_sem],by simp[go_sem],by simp[go_sem]⟩
 have d:cX Zq b a.heap.size (λh=>h=a.heap.size\/h=Zq\/(S Z 0 0).ownBlock=A h) [] (S Z 0 0) Zq (λ_=>Z):=⟨m,n,o,aW.nil _ _ _,e.bw g,ff.nil,O,by simp[af],by simp[af],⟨O,aL _⟩,J⟩
 rw[l]at d;have i:=q k g;change H _ at c f d i;clear e k g l r m n o;go_in;go_upto_region 1 with fail;go_wp2_with fail;try rw[c]
 try rw[f]
 go_ret;first|exact⟨_,_,_,_,_,J,d,i⟩|(try rw[c];try rw[f];exact⟨_,_,_,_,_,J,d,i⟩)
def Nq(b:cX Zn Zq Zo Zr Zs Zt Zp Zu)(a c:I)(f:∀i∈Zs,i.1≠a)(j:L Zs<=100000000):ap ab 286 #[aM (A Zo),a,c] Zq λk l=>k=aq (au T)/\cn Zn Zq Zo Zr (ja Zs (a,c)) l:=by
 have m:=Q (Nn b a c f j);have d:=b.map.lookup underlying342 underlying3 rc a;have g:=b.at_.none f;rw[g]at d;simp only[Option.getD_none,Option.isSome_none]at d;have n:=b.c1;have o:∀e,(Instr.makeInterface 407 (ao #[a,c])).run ab e= .ok (.iface 407 (ao #[a,c])) e:=λe=>by kernel_rfl
 clear b g;go_in;go_wp2_with fail;refine mU m λp h=>?_;change H _ at h;clear n d;go_wp2;go_ret;exact⟨J,h⟩
def Nr(a:cX Zn Zq Zo Zr Zs Zt Zp Zu)(b:0<L Zs):ap ab 306 #[aM (A Zo)] Zq λe n=>e=aq (aZ #[aa ac (al Zs 0).1,aa ac (al Zs 0).2,au T])/\B Zq Zq n:=by
 have f:=a.c0;obtain⟨s,t,rfl,_,_,g⟩:=a.own.cells b;have⟨c,d,_,_⟩:=g 0 b;have⟨⟨h,i⟩,ha⟩:=K (al Zs 0);rw[<-ha]at c d⊢;simp only[Nat.zero_mul]at c d⊢;have⟨j,k⟩:=K (L Zs);rw[<-k]at f b;have e:((j:I)==0)=F:=by simp;omega
 have u:(0:I)<j:=O
 have⟨v,l,m,o,p,r⟩:=q8 Zq h i;change H _ at l m;clear a g ha k o;go_in;go_upto_region 5 with fail;rw[l];refine bv [0,2,101,4,103,5,6] ?_;iterate 7 refine mS ?_
 refine bc ?_;clear f c d p r;go_wp2;exact b0 (v:=aZ #[h,i,au T]) (by simp[results,results306,go_sem]) J ⟨J,q m (an _)⟩
def Ns(a:cX Zn Zq Zo Zr Zs Zt Zp Zu)(b:Zs=[]):ap ab 306 #[aM (A Zo)] Zq λc d=>c=aq (aZ #[(0:I),(0:I),au F])/\B Zq Zq d:=by have e:=a.c0;obtain⟨f,g,rfl⟩:=tE a.own;subst b;simp only[et]at e;clear a;go_in;go_wp2;exact b0 (v:=aZ #[(0:I),(0:I),au F]) (by simp[results,results306,go_sem]) J ⟨J,aS _ _⟩
def Nt(a:cX Zn Zq Zo Zr Zs Zt Zp Zu)(c:0<L Zs)(g:L Zs<=100000000):ap ab 307 #[aM (A Zo),aa ac (al Zs 0).1] Zq λd h=>d=aq (au T)/\cn Zn Zq Zo Zr (dK Zs) h:=by have i:=Q (No a c g);have b:=a.map.lookup underlying342 underlying3 rc (al Zs 0).1;have e:=a.at_.first c;rw[e]at b;simp only[Option.getD_some,Option.isSome_some]at b;have j:=a.c1;generalize(al Zs 0).1=k at*;clear a e;go_in;go_wp2_with fail;refine i.mono ?_;rintro d l ⟨⟨m,rfl⟩,f⟩;change H _ at f;clear j b;go_wp2;go_ret;exact⟨J,f⟩
def Nu(c:cX Zn Zq Zo Zr Zs Zt Zp Zu)(i:0<L Zs)(l:L Zs<=100000000):ap ab 287 #[aM (A Zo)] Zq λd m=>d=aq (aZ #[aa ac (al Zs 0).1,aa ac (al Zs 0).2,au T])/\cn Zn Zq Zo Zr (dK Zs) m:=by have e:=Q (Nr c i);have f:=Q (λ(a:W) (g:B Zq Zq a)=>Nt (c.bw g) i l);have n:=Q (λ(a o:W) (p:ag) (g:B Zq Zq a) (b:cn Zn a Zo Zr p o)=>cn.adC (Yq:=Zr) (Jg:=Zs) (M.bw g) (λv d=>.inl d) b);obtain⟨⟨q,r⟩,ha⟩:=K (al Zs 0);rw[<-ha]at e f⊢;simp only at e f⊢;clear c ha;go_in;go_wp2_with fail;refine mU e λj h=>?_;have s:=Q (f.oo j h);change H _ at h;go_wp2_with fail;refine mU s λt b=>?_;have k:=n j t _ h b;change H _ at k;clear b;go_wp2;exact b0 (v:=aZ #[q,r,au T]) (by simp[results,results287,go_sem]) J ⟨J,k⟩
def Nv(a:cX Zn Zq Zo Zr Zs Zt Zp Zu)(c:Zs=[]):ap ab 287 #[aM (A Zo)] Zq λd e=>d=aq (aZ #[(0:I),(0:I),au F])/\B Zq Zq e:=by have f:=Q (Ns a c);clear a;go_in;go_wp2_with fail;refine mU f λg b=>?_;change H _ at b;go_wp2;exact b0 (v:=aZ #[(0:I),(0:I),au F]) (by simp[results,results287,go_sem]) J ⟨J,b⟩
end
end
def iB(a:ag):Prop:=∀b c,b<L a->c<L a->(al a b).1=(al a c).1->b=c
def x5{d:ag}(h:a<L d)(i:b<L d):al (cM d a b) c=al d (if b=c then a else if a=c then b else c):=by rw[lY h i];split;rfl;split<;>rfl
def rd{c:ag}(g:iB c)(d:a<L c)(e:b<L c):iB (cM c a b):=by
 intro l m ha j f;rw[dH]at ha j;rw[x5 d e,x5 d e]at f;have k:=g _ _ (by split<;>(try split)<;>omega) (by split<;>(try split)<;>omega) f;repeat' split at k
 all_goals omega
def x6(d:N)(a:ag)(b c:N)(f:c<=L a)(g:b<L a)(e:iB a):iB (ef d a b c).1:=by
 induction d generalizing a b with
  |zero=>exact e
  |succ d h=>unfold ef;split;exact e;rename_i i;have j:=tC (Jf:=a) (JJ:=b) (J0:=c) O;exact h _ _ (by rw[dH];exact f) mI (rd e g O)
def Nw(e:N)(a:ag)(b c d:N)(h:c<=d)(i:b<c)(f:d<L a):al (ef e a b c).1 d=al a d:=by
 induction e generalizing a b with
  |zero=>rfl
  |succ e g=>unfold ef;split;rfl;rename_i j;have k:=tC (Jf:=a) (JJ:=b) (J0:=c) O;rw[g _ _ O (by rw[dH];exact f),lY O O,ak O,ak O]
def Nx{a:ag}(h:iB a){d:a4}(b:d∈dK a):d.1≠(al a 0).1:=by
 unfold dK at b;split at b;cases b;rename_i j;have c:(ef (L a) (cM a 0 (L a-1)) 0 (L a-1)).1.length=L a:=by rw[q7,dH]
 have e:0<L a:=O
 have f:=Nw (L a) (cM a 0 (L a-1)) 0 (L a-1) (L a-1) (aL _) O mI;rw[lY e O,am J]at f;obtain⟨k,g,rfl⟩:=gP b;rw[List.length_dropLast,c]at g;rw[<-q5,po (by rw[c];exact g),<-f];intro i;have:=(x6 (L a) (cM a 0 (L a-1)) 0 (L a-1) mI mI (rd h e O)) _ _ (by rw[c];omega) (by rw[c];omega) i;omega
def x7(a:ag):(dK a).length=L a-1:=by unfold dK;split;simp;omega;rw[List.length_dropLast,q7,dH]
def x8(a:ag)(b:a4):(ja a b).length=L a+1:=by unfold ja;rw[Mk];simp
abbrev Rw:=b7
def cE(a:E Rw)(b:N):Rw:=a.getD b []
def oj(c:E Rw)(a b:N)(d:Rw)(f:a<L c):cE (c.set a d) b=if a=b then d else cE c b:=by unfold cE;by_cases e:a=b;subst e;simp[f];simp[List.getD,e]
def i0(c:N)(a:Rw)(b:ag):ag:=if a=[]then b else ja b ((c:I),jd (co a 0).2.2)
def fg(b:E Rw):N->ag
 |0=>[]
 |a+1=>i0 a (cE b a) (fg b a)
def j3:N->E Rw->ag->Rw
 |0,_,_=>[]
 |d+1,b,c=>if c=[]then[]else let a:=(al c 0).1.toNat;co (cE b a) 0::j3 d (b.set a (cE b a).tail) (i0 a (cE b a).tail (dK c))
def l3(a:E Rw):N:=(a.map L).sum
structure j4(b:E Rw)(c:ag):Prop where
 x9:iB c
 row:∀d∈c,∃a,a<L b/\d.1=(a:I)/\cE b a≠[]
def Ny(b:E Rw)(a:N)(d:a<L b)(c:cE b a≠[]):l3 (b.set a (cE b a).tail)+1=l3 b:=by
 unfold l3 cE at*;induction b generalizing a with
  |nil=>simp at d
  |cons e b f=>
   match a with
    |0=>simp at c;cases e with
     |nil=>exact absurd J c
     |cons g e=>simp;omega
    |a+1=>have:=f a (X d) (X c);simp at*;omega
def x'{a:ag}(b:iB a){h:a4}(i:∀l∈a,l.1≠h.1):iB (ja a h):=by
 have c:iB (a++[h]):=by
  intro j k ha m d;simp only[bL,eu]at ha m;by_cases c:j<L a<;>by_cases e:k<L a;rw[og c,og e]at d;exact b _ _ c e d;have:k=L a:=O
  subst this;rw[og c,q6]at d;exact absurd d (i _ (kG c));have:j=L a:=O
  subst this;rw[og e,q6]at d;exact absurd d.symm (i _ (kG e));omega
 have e:∀f (a:ag) g,g<L a->iB a->iB (gT f a g):=by
  intro f;induction f with
   |zero=>intro a g _ b;exact b
   |succ f n=>intro a g o b;unfold gT;split;exact b;exact n _ _ mI (rd b O o)
 exact e _ _ _ D c
def j4.step{g:E Rw}{b:ag}(l:j4 g b)(m:a<L g)(s:(al b 0).1=(a:I)):j4 (g.set a (cE g a).tail) (i0 a (cE g a).tail (dK b))/\∀c∈dK b,c.1≠(a:I):=by
 have n:∀c∈dK b,c.1≠(a:I):=λc d=>s▸Nx l.x9 d;have o:∀c∈dK b,∃f,f<L g/\c.1=(f:I)/\cE (g.set a (cE g a).tail) f≠[]:=λc d=>by have⟨f,i,p,j⟩:=l.row c (Mn d);refine⟨f,i,p,?_⟩;rw[oj _ _ _ _ m,ak];exact j;intro h;subst h;exact n c d p
 have q:iB (dK b):=by
  unfold dK;split;intro t u ha;simp at ha;rename_i w;have k:(ef (L b) (cM b 0 (L b-1)) 0 (L b-1)).1.length=L b:=by rw[q7,dH]
  intro t u ha r h;rw[List.length_dropLast,k]at ha r;rw[po (by rw[k];exact ha),po (by rw[k];exact r)]at h;exact(x6 (L b) (cM b 0 (L b-1)) 0 (L b-1) mI mI (rd l.x9 O O)) _ _ (by rw[k];omega) (by rw[k];omega) h
 refine⟨?_,n⟩;unfold i0;split;exact⟨q,λc d=>by have⟨f,i,h,j⟩:=o c d;exact⟨f,X i,h,j⟩⟩;rename_i v;refine⟨x' q (λc d=>n c d),λc d=>?_⟩;rcases tD d with d|rfl;have⟨f,i,h,j⟩:=o c d;exact⟨f,X i,h,j⟩;exact⟨a,X m,J,by rw[oj _ _ _ _ m,am J];exact v⟩
def j4.start(d:E Rw)(c:N)(i:c<=L d):j4 d (fg d c)/\∀b∈fg d c,b.1<(c:I):=by
 induction c with
  |zero=>exact⟨⟨λj k ha=>by simp[fg]at ha,λb a=>by cases a⟩,λb a=>by cases a⟩
  |succ c g=>have⟨e,f⟩:=g O;unfold fg i0;split;exact⟨e,λb a=>Y (f b a)⟩;rename_i h;refine⟨⟨x' e.x9 (λb a=>by have:=f b a;simp only;omega),λb a=>?_⟩,λb a=>?_⟩;rcases tD a with a|rfl;exact e.row b a;exact⟨c,O,J,h⟩;rcases tD a with a|rfl;have:=f b a;omega;simp only;omega
def Nz(e:N)(a:E Rw)(b:ag)(g:j4 a b)(h:I×a4)(hp:h∈j3 e a b):∃c,c<L a/\h∈cE a c:=by
 induction e generalizing a b with
  |zero=>cases hp
  |succ e k=>
   unfold j3 at hp;split at hp;cases hp;rename_i l;have m:0<L b:=by cases b with|nil=>exact absurd J l|cons=>simp
   have⟨c,f,i,n⟩:=g.row _ (kG m);have o:(al b 0).1.toNat=c:=by rw[i];simp
   simp only[o]at hp;rcases cK.1 hp with rfl|hp;exact⟨c,f,xZ (by cases p:cE a c with|nil=>exact absurd p n|cons=>simp)⟩;have⟨q,j,d⟩:=k _ _ (g.step f i).1 hp;rw[b']at j;refine⟨q,j,?_⟩;rw[oj _ _ _ _ f]at d;split at d;rename_i r;subst r;exact List.mem_of_mem_tail d;exact d
def NA(a:N)(b:E Rw):j3 a b []=[]:=by cases a<;>rfl
def NB(d:N)(c:E Rw)(b:ag)(a:N)(e:0<L b)(f:(al b 0).1=(a:I)):j3 (d+1) c b=co (cE c a) 0::j3 d (c.set a (cE c a).tail) (i0 a (cE c a).tail (dK b)):=by
 have g:b≠[]:=by intro h;rw[h]at e;simp at e
 conv=>lhs;unfold j3
 rw[ak g];have i:(al b 0).1.toNat=a:=by rw[f];simp
 simp only[i]
def c4(b:ai)(a:ad):E Rw:=a.map (fZ b a)
def f0(b:ai)(a:ad):Rw:=j3 (l3 (c4 b a)) (c4 b a) (fg (c4 b a) (L a))
def ss(b:ai)(a:ad)(c:I×a4)(h:c∈f0 b a):c.1∈a/\c.2.1∈a:=by
 have e:(c4 b a).length=L a:=by simp[c4]
 have⟨f,d,g⟩:=Nz _ _ _ (j4.start (c4 b a) (L a) (by rw[e];exact aL _)).1 c h;have i:cE (c4 b a) f=fZ b a (ae a f):=by rw[e]at d;simp[cE,c4,ae,d]
 rw[i]at g;have⟨j,k⟩:=Ni b a _ c g;rw[e]at d;exact⟨by rw[j,e9 d];exact dY d,k⟩
def NC(y f i e g j k:I)(b:W)(ai:0<=e/\e<=1000000)(ak:0<=g/\g<=1000000)(h:(f !=i)=T):ap ab 298 #[dM y f i e g j k] b (lL b (lM f i e g j k) (lN f i e g j k)):=by
 have⟨w,z,D,al⟩:=n5 y f i e g j k b;have G:=Q D;clear D;have⟨n,o,p,q,s,l,m,_,_,_⟩:=G.oo;obtain⟨aA,aC⟩:=ai;obtain⟨aD,aE⟩:=ak;unfold dM;change H _ at z al;go_in;go_upto_region 1 with(fail)
 rw[show(#[aa ac 0,(0:I),(0:I),au F,(0:I),(0:I),(0:I),au F,(0:I),(0:I),(0:I),au F,(0:I),(0:I),(0:I),au F,(0:I),(0:I),(0:I),au F]:Array V)=bu from J];rw[z.oo];go_quiet (fail);have⟨u,Cw⟩:=K (w.drewN nq);rw[<-Cw];have P:B w w u:=nK
 have x:=Q (G.oo.next P);clear n o p q s l m Cw P;have⟨n,o,p,q,s,l,m,_,_,_⟩:=x.oo;have⟨am,R,U,ar,X,ad,ae,ag⟩:=jV u (f) (e) (e+1) F;have ah:=Q (x.oo.next U);have v:H ((b:N)+1+1<(u:N)):=Q x.oo.lt;change H _ at R;go_upto_region 3 with fail;rw[R.oo];clear n o p q s l m U ar;have⟨n,o,p,q,s,l,m,_,_,_⟩:=ah.oo;generalize u=aF at*;have av:IntKind.i64.wrap (e+1)=e+1:=hf _ O;go_upto_region 4 with fail;have aG:=bU.cell (G:=λc=>c=(b:N)+1\/c=(b:N)+1+1) l O;have aI:=bU.cell (G:=λc=>c=(b:N)+1\/c=(b:N)+1+1) m O;have aJ:=bU.cell (G:=λc=>c=(b:N)+1\/c=(b:N)+1+1) X (Y v.out);have aK:=bU.cell (G:=λc=>c=(b:N)+1\/c=(b:N)+1+1) ad (Y v.out);have aL:=bU.cell (G:=λc=>c=(b:N)+1\/c=(b:N)+1+1) ae (Y v.out);have aN:=bU.cell (G:=λc=>c=(b:N)+1\/c=(b:N)+1+1) ag (Y v.out);clear X ad ae ag;clear n o p q s l m;refine fw ((.r 0 (.r 1 (.r 2 (.r 3 (.r 4 (.r 5 (.r 6 (.r 7 (.r 8 (.r 9 (.r 10 (.r 11 (.r 12 (.r 13 (.r 14 (.r 15 (.r 16 (.r 17 (.r 18 (.r 19 (.a 20 (.a 21 .d))))))))))))))))))))))) (dU (λc=>c=(b:N)+1\/c=(b:N)+1+1) am) aT aT (λ_ _ Jy _ _ h=>fT) (dU.mk (M.refl _ _).drew) ?_;iterate 20 refine mS ?_
 refine tg (ah.oo.next (an _)) (M.refl _ _).drew (.tmp 2) (.tmp 39) (.tmp 3) (.tmp 49) J J J J J J J J _ _ J J J J J J g8 g8 ?_;rintro aO ⟨f1,ax,ay⟩;clear av;go_wp2_with fail;refine b0 (m8 J underlying333 J _ _ ((b:N)+1) ((b:N)+1+1) (bE (lM f i e g j k)) (bE (lN f i e g j k)) bK bK J J f1 ax) J ⟨J,ay⟩
def ND(t d e a c f g:I)(b:W)(G:0<=a/\a<=1000000)(M:0<=c/\c<=1000000)(ah:(d !=e)=F)(ai:a<c):ap ab 298 #[dM t d e a c f g] b (lL b (lO d e a c f g) []):=by
 have⟨q,u,v,O⟩:=n5 t d e a c f g b;have w:=Q v;clear v;have⟨h,i,j,k,l,m,n,_,_,_⟩:=w.oo;obtain⟨ak,al⟩:=G;obtain⟨am,an⟩:=M;unfold dM;change H _ at u O;go_in;go_upto_region 1 with(fail)
 rw[show(#[aa ac 0,(0:I),(0:I),au F,(0:I),(0:I),(0:I),au F,(0:I),(0:I),(0:I),au F,(0:I),(0:I),(0:I),au F,(0:I),(0:I),(0:I),au F]:Array V)=bu from J];rw[u.oo];go_quiet (fail);have⟨o,Cw⟩:=K (q.drewN nq);rw[<-Cw];have x:B q q o:=nK
 have s:=Q (w.oo.next x);clear h i j k l m n Cw x;have⟨h,i,j,k,l,m,n,_,_,_⟩:=s.oo;have⟨P,y,z,R,ar,av,ax,ay⟩:=jV o (d) (a) (a+1) F;have p:=Q (s.oo.next z);have aA:H ((b:N)+1+1<(o:N)):=Q s.oo.lt;change H _ at y;go_upto_region 3 with fail;rw[y.oo];clear h i j k l m n z R;have⟨h,i,j,k,l,m,n,_,_,_⟩:=p.oo;generalize o=aC at*;go_wp2_with (first
  |(refine eB J (.tmp 2) (.tmp 70) 333 J P ((b:N)+1) _ bu J J p.oo.r bK J g8 ?_;intro U D X)
  |(refine eB J (.tmp 3) (.tmp 71) 333 J U ((b:N)+1+1) _ bu J J (p.oo.q5 D) bK J g8 ?_;intro aD Y ad))
 have⟨f1,ae,ag⟩:=p.oo.fin D X Y ad;refine b0 (m8 J underlying333 J _ _ ((b:N)+1) ((b:N)+1+1) (bE (lO d e a c f g)) (bE []) bK bK J J f1 ae) J ⟨J,ag⟩
def NE(t d e a c f g:I)(b:W)(G:0<=a/\a<=1000000)(M:0<=c/\c<=1000000)(ah:(d !=e)=F)(ai:c<=a):ap ab 298 #[dM t d e a c f g] b (lL b (lP d e a c f g) []):=by
 have⟨q,u,v,O⟩:=n5 t d e a c f g b;have w:=Q v;clear v;have⟨h,i,j,k,l,m,n,_,_,_⟩:=w.oo;obtain⟨ak,al⟩:=G;obtain⟨am,an⟩:=M;unfold dM;change H _ at u O;go_in;go_upto_region 1 with(fail)
 rw[show(#[aa ac 0,(0:I),(0:I),au F,(0:I),(0:I),(0:I),au F,(0:I),(0:I),(0:I),au F,(0:I),(0:I),(0:I),au F,(0:I),(0:I),(0:I),au F]:Array V)=bu from J];rw[u.oo];go_quiet (fail);have⟨o,Cw⟩:=K (q.drewN nq);rw[<-Cw];have x:B q q o:=nK
 have s:=Q (w.oo.next x);clear h i j k l m n Cw x;have⟨h,i,j,k,l,m,n,_,_,_⟩:=s.oo;have⟨P,y,z,R,ar,av,ax,ay⟩:=jV o (d) (a) (a+1) F;have p:=Q (s.oo.next z);have aA:H ((b:N)+1+1<(o:N)):=Q s.oo.lt;change H _ at y;go_upto_region 3 with fail;rw[y.oo];clear h i j k l m n z R;have⟨h,i,j,k,l,m,n,_,_,_⟩:=p.oo;generalize o=aC at*;go_wp2_with (first
  |(refine eB J (.tmp 2) (.tmp 86) 333 J P ((b:N)+1) _ bu J J p.oo.r bK J g8 ?_;intro U D X)
  |(refine eB J (.tmp 3) (.tmp 87) 333 J U ((b:N)+1+1) _ bu J J (p.oo.q5 D) bK J g8 ?_;intro aD Y ad))
 have⟨f1,ae,ag⟩:=p.oo.fin D X Y ad;refine b0 (m8 J underlying333 J _ _ ((b:N)+1) ((b:N)+1+1) (bE (lP d e a c f g)) (bE []) bK bK J J f1 ae) J ⟨J,ag⟩
def NF(v d e a b g h:I)(c:W)(ad:0<=a/\a<=1000000)(ae:0<=b/\b<=1000000)(aF:(d==e)=T):ap ab 300 #[dM v d e a b g h] c (lL c (lQ d e a b g h) []):=by
 have⟨t,w,x,ag⟩:=n5 v d e a b g h c;have y:=Q x;clear x;have⟨i,j,k,l,m,n,o,_,_,_⟩:=y.oo;obtain⟨aG,aI⟩:=ad;obtain⟨aJ,aK⟩:=ae;unfold dM;change H _ at w ag;go_in;go_upto_region 1 with(fail)
 rw[show(#[aa ac 0,(0:I),(0:I),au F,(0:I),(0:I),(0:I),au F,(0:I),(0:I),(0:I),au F,(0:I),(0:I),(0:I),au F,(0:I),(0:I),(0:I),au F]:Array V)=bu from J];rw[w.oo];go_quiet (fail);have⟨p,Cw⟩:=K (t.drewN nq);rw[<-Cw];have z:B t t p:=nK
 have u:=Q (y.oo.next z);clear i j k l m n o Cw z;have⟨i,j,k,l,m,n,o,_,_,_⟩:=u.oo;have⟨ah,D,G,M,O,P,R,U⟩:=jV p (d) (a) (a+1) F;have ai:=Q (u.oo.next G);have⟨ak,X,f,al,am,an,ar,av⟩:=jV ah (e) (b) (b+1) F;have q:=Q (ai.oo.next f);have O:=s f O;have P:=s f P;have R:=s f R;have U:=s f U;rw[M]at am an ar av;have aL:H ((c:N)+1+1<(p:N)):=Q u.oo.lt;change H _ at D X;go_upto_region 3 with fail;rw[D.oo,X.oo];clear i j k l m n o G M f al;have⟨i,j,k,l,m,n,o,_,_,_⟩:=q.oo;generalize p=aN at*;go_wp2_with (first
  |(refine eB J (.tmp 2) (.tmp 51) 333 J ak ((c:N)+1) _ bu J J q.oo.r bK J g8 ?_;intro ax Y ay)
  |(refine eB J (.tmp 3) (.tmp 52) 333 J ax ((c:N)+1+1) _ bu J J (q.oo.q5 Y) bK J g8 ?_;intro aO aA aC))
 have⟨f1,aD,aE⟩:=q.oo.fin Y ay aA aC;refine b0 (m8 J underlying333 J _ _ ((c:N)+1) ((c:N)+1+1) (bE (lQ d e a b g h)) (bE []) bK bK J J f1 aD) J ⟨J,aE⟩
def NG(ag i j e f l m:I)(c:W)(aA:0<=e/\e<=1000000)(aC:0<=f/\f<=1000000)(h:(i==j)=F):ap ab 300 #[dM ag i j e f l m] c (lL c (lR i j e f l m) (lS i j e f l m)):=by
 have⟨P,ah,ai,aD⟩:=n5 ag i j e f l m c;have ak:=Q ai;clear ai;have⟨q,t,u,v,w,n,o,_,_,_⟩:=ak.oo;obtain⟨aO,aP⟩:=aA;obtain⟨aQ,aR⟩:=aC;unfold dM;change H _ at ah aD;go_in;go_upto_region 1 with(fail)
 rw[show(#[aa ac 0,(0:I),(0:I),au F,(0:I),(0:I),(0:I),au F,(0:I),(0:I),(0:I),au F,(0:I),(0:I),(0:I),au F,(0:I),(0:I),(0:I),au F]:Array V)=bu from J];rw[ah.oo];go_quiet (fail);have⟨x,Cw⟩:=K (P.drewN nq);rw[<-Cw];have al:B P P x:=nK
 have R:=Q (ak.oo.next al);clear q t u v w n o Cw al;have⟨q,t,u,v,w,n,o,_,_,_⟩:=R.oo;have⟨aE,am,ar,av,y,z,D,G⟩:=jV x (i) (e) (e+1) F;have aF:=Q (R.oo.next ar);have⟨aG,ax,p,aI,U,X,ad,ae⟩:=jV aE (j) (f) (f+1) F;have ay:=Q (aF.oo.next p);have y:=s p y;have z:=s p z;have D:=s p D;have G:=s p G;rw[av]at U X ad ae;have k:H ((c:N)+1+1<(x:N)):=Q R.oo.lt;change H _ at am ax;go_upto_region 3 with fail;rw[am.oo,ax.oo];clear q t u v w n o ar av p aI;have⟨q,t,u,v,w,n,o,_,_,_⟩:=ay.oo;generalize x=aS at*;have aJ:IntKind.i64.wrap (e+1)=e+1:=hf _ O;have aK:IntKind.i64.wrap (f+1)=f+1:=hf _ O;go_upto_region 5 with fail;have aU:=bU.cell (G:=λb=>b=(c:N)+1\/b=(c:N)+1+1) n O;have aV:=bU.cell (G:=λb=>b=(c:N)+1\/b=(c:N)+1+1) o O;have aW:=bU.cell (G:=λb=>b=(c:N)+1\/b=(c:N)+1+1) y (Y k.out);have aX:=bU.cell (G:=λb=>b=(c:N)+1\/b=(c:N)+1+1) z (Y k.out);have aY:=bU.cell (G:=λb=>b=(c:N)+1\/b=(c:N)+1+1) D (Y k.out);have a0:=bU.cell (G:=λb=>b=(c:N)+1\/b=(c:N)+1+1) G (Y k.out);have a1:=bU.cell (G:=λb=>b=(c:N)+1\/b=(c:N)+1+1) U (Y k.out);have a2:=bU.cell (G:=λb=>b=(c:N)+1\/b=(c:N)+1+1) X (Y k.out);have a3:=bU.cell (G:=λb=>b=(c:N)+1\/b=(c:N)+1+1) ad (Y k.out);have a4:=bU.cell (G:=λb=>b=(c:N)+1\/b=(c:N)+1+1) ae (Y k.out);clear y z D G U X ad ae;clear q t u v w n o;refine fw ((.r 0 (.r 1 (.r 2 (.r 3 (.r 4 (.r 5 (.r 6 (.r 7 (.r 8 (.r 9 (.r 10 (.r 11 (.r 12 (.r 13 (.r 14 (.r 15 (.r 16 (.r 17 (.r 18 (.r 19 (.r 20 (.r 21 (.a 22 (.a 23 .d))))))))))))))))))))))))) (dU (λb=>b=(c:N)+1\/b=(c:N)+1+1) aG) aT aT (λ_ _ Jy _ _ h=>fT) (dU.mk (M.refl _ _).drew) ?_;iterate 22 refine mS ?_
 refine tg (ay.oo.next (an _)) (M.refl _ _).drew (.tmp 2) (.tmp 63) (.tmp 3) (.tmp 74) J J J J J J J J _ _ J J J J J J g8 g8 ?_;rintro a5 ⟨f1,aL,aN⟩;clear aJ aK;go_wp2_with fail;refine b0 (m8 J underlying333 J _ _ ((c:N)+1) ((c:N)+1+1) (bE (lR i j e f l m)) (bE (lS i j e f l m)) bK bK J J f1 aL) J ⟨J,aN⟩
def re(bD:V)(m:ar)(n G P ah ai:I)(aI aK:N)(aV:Bool)(o u:E Pc)(bF:Bool×E Pc×E Pc)(c:W)(h:bb c bD m)(cZ:cx m)(bG:kN (L m) ⟨n,G,P,ah,ai⟩=T)(aP:bF=if aV then(T,o,u)else(F,[],[]))(bH:∀e,(Instr.index 374 (ao pj) n).run ab e= .ok (ao #[.func (.func aI) #[] #[],.func (.func aK) #[] #[]]) e)(c1:∀args e,(callFunc aI args).run ab e= .ok (.enter aI args) e)(c2:∀args e,(callFunc aK args).run ab e= .ok (.enter aK args) e)(aW:∀e,ap ab aI #[dM n G P ah ai (bA m G) (bA m P)] e (ir e aV))(aX:aV=T->∀e,ap ab aK #[dM n G P ah ai (bA m G) (bA m P)] e (lL e o u)):ap ab 264 #[ao #[bD],ao #[n,G,P,ah,ai]] c (tx c bF):=by
 obtain⟨cr,R,cs,rfl,bI,c3,be⟩:=h.open;have⟨X,bJ,a0,ct⟩:=xL n G P ah ai (S cr R cs) c;rw[bI,n']at bG;obtain⟨cu,cv,bL,cw,bO,ak⟩:=bG;simp only at cu cv bL cw bO ak;obtain⟨x,rfl⟩:=dw bL;obtain⟨y,rfl⟩:=dw bO;have c4:decide (n<0)=F:=aF
 have c5:decide (3<n)=F:=aF
 have c6:decide ((x:I)<0)=F:=D
 have c7:decide ((R:I)<=x)=F:=aF
 have c8:decide (R<=x)=F:=aF
 have c9:decide ((y:I)<0)=F:=D
 have c':decide ((R:I)<=y)=F:=aF
 have da:decide (R<=y)=F:=aF
 obtain⟨db,dc,dd,bR,de,rfl,bh,hp⟩:=be x O;have⟨df,dg,dh,bS,di,bU,bi,bV⟩:=be y O;simp only[a2,bN,bT]at bU;obtain⟨rfl,rfl⟩:=bU;have bW:bA m (x:I)=bR:=by obtain⟨_,_,aQ,_⟩:=hp;simp only[bf]at aQ;simp only[bA,cW];omega
 have bX:bA m (y:I)=bS:=by obtain⟨_,_,aQ,_⟩:=bV;simp only[bf]at aQ;simp only[bA,cW];omega
 rw[bW,bX]at aW aX;simp only[dM]at aW aX;have bh:=s a0.bw bh;have bi:=s a0.bw bi;have cy:=Q a0;obtain⟨cz,bk,cA,cB,cC,cD,_,_,_⟩:=a0;change H _ at bJ ct bI aW aX bW bX bH aP;clear h be hp bV;have dj:=aJ x;have dk:(x:I)<R:=O
 have dl:=aJ y;have dm:(y:I)<R:=O
 go_in;go_upto_region 1 with fail;rw[show(#[aa ac 0,(0:I),(0:I),au F,(0:I),(0:I),(0:I),au F,(0:I),(0:I),(0:I),au F,(0:I),(0:I),(0:I),au F,(0:I),(0:I),(0:I),au F]:Array V)=bu from J];rw[bJ];go_upto_region 4 with fail;refine fw ((.p 1 (.p 3 (.p 9 (.p 11 (.r 0 (.r 2 (.r 4 (.p 5 (.p 6 (.r 7 (.p 8 (.r 10 (.r 12 (.p 13 (.p 14 (.r 15 (.p 16 (.p 17 (.a 18 (.z 19 .d))))))))))))))))))))) (dp X) aT aT (λ_ _ Jy _ _ h=>fT) (.mk (an _)) ?_;iterate 18 refine mS ?_
 refine aU λal j=>?_;go_simp;refine j _ _ (.mk (q (an X) (aN _ _))) ?_;refine mS ?_;clear cz bk cA cB cC cD bh bi;have⟨bl,bY,bZ,cE,aR,a3,b2,b3,b5,b6,b7⟩:=m6 X n x y ah ai bR bS;rw[bY];refine gc ?_;have⟨b,a4⟩:=K bl.drew;rw[<-a4];have b8:B X X b:=by rw[a4];exact q bZ (an _)
 have b9:=Q (cy.oo.next b8);have v:B bl bl b:=by rw[a4];exact an _
 have cF:=Q (U (s v aR) (U (s v a3) (U (s v b2) (U (s v b3) (U (s v b5) (U (s v b6) (s v b7)))))));have dn:(X:N)<b:=Y v.size
 have bk:=b9.c0;generalize X=dq at*;clear bY a4 bZ cE aR a3 b2 b3 b5 b6 b7 b8 v;go_upto_region 5 with fail;go_cut [9] (λcG bm=>∃gk,cG=aM (A ⟨gk,0,Z⟩)/\C bm ⟨gk,0,Z⟩=A (.func (.func aI) #[] #[])/\C bm ⟨gk,1,Z⟩=A (.func (.func aK) #[] #[])/\B b b bm);case first=>
  have dr:=bH.oo;refine fw ((.p 1 (.r 2 (.f 0 (.p 3 (.a 4 (.z 5 .d))) 4 (.a 0 (.p 3 (.z 5 .d))))))) (dp b) aT aT (λ_ _ Jy _ _ h=>fT) (.mk (an _)) ?_;iterate 2 refine mS ?_
  refine gN (λal j=>?_) (λal j=>?_)
  ·go_simp;refine mU (tv _) λk ad=>?_;refine j _ _ (.mk (q (an b) ad)) ?_;refine mS ?_;refine aU λal j=>?_;go_simp;refine j _ _ (.mk (q (an b) (q ad (aN _ _)))) ?_;refine mS ?_;refine gc ?_;go_wp2;go_meet;refine⟨k.heap.size,J,?_,?_,?_⟩;·simp[go_sem]
   ·simp[go_sem]
   exact q (an b) (q ad (aN _ _))
  go_simp;refine j _ _ (.mk (q (an b) (aN _ _))) ?_;obtain⟨k,b',ad,cH,u0,u1,u2,u3⟩:∃k:W,k=b.alloc (az #[.nilFunc,.nilFunc] 373)/\B b b k/\k.heap.size=(b:N)+1/\C k b=A .nilFunc/\C k ⟨b,1,Z⟩=A .nilFunc/\aH k b=F/\aH k ⟨b,1,Z⟩=F:=⟨_,J,aN _ _,D,aE,aE,aE,aE⟩
  rw[<-b'];clear b';refine aU λal j=>?_;go_simp;refine mU (tv _) λbn g=>?_;have ae:=q (an k) g;have u0:=s ae u0;have u1:=s ae u1;have u2:=aY ae O u2;have u3:=aY ae O u3;refine j _ _ (.mk (q ad ae)) ?_;have cI:=Q (q ad ae);clear ad g ae cH;iterate 2 refine mS ?_
  refine gc ?_;go_wp2;go_meet;refine⟨(b:N),J,?_,?_,?_⟩;rw[cq _ _ _ _ D];exact bP _ _ _ (by rw[u0];rfl);exact bP _ _ _ (by rw[cq _ _ _ _ D,u1];rfl);exact(cI.setCell (aL _) _).setCell (aL _) _
 obtain⟨gk,rfl,aR,ca,w⟩:=hcut;have cJ:=Q (b9.oo.next w);obtain⟨av,ax,ay,aA,aC,aD,aG⟩:=cF;have av:=s w av;have ax:=s w ax;have ay:=s w ay;have aA:=s w aA;have aC:=s w aC;have aD:=s w aD;have aG:=s w aG;have cK:=Q (aW.oo wc);change H _ at ca;clear bk w;go_wp2_with fail;refine mU cK λbn g=>?_;have a5:=Q (cJ.oo.next g);cases aV with
  |false=>
   simp only[gL,if_false]at aP;clear g av ax ay aA aC aD aG aR;go_wp2_with (first
    |(refine eB J (.tmp 4) (.tmp 74) 333 J bn ((c:N)+1+1) bu bu J J a5.r bK J qi ?_;intro l cc cL)
    |(refine eB J (.tmp 5) (.tmp 75) 333 J l ((c:N)+1+1+1) bu bu J J (a5.q5 cc) bK J qi ?_;intro cd cM cN))
   have⟨f1,a6⟩:=a5.fin cc cL cM;refine b0 (tw J underlying333 J _ _ ((c:N)+1+1) ((c:N)+1+1+1) bu bu (au F) bK bK J J J f1 cN) J ⟨by rw[aP];rfl,a6⟩
  |true=>
   simp only[if_true]at aP;have cO:=Q (aX.oo J bn);have a3:=s g ca;have av:=s g av;have ax:=s g ax;have ay:=s g ay;have aA:=s g aA;have aC:=s g aC;have aD:=s g aD;have aG:=s g aG;clear g aR;go_wp2_with fail;refine mU cO λl ce=>?_;have bo:=Q (a5.oo.next ce);clear ce a3 av ax ay aA aC aD aG;have⟨cd,cf,bq,cg,cP⟩:=gQ l bu;have⟨cQ,ch,a8,cR,a9⟩:=gQ cd bu;have ci:=(a8.block _ O).trans cP;rw[cg]at a9;have ds:=Q (bo.oo.next (q bq a8));have cS:H ((c:N)+1+1+1<(l:N)):=Q bo.lt;have br:=Q (q bq a8);change H _ at cf ch ci a9;clear bq a8 cg cR;go_upto_region 9 with(first
    |(rw[show(#[aa ac 0,(0:I),(0:I),au F,(0:I),(0:I),(0:I),au F,(0:I),(0:I),(0:I),au F,(0:I),(0:I),(0:I),au F,(0:I),(0:I),(0:I),au F]:Array V)=bu from J,cf,ch];refine eB J (.tmp 10) (.tmp 81) 333 J cQ l (bE o) bu J J ci bK J (jU o) ?_;intro cT bs aS)
    |(refine eB J (.tmp 11) (.tmp 82) 333 J cT ((l:N)+1) (bE u) bu J J ((bs.block _ (bM.1 a9).1 D).trans a9) bK J (jU u) ?_;intro ba cj ck))
   simp only[Act.put];have cU:=(br.grown bs br.size (λi t=>dX)).grown cj (a1 br.size bs.size) (λi t=>dX);have bt:=Q (bo.oo.next cU);have aS:=(cj.block _ (bM.1 aS).1 D).trans aS;have⟨ak,cl⟩:=K ((c:N)+1+1);have⟨bc,cm⟩:=K ((c:N)+1+1+1);have bv:=bt.r;have bx:=bt.q;have bz:=bt.bw;have dt:=cS.out;rw[<-cm]at bx⊢;rw[<-cl]at bv⊢;have cn:∀ag,dU (λi=>i=ak\/i=bc) ba ag->ag.heap[(l:N)]? =A (az (bE o) 333 (0,0)):=λag ⟨bB,bC⟩=>by subst bC;exact(bB.aO.block _ (bM.1 aS).1 O).trans aS
   have co:∀ag,dU (λi=>i=ak\/i=bc) ba ag->ag.heap[(l:N)+1]? =A (az (bE u) 333 (0,0)):=λag ⟨bB,bC⟩=>by subst bC;exact(bB.aO.block _ (bM.1 ck).1 O).trans ck
   refine fw (.r 0 (.r 1 (.a 2 (.a 3 (.p 4 .d))))) (dU (λi=>i=ak\/i=bc) ba) aT aT (λ_ _ Jy _ _ h=>fT) (dU.mk (M.refl _ _).drew) ?_;refine lJ (λal j=>?_);rw[am dI];refine m9 (.tmp 10) 333 J l (bE o) _ J J underlying333 bK cn (j _ ?_);refine lJ (λal j=>?_);rw[am dI];refine m9 (.tmp 11) 333 J ((l:N)+1) (bE u) _ J J underlying333 bK co (j _ ?_);refine L8 O (by exact bv) (by exact bx) (M.refl _ _).drew (.tmp 4) (.tmp 83) (.tmp 5) (.tmp 84) J J J J J J J J (bE o) (bE u) J J J J J J (jU o) (jU u) ?_;intro cV f1 a6 cp;simp only[Act.put];refine mS ?_;refine gc ?_;have cX:B c c cV:=bz.trans (M.bg (I':=λi=>i=ak\/i=bc) ((M.bw (I':=λ_=>False) (an ba)).trans cp (λ_ _ aQ=>aQ.elim) I2) bz.size (λi t=>O));clear cp bv bx bz cn co;rw[cl]at f1;rw[cm]at a6;go_wp2_with fail;refine b0 (tw J underlying333 J _ _ ((c:N)+1+1) ((c:N)+1+1+1) (bE o) (bE u) (au T) bK bK J J J f1 a6) J ⟨by rw[aP],cX⟩
def tP(q:V)(e:ar)(r:Mv)(p:W)(v:bb p q e)(t:cx e):ap ab 264 #[ao #[q],ao #[r.k,r.a,r.b,r.i,r.j]] p (tx p (bV e r)):=by
 obtain⟨n,c,d,f,g⟩:=r;by_cases o:kN (L e) ⟨n,c,d,f,g⟩=T;have x:=n'.1 o;simp only at x;obtain⟨H,K,M,P,Q,R⟩:=x;have z:0<=bA e c/\bA e c<=1000000:=by unfold bA;have:=t c.toNat;omega
 have D:0<=bA e d/\bA e d<=1000000:=by unfold bA;have:=t d.toNat;omega
 have u:bV e ⟨n,c,d,f,g⟩=if n8 n c d f g (bA e c) (bA e d)=T then(T,n9 n c d f g (bA e c) (bA e d))else(F,[],[]):=by unfold bV;rw[o];simp only[Bool.true_and]
 have G:n=0\/n=1\/n=2\/n=3:=O
 rcases G with rfl|rfl|rfl|rfl;have s:=u;refine re q e 0 c d f g 295 296 (kD c d f g (bA e c)) _ _ _ p v t o s (λh=>aT) (enters_of func295 aT J) (enters_of func296 aT J) (λh=>Ls _ _ _ _ _ _ _ h) (λm h=>Lw _ _ _ _ _ _ _ h (Y (ti m)) z.2);have s:bV e ⟨1,c,d,f,g⟩=if jS c d f g (bA e c) (bA e d)=T then(T,(if c=d then(if f<g then lO c d f g (bA e c) (bA e d)else lP c d f g (bA e c) (bA e d))else lM c d f g (bA e c) (bA e d)),(if c=d then[]else lN c d f g (bA e c) (bA e d)))else(F,[],[]):=by rw[u];simp only[n8,n9];by_cases l:c=d<;>by_cases w:f<g<;>simp[l,w]
 refine re q e 1 c d f g 297 298 (jS c d f g (bA e c) (bA e d)) (if c=d then(if f<g then lO c d f g (bA e c) (bA e d)else lP c d f g (bA e c) (bA e d))else lM c d f g (bA e c) (bA e d)) (if c=d then[]else lN c d f g (bA e c) (bA e d)) _ p v t o s (λh=>aT) (enters_of func297 aT J) (enters_of func298 aT J) (λh=>Lu _ _ _ _ _ _ _ h D) (λm h=>?_);have m:=tj m;by_cases l:c=d;rw[am l]at m;rw[am l,am l];have y:(c !=d)=F:=X l
 by_cases w:f<g;rw[am w];exact ND _ _ _ _ _ _ _ h O O y w;rw[ak w];exact NE _ _ _ _ _ _ _ h O O y O;rw[ak l]at m;rw[ak l,ak l];exact NC _ _ _ _ _ _ _ h O O (X l);have s:bV e ⟨2,c,d,f,g⟩=if jT c d f g (bA e c) (bA e d)=T then(T,(if c=d then lQ c d f g (bA e c) (bA e d)else lR c d f g (bA e c) (bA e d)),(if c=d then[]else lS c d f g (bA e c) (bA e d)))else(F,[],[]):=by rw[u];simp only[n8,n9];by_cases l:c=d<;>simp[l]
 refine re q e 2 c d f g 299 300 (jT c d f g (bA e c) (bA e d)) (if c=d then lQ c d f g (bA e c) (bA e d)else lR c d f g (bA e c) (bA e d)) (if c=d then[]else lS c d f g (bA e c) (bA e d)) _ p v t o s (λh=>aT) (enters_of func299 aT J) (enters_of func300 aT J) (λh=>Lv _ _ _ _ _ _ _ h) (λm h=>?_);have m:=tk m;by_cases l:c=d;rw[am l,am l];exact NF _ _ _ _ _ _ _ h O O (X l);rw[ak l,ak l];exact NG _ _ _ _ _ _ _ h O O (X l);have s:=u;refine re q e 3 c d f g 301 302 (jL c d f g (bA e c) (bA e d)) _ _ _ p v t o s (λh=>aT) (enters_of func301 aT J) (enters_of func302 aT J) (λh=>Lt _ _ _ _ _ _ _ h) (λm h=>Lx _ _ _ _ _ _ _ h (Y (qU m)) (Y (qU m)));have o:kN (L e) ⟨n,c,d,f,g⟩=F:=X o
 have u:bV e ⟨n,c,d,f,g⟩=(F,[],[]):=by unfold bV;rw[o];rfl
 rw[u];exact L9 q e n c d f g p v o
section
attribute [local go_sem] Oper.semAt_some
structure dN{g:Type}(l:cb)(m:N)(n:g->Array V)(o:N)(p:aD)(d:E g->aD->W->Prop)(q:E g):Prop where
 h3:∀c a e i,d c a e->M (λb=>o<=b/\¬a b) e i->d c a i
 own:∀c a e,d c a e->∀b,a b->b<e.heap.size/\¬p b
 rf:∀c h a f,d c a f->(∃r,q=c++h::r)->YieldAt Fence.wide 0 l m (n h) f λs j=>s=aq (au T)/\∃k,d (c++[h]) k j/\M a f j/\∀b,k b->a b\/f.heap.size<=b
structure h4{d:Type}(h:E d->aD->W->Prop)(e:aD)(f b:W)(g:aD)(i:E d)(wr:W):Prop where
 j:∃c,h i c wr/\(∀a,g a->¬c a)/\∀a,c a->e a\/(b:N)<=a
 aO:M e b wr
 bF:B f f wr
 gs:∀a,g a->(b:N)<=a/\a<(wr:N)
variable{Zv:Type}{Zw:cb}{Zx:N}{Zy:Zv->Array V}{Zz:N}{ZA:aD}{ZB:E Zv->aD->W->Prop}{ZC ZD:E Zv}{ZE:aD}{ZF ZG wr ZH:W}{ZI:aD}
def h4.next(a:h4 ZB ZE ZF ZG ZI ZD wr)(f:dN Zw Zx Zy Zz ZA ZB ZC)(b:B wr wr ZH):h4 ZB ZE ZF ZG ZI ZD ZH:=by have⟨c,g,h,i⟩:=a.j;exact⟨⟨c,f.h3 _ _ _ _ g (M.bw b),h,i⟩,a.aO.trans (M.bw (I':=λ_=>False) b) I2 (λ_ _ k=>k.elim),a.bF.trans (b.mono a.bF.size),λd e=>⟨(a.gs d e).1,cg (a.gs d e).2 b.size⟩⟩
def h4.set(a:h4 ZB ZE ZF ZG ZI ZD wr)(k:dN Zw Zx Zy Zz ZA ZB ZC)(p:Zz<=ZG)(q:(ZF:N)<=ZG)(c:bQ)(f:V)(hp:ZI c.block):h4 ZB ZE ZF ZG ZI ZD (aj wr c f):=by have⟨l,m,g,n⟩:=a.j;have r:=a.gs _ hp;have d:=M.grown (bn wr c f) (λe b=>X b.symm);refine⟨⟨l,k.h3 _ _ _ _ m (d.mono λe _ b=>by subst b;exact⟨O,g _ hp⟩),g,n⟩,a.aO.trans d I2 (λe o b=>by subst b;omega),a.bF.trans (d.bg a.bF.size λe o b=>by subst b;omega),λh i=>⟨(a.gs h i).1,by simp[aj];exact(a.gs h i).2⟩⟩
def h4.round{x:Zv}{g h:aD}(e:h4 ZB ZE ZF ZG ZI ZD wr)(m:dN Zw Zx Zy Zz ZA ZB ZC)(hF:∀b,b<(ZF:N)->ZA b)(n:ZB ZD g wr)(o:∀x,ZI x->¬g x)(j:∀x,g x->ZE x\/(ZG:N)<=x)(p:ZB (ZD++[x]) h ZH)(i:M g wr ZH)(k:∀b,h b->g b\/(wr:N)<=b):h4 ZB ZE ZF ZG ZI (ZD++[x]) ZH:=by refine⟨⟨h,p,λc f q=>?_,λc f=>?_⟩,e.aO.trans i I2 (λb l a=>?_),e.bF.trans (i.bg e.bF.size λb l a=>(m.own _ _ _ n b a).2 (hF b l)),λc f=>⟨(e.gs c f).1,cg (e.gs c f).2 i.size⟩⟩;rcases k c q with a|a;exact o c f a;have:=(e.gs c f).2;omega;rcases k c f with a|a;exact j c a;exact .inr (a1 e.aO.size a);rcases j b a with a|a;exact a;omega
def ps(c:Mv):Array V:=#[ao #[c.k,c.a,c.b,c.i,c.j]]
structure fE(c b:N)(d:V)(e f g h i:I)(a:W):Prop where
 d0:C a c=A d
 c0:C a b=A (aa ac e)
 c1:C a ⟨b,1,Z⟩=A (aa ac f)
 c2:C a ⟨b,2,Z⟩=A (aa ac g)
 c3:C a ⟨b,3,Z⟩=A (aa ac h)
 c4:C a ⟨b,4,Z⟩=A (aa ac i)
 f3:aH a ⟨b,3,Z⟩=F
 f4:aH a ⟨b,4,Z⟩=F
def fE.lt{c a:N}{d:V}{e f g h i:I}{b:W}(j:fE c a d e f g h i b):a<b:=aR _ _ j.c0
def fE.aO{d e:N}{f:V}{g h i j k:I}{l m:W}{I':aD}(a:fE d e f g h i j k l)(b:M I' l m)(n:¬I' d)(c:¬I' e):fE d e f g h i j k m:=⟨b.cell a.d0 n,b.cell a.c0 c,b.cell a.c1 c,b.cell a.c2 c,b.cell a.c3 c,b.cell a.c4 c,b.free a.f3 a.lt c,b.free a.f4 a.lt c⟩
def fE.bw{b c:N}{d:V}{e f g h i:I}{a j:W}(k:fE b c d e f g h i a)(l:B a a j):fE b c d e f g h i j:=k.aO (I':=λ_=>False) (M.bw l) id id
def fE.BD{c b:N}{d:V}{e f g j h JK:I}{i:W}(a:fE c b d e f g j h i):fE c b d e f g JK h (aj i ⟨b,3,Z⟩ JK):=⟨by rw[cq _ _ _ _ D];exact a.d0,by rw[cq _ _ _ _ D];exact a.c0,by rw[cq _ _ _ _ D];exact a.c1,by rw[cq _ _ _ _ D];exact a.c2,bP _ _ _ (by rw[a.c3];rfl),by rw[cq _ _ _ _ D];exact a.c4,by rw[bs];exact a.f3,by rw[bs];exact a.f4⟩
def fE.vk{c b:N}{d:V}{e f g h j JM:I}{i:W}(a:fE c b d e f g h j i):fE c b d e f g h JM (aj i ⟨b,4,Z⟩ JM):=⟨by rw[cq _ _ _ _ D];exact a.d0,by rw[cq _ _ _ _ D];exact a.c0,by rw[cq _ _ _ _ D];exact a.c1,by rw[cq _ _ _ _ D];exact a.c2,by rw[cq _ _ _ _ D];exact a.c3,bP _ _ _ (by rw[a.c4];rfl),by rw[bs];exact a.f3,by rw[bs];exact a.f4⟩
end
section
attribute [local go_sem] Oper.semAt_some
def NH(bH bI:N)(bJ:aD)(G:E Mv->aD->W->Prop)(bL P:E Mv)(aT:dN ab bH ps bI bJ G bL)(z r:W)(bi:V)(e:ar)(b c d:N)(R:aD)(h:bb z bi e)(aU:cx e)(bO:∀b,b<(z:N)->bJ b)(aV:B z z r)(aC:bI<=r)(ha:c<L e)(cA:d<L e)(bk:G P R r)(aW:∀a JL,a<=(ah e c).length->JL<=(ah e d).length->(bV e ⟨b,c,d,a,JL⟩).1=T->∃cB,bL=(P++fC e b c d a++gn e b c d a JL)++⟨b,c,d,a,JL⟩::cB):ap ab 279 #[ao #[bi],ao #[(b:I),c,d,(0:I),(0:I)],.func (.yield bH) #[] #[]] r λav bP=>av=aq (au T)/\∃U,G (P++fC e b c d ((ah e c).length+1)) U bP/\M R r bP/\∀b,U b->R b\/(r:N)<=b:=by
 have⟨bl,bR,bS,bU,f⟩:=c8 r bi;have⟨aG,bm,bn,cC,g,i,k,m,n⟩:=pk bl (b:I) c d (0:I) (0:I);have aX:aH aG ⟨bl,3,Z⟩=F/\aH aG ⟨bl,4,Z⟩=F:=by rw[<-bm];exact⟨aE,aE⟩
 have f:=s bn f;rw[bU]at g i k m n aX;have aY:=q bS bn;have y:h4 G R z r (λo=>o=(r:N)\/o=(r:N)+1) P aG:=⟨⟨R,aT.h3 _ _ _ _ bk (M.bw aY),λo bo cD=>Y ((aT.own _ _ _ bk o cD).1),λo bo=>.inl bo⟩,M.bw aY,aV.trans (aY.mono aV.size),λo bo=>O⟩
 obtain⟨c',X,a0,rfl,cE,da,bq⟩:=h.open;obtain⟨a4,a5,db,w,dc,rfl,bW,hp⟩:=bq c O;have⟨_,_,dd,v,de,bX,bY,bZ⟩:=bq d O;simp only[a2,bN,bT]at bX;obtain⟨rfl,rfl⟩:=bX;have br:(ah e c).length=w:=by obtain⟨_,_,av,_⟩:=hp;simp only[bf]at av;omega
 have bs:(ah e d).length=v:=by obtain⟨_,_,av,_⟩:=bZ;simp only[bf]at av;omega
 have df:w<=1000000:=Y (aU c)
 have dg:v<=1000000:=Y (aU d)
 have b0:fE r ((r:N)+1) (S (A ⟨a4,a5,Z⟩) X a0) b c d 0 0 aG:=⟨f,g,i,k,m,n,aX.1,aX.2⟩
 have dh:(c:I)<X:=O
 have di:(d:I)<X:=O
 have dj:=aJ c;have dk:=aJ d;rw[br]at aW⊢;rw[bs]at aW;have cF:=br;have ax:=Q y;have ay:=Q b0;have aI:(z:N)<=r:=aV.size;have cG:=Q (λcH cI cJ=>tP _ e cH cI (h.bw cJ) aU);have cK:H (∀a,fC e b c d (a+1)=fC e b c d a++gn e b c d a (v+1)):=Q (λa=>by rw[<-bs];rfl);have x:=Q aT;change H _ at bR bm bO aW bW bY cE br bs;clear aT;have⟨ad,b2⟩:=K (r:N);have⟨l,b3⟩:=K ((r:N)+1);clear h aU aV bk bS bn bU cC aY f g i k m n aX y b0 bq hp bZ cF ha cA;go_in;go_upto_region 1 with fail;rw[bR.oo,bm.oo];have⟨f,g,i,k,m,n,p,u⟩:=ay.oo;rw[<-b3]at g i k m n p u ax ay⊢;rw[<-b2]at f ax ay⊢;change H _ at b2 b3;go_wp2_with fail;have bt:=ax.oo.set x.oo aC aI ⟨l,3,Z⟩ (0:I) (.inr J);have bv:=ay.oo.BD (JK:=0);have⟨dl,b4⟩:=K (aj aG ⟨l,3,Z⟩ (0:I));rw[<-b4]at bt bv⊢;change H _ at bt bv;clear f g i k m n p u b4;go_loopw [] (λwr=>∃(a:N) (b5:I),a<=w+1/\h4 G R z r (λo=>o=ad\/o=l) (P++fC e b c d a) wr/\fE ad l (S (A ⟨a4,a5,Z⟩) X a0) b c d a b5 wr) (λwr=>w+2-(aw ((C wr ⟨l,3,Z⟩).getD undef)).toNat);exact⟨0,0,a3 _,by rw[show fC e b c d 0=[]from J,e'];exact bt.oo,bv.oo⟩;obtain⟨a,b5,dm,y,ae⟩:=hrel;obtain⟨ag,rfl⟩:=K wr;have cM:H (aw ((C ag ⟨l,3,Z⟩).getD undef)=a):=Q (by rw[ae.c3];rfl);have b6:=s y.bF bW.oo;have ax:=Q y;have ay:=Q ae;obtain⟨f,g,i,k,m,n,p,u⟩:=ae;clear y;by_cases cN:a<=w
 ·have cO:decide ((a:I)<=w)=T:=by simp;omega
  have cP:decide (a<=w)=T:=aF
  go_upto_region 2 with fail;go_quiet (fail);have⟨a6,ai⟩:=K (ag.drewN nq);rw[<-ai];have aA:B ag ag a6:=by rw[ai];exact ip _ _
  have a8:=Q (ax.oo.next x.oo aA);have b7:=Q (ay.oo.bw aA);clear f g i k m n p u b6 ai aA;have⟨f,g,i,k,m,n,p,u⟩:=b7.oo;go_upto_block 2 with fail;have bx:=a8.oo.set x.oo aC aI ⟨l,4,Z⟩ (0:I) (.inr J);have bz:=b7.oo.vk (JM:=0);have⟨dn,b9⟩:=K (aj a6 ⟨l,4,Z⟩ (0:I));rw[<-b9]at bx bz⊢;change H _ at bx bz;clear f g i k m n p u b9;go_wp2;go_loopw [] (λwr=>∃(JL:N),JL<=v+1/\h4 G R z r (λo=>o=ad\/o=l) (P++fC e b c d a++gn e b c d a JL) wr/\fE ad l (S (A ⟨a4,a5,Z⟩) X a0) b c d a JL wr) (λwr=>v+2-(aw ((C wr ⟨l,4,Z⟩).getD undef)).toNat);exact⟨0,a3 _,by rw[show gn e b c d a 0=[]from J,e'];exact bx.oo,bz.oo⟩;obtain⟨JL,dp,y,ae⟩:=hrel;obtain⟨ak,rfl⟩:=K wr;have HS:H (aw ((C ak ⟨l,4,Z⟩).getD undef)=JL):=Q (by rw[ae.c4];rfl);have b':=s y.bF bY.oo;have ca:=Q y;have cc:=Q ae;obtain⟨f,g,i,k,m,n,p,u⟩:=ae;clear y;by_cases cQ:JL<=v
  ·have cd:decide ((JL:I)<=v)=T:=by simp;omega
   have ce:decide (JL<=v)=T:=aF
   go_upto_region 5 with fail;go_quiet (fail);have⟨al,am⟩:=K (ak.drewN nq);rw[<-am];have an:B ak ak al:=by rw[am];exact ip _ _
   have cf:=Q (ca.oo.next x.oo an);have aK:=Q (cc.oo.bw an);have cg:=Q (cG.oo ⟨b,c,d,a,JL⟩ al cf.oo.bF);have aL:H (gn e b c d a (JL+1)=gn e b c d a JL++(if(bV e ⟨b,c,d,a,JL⟩).1 then[⟨b,c,d,a,JL⟩]else[])):=Q J;have ch:=Q (aW.oo a JL cN cQ);have⟨⟨ok,ci,cj⟩,ck⟩:=K (bV e ⟨(b:I),(c:I),(d:I),(a:I),(JL:I)⟩);rw[<-ck]at cg aL ch;clear f g i k m n p u b' am an ck cd ce;have⟨f,g,i,k,m,n,p,u⟩:=aK.oo;clear p u;go_wp2_with fail;refine mU cg.oo λbA cl=>?_;have⟨cR,cm,cn,co,cS⟩:=gQ bA bu;have⟨cT,cp,bB,cU,a9⟩:=gQ cR bu;have cq:=(bB.block _ O).trans cS;rw[co]at a9;have cr:=q cn bB;have bC:=Q cr;change H _ at cm cp cq a9;change H _ at cl;clear cn bB co cU cr f g i k m n;go_upto_region 8 with(first
    |(rw[show(#[aa ac 0,(0:I),(0:I),au F,(0:I),(0:I),(0:I),au F,(0:I),(0:I),(0:I),au F,(0:I),(0:I),(0:I),au F,(0:I),(0:I),(0:I),au F]:Array V)=bu from J,cm.oo,cp.oo];refine eB J (.tmp 7) (.tmp 46) 333 J cT bA (bE ci) bu J J cq.oo bK J (jU ci) ?_;intro cV ba cW)
    |(refine eB J (.tmp 8) (.tmp 47) 333 J cV ((bA:N)+1) (bE cj) bu J J ((ba.block _ (bM.1 a9.oo).1 D).trans a9.oo) bK J (jU cj) ?_;intro aN cs cX))
   try simp only[Act.put,List.setIfInBounds_toArray,List.set_cons_zero,List.set_cons_succ]
   have bD:B al al aN:=q cl.oo ((bC.oo.grown ba bC.oo.size (λb t=>dX)).grown cs (a1 bC.oo.size ba.size) (λb t=>dX));have bc:=Q (cf.oo.next x.oo bD);have be:=Q (aK.oo.bw bD);clear ba cs cW cX bD;cases ok with
    |false=>simp only[gL,if_false,e']at aL;rw[<-aL.oo]at bc;have⟨f,g,i,k,m,n,p,u⟩:=be.oo;have Gn:=bc.oo.set x.oo aC aI ⟨l,4,Z⟩ (aa ac ((JL:I)+1)) (.inr J);have HR:=be.oo.vk (JM:=(JL:I)+1);have HT:=Q (show aw (((aN.setCell ⟨l,4,none⟩ (.int .i64 ((JL:Int)+1))).cell? ⟨l,4,none⟩).getD undef)=(JL:Int)+1 from by rw[HR.c4];rfl);change H _ at Gn HR;clear f g i k m p;exact wa
    |true=>simp only[if_true]at aL;have⟨aP,aQ,aR,bg⟩:=bc.oo.j;have bh:=x.oo.rf _ _ aP aN aQ (ch.oo J);have cY:H (∀U aS,G (P++fC e b c d a++gn e b c d a JL++[⟨b,c,d,a,JL⟩]) U aS->M aP aN aS->(∀o,U o->aP o\/(aN:N)<=o)->h4 G R z r (λo=>o=ad\/o=l) (P++fC e b c d a++gn e b c d a (JL+1)) aS/\fE ad l (S (A ⟨a4,a5,Z⟩) X a0) b c d a JL aS):=Q (λU aS cZ ct c0=>by rw[aL.oo,<-ev];exact⟨bc.oo.round x.oo bO.oo aQ aR bg cZ ct c0,be.oo.aO ct (aR ad (.inl J)) (aR l (.inr J))⟩);obtain⟨dq,dr,ds,dt,bh,cu⟩:=bh;have c1:=Q cu;simp only[ps]at bh;clear aQ aR bg cu;have⟨f,g,i,k,m,n,p,u⟩:=be.oo;clear p u;refine wpIn_wide (n:=0).1 ?_;gi_wp2;refine⟨J,c1.oo.mono ?_⟩;rintro av cv ⟨rfl,U,g1,g2,g3⟩;have⟨cw,cy⟩:=cY.oo U cv g1 g2 g3;have c2:=Q cw;have cz:=Q cy;clear cw cy;clear bh g1 g2 g3 f g i k m n;have⟨f,g,i,k,m,n,p,u⟩:=cz.oo;have Gn:=c2.oo.set x.oo aC aI ⟨l,4,Z⟩ (aa ac ((JL:I)+1)) (.inr J);have HR:=cz.oo.vk (JM:=(JL:I)+1);have HT:=Q (show aw (((cv.setCell ⟨l,4,none⟩ (.int .i64 ((JL:Int)+1))).cell? ⟨l,4,none⟩).getD undef)=(JL:Int)+1 from by rw[HR.c4];rfl);change H _ at Gn HR;clear f g i k m p;gi_wp2;exact wa
  have c5:JL=v+1:=O
  subst c5;have cd:decide (((v+1:N):I)<=(v:I))=F:=aF
  have ce:decide (v+1<=v)=F:=D
  have bG:=ca.oo;rw[ev,<-cK.oo a]at bG;have c6:=Q bG;clear bG;go_upto_region 5 with fail;go_quiet (fail);have⟨al,am⟩:=K (ak.drewN nq);rw[<-am];have an:B ak ak al:=by rw[am];exact ip _ _
  have c7:=Q (c6.oo.next x.oo an);have aK:=Q (cc.oo.bw an);clear f g i k m n p u b' am an;have⟨f,g,i,k,m,n,p,u⟩:=aK.oo;have Gn:=c7.oo.set x.oo aC aI ⟨l,3,Z⟩ (aa ac ((a:I)+1)) (.inr J);have HR:=aK.oo.BD (JK:=(a:I)+1);have HT:=Q (show aw (((al.setCell ⟨l,3,none⟩ (.int .i64 ((a:Int)+1))).cell? ⟨l,3,none⟩).getD undef)=(a:Int)+1 from by rw[HR.c3];rfl);change H _ at Gn HR;clear f g i k n u;go_wp2;go_roundw;exact⟨a+1,_,O,Gn.oo,HR.oo⟩;rw[cM.oo,HT.oo];omega
 have c9:a=w+1:=O
 subst c9;have cO:decide (((w+1:N):I)<=(w:I))=F:=aF
 have cP:decide (w+1<=w)=F:=D
 go_upto_region 2 with fail;go_quiet (fail);have⟨a6,ai⟩:=K (ag.drewN nq);rw[<-ai];have aA:B ag ag a6:=by rw[ai];exact ip _ _
 have a8:=Q (ax.oo.next x.oo aA);clear f g i k m n p u b6 ai aA;go_wp2;go_ret;have⟨aP,aQ,aR,bg⟩:=a8.oo.j;exact⟨J,aP,aQ,a8.oo.aO,bg⟩
def nc{f:Type}{JB JG:N->E f}(g:∀b,JB (b+1)=JB b++JG b)(h:a<=b):∃d,JB b=JB a++d:=by
 induction b with
  |zero=>rw[Nat.le_zero.1 h];exact⟨[],D⟩
  |succ b i=>by_cases j:a=b+1;subst j;exact⟨[],D⟩;have⟨d,k⟩:=i O;exact⟨d++JG b,by rw[g,k,ev]⟩
def NI(a:ar)(b c d e f:N)(u:b<4)(ha:c<L a)(v:d<L a)(w:e<=(ah a c).length)(x:f<=(ah a d).length)(i:(bV a ⟨b,c,d,e,f⟩).1=T):∃j,kQ a=(hW a b++gR a b c++hh a b c d++fC a b c d e++gn a b c d e f)++⟨b,c,d,e,f⟩::j:=by have⟨k,l⟩:=nc (JB:=hW a) (JG:=λb=>gR a b (L a)) (λ_=>rfl) (bh (b+1<=4));have⟨m,n⟩:=nc (JB:=gR a b) (JG:=λc=>hh a b c (L a)) (λ_=>rfl) (bh (c+1<=L a));have⟨o,p⟩:=nc (JB:=hh a b c) (JG:=λd=>fC a b c d ((ah a c).length+1)) (λ_=>rfl) (bh (d+1<=L a));have⟨q,r⟩:=nc (JB:=fC a b c d) (JG:=λe=>gn a b c d e ((ah a d).length+1)) (λ_=>rfl) (bh (e+1<=(ah a c).length+1));have⟨s,t⟩:=nc (JB:=gn a b c d e) (JG:=λf=>if(bV a ⟨b,c,d,e,f⟩).1 then[⟨b,c,d,e,f⟩]else[]) (λ_=>rfl) (bh (f+1<=(ah a d).length+1));refine⟨s++q++o++m++k,?_⟩;rw[kQ,l,hW,n,gR,p,hh,r,fC,t,gn,i];simp[ev]
def NJ(a:V)(b:W)(JH:∃Jq J0 Ju,a=S Jq J0 Ju):ap ab 263 #[ao #[a]] b (w' b 277 a):=vM
def eA.part{m:Type}{e:E m->aD->W->Prop}{c n:E m}{wr h:W}{f o:aD}(i:eA e a b w x u c wr)(p:e c f wr)(q:∀c f r,e c f r->∀d,f d->d<r.heap.size/\¬(d<a\/d=b))(y:a<=wr)(z:e (c++n) o h)(g:M f wr h):eA e a b w x u (c++n) h:=⟨⟨o,z⟩,i.bw.trans (g.bg y λd g l=>(q _ _ _ p d l).2 (.inl g)),g.cell i.cell (λl=>(q _ _ _ p b l).2 (.inr J)),a1 i.size g.size⟩
def NK(i:N)(f t:W)(m:V)(b:ar)(n:bb f m b)(ae:cx b)(u:B f f t)(ag:C t i=A m):pa ab 277 #[aM (A i)] (λa=>a<(f:N)\/a=i) ps (kQ b) t:=by
 intro ai l k aF v z D ak al;have am:dN ab ai ps k (λa=>a<(f:N)\/a=i) l (kQ b):=⟨z,D,ak⟩
 have G:(f:N)<=t:=u.size;have an:(f:N)<=k:=a1 G v.size;have av:eA l f i f k m [] k:=⟨⟨aF,al⟩,u.trans (v.mono G),s v ag,aL _⟩
 have aG:=Q (λ(a c e:N) (w:E Mv) (wr:W) (x:aD) (ax:a<4) (ha:c<L b) (ay:e<L b) (hp:w=hW b a++gR b a c++hh b a c e) (d:eA l f i f k m w wr) (aI:l w x wr)=>NH ai k _ l (kQ b) w am f wr m b a c e x n ae (λ_ n=>.inl n) d.bw d.size ha ay aI (λh aN aO aP aQ=>by rw[hp];exact NI b a c e h aN ax ha ay aO aP aQ));obtain⟨M,g,P,rfl,o,aY,_⟩:=n.open;have aR:H (∀a c e,hh b a c (e+1)=hh b a c e++fC b a c e ((ah b c).length+1)):=Q (λ_ _ _=>rfl);have aS:H (∀a c,gR b a (c+1)=gR b a c++hh b a c g):=Q (λ_ _=>by rw[<-o];rfl);have aT:H (∀a,hW b (a+1)=hW b a++gR b a g):=Q (λ_=>by rw[<-o];rfl);have aU:=Q av;change H _ at o;clear av;change H _ at z D;clear am ak al n u v ag G ae;go_in;go_wp2_with fail;refine mU (tv _) λa0 aA=>?_;have aV:=Q (aU.oo.next z an aA);clear aA;go_wp2;go_loopw [7] (λh wr=>∃(a:N),h=(a:I)/\a<=4/\eA l f i f k (S M g P) (hW b a) wr) (λh _=>4-(aw h).toNat);exact⟨0,J,O,aV.out⟩;obtain⟨a,rfl,ax,d⟩:=hrel;obtain⟨a2,rfl⟩:=K wr;by_cases R:a<4
 ·have p:=d.cell;have U:=Q d;have a3:(a:I)<4:=by omega
  clear d;go_wp2_with fail;clear p;go_loopw [13] (λh wr=>∃(c:N),h=(c:I)/\c<=g/\eA l f i f k (S M g P) (hW b a++gR b a c) wr) (λh _=>g-(aw h).toNat);exact⟨0,J,O,by rw[show gR b a 0=[]from J,e'];exact U⟩;obtain⟨c,rfl,ha,d⟩:=hrel;obtain⟨a4,rfl⟩:=K wr;by_cases q:c<g
  ·have p:=d.cell;have X:=Q d;have a5:=aJ c;have a6:(c:I)<g:=by omega
   clear d;go_wp2_with fail;clear p;go_loopw [19] (λh wr=>∃(e:N),h=(e:I)/\e<=g/\eA l f i f k (S M g P) (hW b a++gR b a c++hh b a c e) wr) (λh _=>g-(aw h).toNat);exact⟨0,J,O,by rw[show hh b a c 0=[]from J,e'];exact X⟩;obtain⟨e,rfl,u,d⟩:=hrel;obtain⟨aW,rfl⟩:=K wr;by_cases r:e<g
   ·have p:=d.cell;have y:=Q d;have a8:=aJ e;have a9:(e:I)<g:=by omega
    obtain⟨x,Y⟩:=d.j;have aX:=Q (aG.oo a c e _ aW x R (by rw[o];exact q) (by rw[o];exact r) J d Y);change H _ at Y;clear d;go_wp2_with fail;refine mU aX λba ⟨bc,aC,aE,_⟩=>?_;have ad:=y.part Y D (a1 an y.size) aC aE;rw[ev,<-aR a c e]at ad;change H _ at ad;clear aC aE p;go_wp2;go_roundw;case rel=>exact⟨e+1,aK,O,ad⟩
    simp only[aw];first|exact dZ r|exact ea r O
   have r:e=g:=O
   subst r;rw[ev,<-aS a c]at d;have y:=Q d;clear d;go_wp2;go_roundw;case rel=>exact⟨c+1,aK,O,y⟩
   simp only[aw];first|exact dZ q|exact ea q O
  have q:c=g:=O
  subst q;rw[<-aT a]at d;have X:=Q d;clear d;go_wp2;go_roundw;case rel=>exact⟨a+1,aK,O,X⟩
  simp[aw];omega
 have R:a=4:=O
 subst R;have U:=Q d;clear d;go_wp2;go_end0;exact⟨⟨_,J⟩,U.j⟩
end
def cF(a:ad):ad:=a.mergeSort λb c=>decide (b<=c)
def ol(a:ad):(cF a).length=L a:=List.length_mergeSort a
def NL:cF []=[]:=by simp[cF]
def rg(c:V)(a:ad)(e:N)(b:W)(f:ay b e c a)(u:L a<=4000000000000):ap ab 139 #[c] b λd g=>d=aq (aZ #[])/\ay g e c (cF a)/\b.grownBy g (af c):=by have m:=f;unfold ay at f;rcases f.2 with⟨rfl,n⟩|⟨o,p,v,rfl,q,h,r,s,t,i⟩;have d:a=[]:=dn.1 (X n);subst d;refine mR (slices_Sort_int_none Z 0 b) ?_;exact⟨J,by rw[NL];exact m,World.grownBy.refl _ _⟩;rw[Nat.mul_one]at i;refine(slices_Sort_int o 0 p a b (holds_of_blockI h i) (bM.1 h).1 O).mono ?_;rintro d g ⟨rfl,j,k,rfl⟩;refine⟨J,?_,grownBy_sortedI _⟩;have l:(cF a).length=L a:=ol a;have:=ownsRow_sortedI (w:=b) (base:=e) (n:=j) (os:=k) (ss:=a) (ts:=cF a) l q h r s t;unfold ay;rw[l];exact this
def h5(a:ad)(c:N):Bool:=(List.range c).all λb=>decide (ae a (b+1)≠ae a b)
def kU(a:ad):Bool:=h5 (cF a) (L a-1)
def rh(a:ad)(b:N):h5 a (b+1)=(h5 a b&&decide (ae a (b+1)≠ae a b)):=by simp[h5,fu]
def ya(d:ad)(b a:N)(c:h5 d b=F)(e:b<=a):h5 d a=F:=by
 induction a with
  |zero=>rw[Nat.le_zero.1 e]at c;exact c
  |succ a f=>rw[rh];by_cases g:b<=a;rw[f g];rfl;rw[show b=a+1 by omega,rh]at c;exact c
def yb(n:V)(c:ad)(d:N)(e:W)(o:ay e d n c)(Y:L c<=4000000000000)(v:d<=(e:N)):ap ab 98 #[n] e λag ah=>ag=aq (au (kU c))/\B d e ah:=by
 have ai:=Q (rg n c d e o Y);have w:=ol c;have ak:=Q o.lt;obtain⟨av,b,ax,rfl,x,_,_⟩:=o.ints.open;have aA:b<=4000000000000:=O
 have y:H (kU c=h5 (cF c) (b-1)):=Q (by rw[<-x];rfl);rw[x]at w;generalize cF c=f at*;generalize kU c=z at*;change H _ at w;go_in;go_wp2_with fail;refine mU ai λj ⟨al,D⟩=>?_;have G:H (B d e j):=Q ((aS d e).grown D v (λa M=>(ak a M).1));have P:d<=(j:N):=a1 v D.size;have⟨aC,aD,aE,g,aG,_,p⟩:=al.ints.open;simp only[bf]at g;obtain⟨rfl,rfl,rfl⟩:=g;change H _ at p;go_wp2;go_loopw [3] (λq wr=>∃(a:N),q=aa ac ((a:I)+1)/\a<=b-1/\h5 f a=T/\B j j wr) (λq _=>b+1-(aw q).toNat);exact⟨0,J,a3 _,J,aS _ _⟩;obtain⟨a,rfl,M,k,l⟩:=hrel;obtain⟨aI,rfl⟩:=K wr;have r:=Q l;change H _ at k;have aL:(a:I)+1<=4000000000001:=O
 by_cases am:a+1<b
 ·obtain⟨aN,aO,rfl,R⟩:=p a O;have⟨aP,aQ,g,f1⟩:=p (a+1) am;simp only[a2,bN,bT]at g;obtain⟨rfl,rfl⟩:=g;have R:=s l R;have f1:=s l f1;have U:=Q (rh f a);have aR:=aJ a;have aT:(a:I)<b:=by omega
  have aU:(a:I)+1<(b:I):=O
  have aV:(0:I)<=a+1:=O
  have aW:((a:I)+1).toNat=a+1:=O
  have aX:IntKind.i64.wrap ((a:I)+1-1)=(a:I):=by rw[hf _ O];omega
  generalize ae f a=t at*;generalize ae f (a+1)=u at*;by_cases m:u=t
  ·have an:(u==t)=T:=by simp[m]
   have h:H (z=F):=Q (by rw[y];exact ya f (a+1) (b-1) (by rw[U,k];simp[m]) O);have i:=G.trans (r.mono P);go_upto_region 5 with fail;go_quiet (fail);go_wp2;go_ret;rw[h];exact⟨J,by first|exact i.drew|exact eb i _|exact i⟩
  have an:(u==t)=F:=X m
  have h:H (h5 f (a+1)=T):=Q (by rw[U,k];simp[m]);have ar:a+1<=b-1:=O
  go_upto_region 5 with fail;go_quiet (fail);go_wp2;go_roundw;case rel=>exact⟨a+1,aK,ar,h,by first|exact eb r _|exact r⟩
  simp[aw];omega
 have h:H (z=T):=Q (by rw[y,show b-1=a by omega];exact k);have aY:decide ((a:I)+1<(b:I))=F:=aF
 have i:=G.trans (l.mono P);go_wp2;go_ret;rw[h];exact⟨J,i⟩
section
attribute [local go_sem] Oper.semAt_some
def eY.tail{ZN:W}{d e f b:N}{c:Rw}(h:eY ZN (S (A ⟨f,b,Z⟩) d e) c)(m:0<d):eY ZN (S (A ⟨f,b+3,Z⟩) (d-1) (e-1)) c.tail:=by
 obtain⟨n,o,g,p,q,i⟩:=h;simp only[bf]at g;obtain⟨rfl,rfl,rfl⟩:=g;have j:c.tail.length=L c-1:=D
 refine⟨_,_,by rw[j],O,O,λa r=>?_⟩;have⟨s,t,ha,k,g1,g2⟩:=i (a+1) O;simp only[a2,bN,bT]at ha;obtain⟨rfl,rfl⟩:=ha;have l:co c.tail a=co c (a+1):=by cases c<;>simp[co]
 rw[l];refine⟨_,_,J,?_,?_,?_⟩;rw[show b+3+a*3=b+(a+1)*3 by omega];exact k;rw[show b+3+a*3=b+(a+1)*3 by omega];exact g1;rw[show b+3+a*3=b+(a+1)*3 by omega];exact g2
def NM{g:bj}{ZN:W}{c:N}{d:V}{e:Rw}(h:dz g ZN c d e){ZL:aD}(i:∀f,ZL f->f<c):aI eY ZL ZN d e:=by intro ZO v j;rcases h.cells with⟨rfl,rfl⟩|⟨a,k,rfl,l,m,w,n,o⟩;exact eY.nil ZO;have b:=j a n (λp=>Y (i a p));exact⟨A ⟨a,0,Z⟩,k,J,l,m,λq r=>⟨a,0,J,by have⟨s,t,u⟩:=o q r;rw[bX];exact⟨(ey b).trans s,(ey b).trans t,(ey b).trans u⟩⟩⟩
def NN{ZL:aD}{ZN:W}:aI eY ZL ZN (S Z 0 0) []:=λZO _ _=>eY.nil ZO
structure jf(b d:N)(h:aD)(c:W)(e:E Rw):Prop where
 len:L e=d
 cell:∀a,a<d->∃f,C c ⟨b,a,Z⟩=A f/\aI eY (λg=>h g\/g=b) c f (cE e a)
 free:∀a,a<d->aH c ⟨b,a,Z⟩=F
 lt:b<c
section
variable{ZJ ZK:N}{ZL ZM:aD}{ZN ZO:W}{ZP:E Rw}
def jf.step(c:jf ZJ ZK ZL ZN ZP)(h:(ZN:N)<=ZO)(i:∀a,a<(ZN:N)->¬ZL a->ZO.heap[a]? =ZN.heap[a]?)(d:¬ZL ZJ)(k:∀a,a<(ZN:N)->ZM a->ZL a):jf ZJ ZK ZM ZO ZP:=by have j:=i ZJ c.lt d;refine⟨c.len,λe f=>?_,λe f=>(World.frozen?_of_block j).trans (c.free e f),cg c.lt h⟩;have⟨l,m,n⟩:=c.cell e f;refine⟨l,(ey j).trans m,n.step h (λa g d=>i a g λb=>d (.inl b)) (λa g b=>?_)⟩;rcases b with b|b;exact .inl (k a g b);exact .inr b
def jf.set(c:jf ZJ ZK ZL ZN ZP){d:N}(l:d<ZK){e:V}{h:Rw}(m:aI eY (λa=>ZL a\/a=ZJ) ZN e h):jf ZJ ZK ZL (aj ZN ⟨ZJ,d,Z⟩ e) (ZP.set d h):=by have i:∀a,a<(ZN:N)->¬(ZL a\/a=ZJ)->(aj ZN ⟨ZJ,d,Z⟩ e).heap[a]? =ZN.heap[a]? :=λa q n=>Below.heap_setCell _ _ _ _ (by simpa using λb:a=ZJ=>n (.inr b));refine⟨X c.len,λf g=>?_,λf g=>by rw[bs];exact c.free f g,by simpa[aj]using c.lt⟩;rw[oj _ _ _ _ (by rw[c.len];exact l)];have⟨o,j,p⟩:=c.cell f g;by_cases b:d=f;subst b;rw[am J];exact⟨e,bP _ _ _ (by rw[j];rfl),m.step (by simp[aj]) i I2⟩;rw[ak b];refine⟨o,?_,p.step (by simp[aj]) i I2⟩;rw[cq _ _ _ _ (by intro k;first|exact b (cz Addr.off k)|exact b (cz Addr.off k).symm)];exact j
end
structure cG{f:Type}(h:E f->aD->W->Prop)(g:N)(i:W)(b j c k:N)(l:E f)(m:E Rw)(n:ag)(wr:W):Prop where
 ex:∃d e o p q,h l d wr/\cX b wr j e n o p q/\jf c k (λa=>d a\/e a) wr m/\(∀a,e a->¬d a/\a≠c)/\¬d c
 le:b<=c
 lt:b<=wr
 hl:g<=b
 bw:B g i wr
section
variable{ZQ:Type}{ZR:cb}{ZS:N}{ZT:ZQ->Array V}{ZU:E ZQ->aD->W->Prop}{ZV ZW ZX ZJ ZK:N}{ZY wr ZO:W}{ZZ Z0:E ZQ}{ZP:E Rw}{Z1:ag}{Z2:aD}
def cG.next(a:cG ZU ZV ZY ZW ZX ZJ ZK ZZ ZP Z1 wr)(f:dN ZR ZS ZT ZW Z2 ZU Z0)(b:B wr wr ZO):cG ZU ZV ZY ZW ZX ZJ ZK ZZ ZP Z1 ZO:=by have⟨g,h,i,j,k,l,m,n,d,e⟩:=a.ex;refine⟨⟨g,h,i,j,k,f.h3 _ _ _ _ l (M.bw b),m.bw b,n.step b.size (λo p _=>b.block o p) (λc=>?_) I2,d,e⟩,a.le,a1 a.lt b.size,a.hl,a.bw.trans (b.mono (a1 a.hl a.lt))⟩;rcases c with c|c;exact e c;exact(d _ c).2 J
def cG.heap{j:ag}{d f:aD}{q:V}{r:N}{s:I->Option I}(c:cG ZU ZV ZY ZW ZX ZJ ZK ZZ ZP Z1 wr)(k:dN ZR ZS ZT ZW Z2 ZU Z0)(l:ZU ZZ d wr)(m:cX ZW wr ZX f Z1 q r s)(n:jf ZJ ZK (λb=>d b\/f b) wr ZP)(g:∀b,f b->¬d b/\b≠ZJ)(o:¬d ZJ)(t:cn ZW wr ZX f j ZO):cG ZU ZV ZY ZW ZX ZJ ZK ZZ ZP j ZO:=by obtain⟨u,v,w,x,y,e,p⟩:=t;refine⟨⟨d,u,v,w,x,k.h3 _ _ _ _ l (e.mono λb _ a=>⟨m.le b a,(g b a).1⟩),y,n.step e.size (λb h z=>e.block b h λa=>z (.inr a)) (λa=>?_) (λb h a=>?_),λb a=>?_,o⟩,c.le,a1 c.lt e.size,c.hl,c.bw.trans (e.bg (a1 c.hl c.lt) λb h a=>?_)⟩;rcases a with a|a;exact o a;exact(g _ a).2 J;rcases a with a|a;exact .inl a;rcases p b a with a|a;exact .inr a;omega;rcases p b a with a|a;exact g b a;refine⟨λi=>?_,λi=>?_⟩;have:=(k.own _ _ _ l b i).1;omega;subst i;have:=n.lt;omega;have:=m.le b a;have:=c.hl;omega
def cG.row(b:cG ZU ZV ZY ZW ZX ZJ ZK ZZ ZP Z1 wr)(n:dN ZR ZS ZT ZW Z2 ZU Z0){c:N}(h:c<ZK){e:V}{i:Rw}(o:∀ZL:aD,(∀f,C wr ⟨ZJ,c,Z⟩=A f->aI eY (λa=>ZL a\/a=ZJ) wr f (cE ZP c))->aI eY (λa=>ZL a\/a=ZJ) wr e i):cG ZU ZV ZY ZW ZX ZJ ZK ZZ (ZP.set c i) Z1 (aj wr ⟨ZJ,c,Z⟩ e):=by have⟨p,q,r,s,t,u,v,j,k,l⟩:=b.ex;have g:M (λa=>a=ZJ) wr (aj wr ⟨ZJ,c,Z⟩ e):=M.grown (bn _ _ _) (λa d=>X d.symm);refine⟨⟨p,q,r,s,t,n.h3 _ _ _ _ u (g.mono λa _ d=>⟨d▸b.le,d▸l⟩),v.aO g (λa d=>(k a d).2),j.set h (o _ (λf w=>?_)),k,l⟩,b.le,by simpa[aj]using b.lt,b.hl,b.bw.trans (g.bg (a1 b.hl b.lt) λa y d=>bi b.le b.hl)⟩;have⟨z,m,x⟩:=j.cell c h;rw[w]at m;cases m;exact x
def cG.adG{KB:ZQ}{c f Ja:aD}{k:V}{l:N}{m:I->Option I}(d:cG ZU ZV ZY ZW ZX ZJ ZK ZZ ZP Z1 wr)(q:dN ZR ZS ZT ZW Z2 ZU Z0)(hF:∀b,b<ZV->Z2 b)(r:ZU ZZ c wr)(n:cX ZW wr ZX f Z1 k l m)(o:jf ZJ ZK (λb=>c b\/f b) wr ZP)(g:∀b,f b->¬c b/\b≠ZJ)(p:¬c ZJ)(s:ZU (ZZ++[KB]) Ja ZO)(e:M c wr ZO)(j:∀b,Ja b->c b\/(wr:N)<=b):cG ZU ZV ZY ZW ZX ZJ ZK (ZZ++[KB]) ZP Z1 ZO:=by refine⟨⟨Ja,f,k,l,m,s,n.aO e (λb a=>(g b a).1),o.step e.size (λb h t=>e.block b h λa=>t (.inl a)) (λa=>?_) (λb h a=>?_),λb a=>⟨λi=>?_,(g b a).2⟩,λa=>?_⟩,d.le,a1 d.lt e.size,d.hl,d.bw.trans (e.bg (a1 d.hl d.lt) λb h a=>(q.own _ _ _ r b a).2 (hF b h))⟩;rcases a with a|a;exact p a;exact(g _ a).2 J;rcases a with a|a;rcases j b a with a|a;exact .inl a;omega;exact .inr a;rcases j b i with i|i;exact(g b a).1 i;have:=n.lt b a;omega;rcases j ZJ a with a|a;exact p a;have:=o.lt;omega
def cG.Wl{s:bj}{e:W}(c:cG ZU ZV ZY ZW ZX ZJ ZK ZZ ZP Z1 wr)(h:dN ZR ZS ZT ZW Z2 ZU Z0)(d:B wr wr e){f:N}(t:f<ZK){g:V}{i:Rw}(u:dz s e wr g i):cG ZU ZV ZY ZW ZX ZJ ZK ZZ (ZP.set f i) Z1 (aj e ⟨ZJ,f,Z⟩ g):=by
 have⟨j,k,v,w,x,o,p,q,l,m⟩:=c.ex;have n:M (λb=>b=ZJ) e (aj e ⟨ZJ,f,Z⟩ g):=M.grown (bn _ _ _) (λb a=>X a.symm);have y:¬(j ZJ\/k ZJ):=λa=>by rcases a with a|a;exact m a;exact(l _ a).2 J
 have z:=q.step d.size (λb r _=>d.block b r) y I2;have D:aI eY (λb=>(j b\/k b)\/b=ZJ) e g i:=NM u λb a=>by rcases a with(a|a)|a;exact(h.own _ _ _ o b a).1;exact p.lt b a;have:=q.lt;omega
 exact⟨⟨j,k,v,w,x,h.h3 _ _ _ _ (h.h3 _ _ _ _ o (M.bw d)) (n.mono λb _ a=>⟨a▸c.le,a▸m⟩),(p.bw d).aO n (λb a=>(l b a).2),z.set t D,l,m⟩,c.le,a1 c.lt (by simpa[aj]using d.size),c.hl,(c.bw.trans (d.mono (a1 c.hl c.lt))).trans (n.bg (a1 c.hl (a1 c.lt d.size)) λb r a=>bi c.le c.hl)⟩
def cG.vl(h:cG ZU ZV ZY ZW ZX ZJ ZK ZZ ZP Z1 wr)(i:dN ZR ZS ZT ZW Z2 ZU Z0){a e f b c:N}{Jr:bz}(d:a<ZK)(j:C wr ⟨ZJ,a,Z⟩=A (S (A ⟨e,f,Z⟩) (b+1) (c+1)))(q:b<=c)(ha:c=0\/Jr=A ⟨e,f+3,Z⟩):cG ZU ZV ZY ZW ZX ZJ ZK ZZ (ZP.set a (cE ZP a).tail) Z1 (aj wr ⟨ZJ,a,Z⟩ (S Jr b c)):=
 h.row i d λZL k ZO l m=>by
  have g:=k _ j ZO l m;rcases ha with rfl|rfl;have n:b=0:=O
  subst n;obtain⟨_,_,o,_⟩:=g;simp only[bf]at o;have p:(cE ZP a).tail=[]:=dn.1 (by rw[List.length_tail];omega);rw[p];exact⟨Jr,0,J,D,D,λa d=>absurd d D⟩;exact g.tail O
def cG.at_(d:cG ZU ZV ZY ZW ZX ZJ ZK ZZ ZP Z1 wr){i:N}(b:i<ZK):∃a,C wr ⟨ZJ,i,Z⟩=A a/\eY wr a (cE ZP i)/\aH wr ⟨ZJ,i,Z⟩=F:=by have⟨g,h,j,k,l,m,n,c,o,p⟩:=d.ex;have⟨a,e,f⟩:=c.cell i b;exact⟨a,e,f.now,c.free i b⟩
def cG.BE{ZS:N}{ZT:I×a4->Array V}{ZU:b7->aD->W->Prop}{ZZ Z0:b7}(c:cG ZU ZV ZY ZW ZX ZJ ZK ZZ ZP Z1 wr)(f:dN ab ZS ZT ZW Z2 ZU Z0)(a b:I)(g:∀h∈Z1,h.1≠a)(i:L Z1<=100000000):ap ab 286 #[aM (A ZX),a,b] wr λd ZO=>d=aq (au T)/\cG ZU ZV ZY ZW ZX ZJ ZK ZZ ZP (ja Z1 (a,b)) ZO:=by have⟨p,q,r,s,t,j,e,k,l,m⟩:=c.ex;exact(Nq e a b g i).mono λd ZO ⟨n,o⟩=>⟨n,c.heap f j e k l m o⟩
def cG.Wm{ZS:N}{ZT:I×a4->Array V}{ZU:b7->aD->W->Prop}{ZZ Z0:b7}(a:cG ZU ZV ZY ZW ZX ZJ ZK ZZ ZP Z1 wr)(d:dN ab ZS ZT ZW Z2 ZU Z0)(e:0<L Z1)(f:L Z1<=100000000):ap ab 287 #[aM (A ZX)] wr λb ZO=>b=aq (aZ #[aa ac (al Z1 0).1,aa ac (al Z1 0).2,au T])/\cG ZU ZV ZY ZW ZX ZJ ZK ZZ ZP (dK Z1) ZO:=by have⟨m,n,o,p,q,g,c,h,i,j⟩:=a.ex;exact(Nu c e f).mono λb ZO ⟨k,l⟩=>⟨k,a.heap d g c h i j l⟩
def cG.Wn{ZS:N}{ZT:I×a4->Array V}{ZU:b7->aD->W->Prop}{ZZ Z0:b7}(a:cG ZU ZV ZY ZW ZX ZJ ZK ZZ ZP Z1 wr)(c:dN ab ZS ZT ZW Z2 ZU Z0)(d:Z1=[]):ap ab 287 #[aM (A ZX)] wr λb ZO=>b=aq (aZ #[(0:I),(0:I),au F])/\cG ZU ZV ZY ZW ZX ZJ ZK ZZ ZP Z1 ZO:=by have⟨h,i,j,k,l,m,e,n,o,p⟩:=a.ex;exact(Nv e d).mono λb ZO ⟨f,g⟩=>⟨f,a.next c g⟩
end
end
section
attribute [local go_sem] Oper.semAt_some
def NO{c:ar}{e f g h b:N}{d:Mv}(a:d∈gn c e f g h b):(bV c d).1=T:=by
 induction b with
  |zero=>cases a
  |succ b i=>rw[gn,eh]at a;rcases a with a|a;exact i a;split at a;rename_i j;rw[List.mem_singleton]at a;rw[a];exact j;cases a
def NP{c:ar}{e f g b:N}{d:Mv}(a:d∈fC c e f g b):(bV c d).1=T:=by
 induction b with
  |zero=>cases a
  |succ b h=>rw[fC,eh]at a;rcases a with a|a;exact h a;exact NO a
def NQ{c:ar}{e f b:N}{d:Mv}(a:d∈hh c e f b):(bV c d).1=T:=by
 induction b with
  |zero=>cases a
  |succ b g=>rw[hh,eh]at a;rcases a with a|a;exact g a;exact NP a
def NR{c:ar}{e b:N}{d:Mv}(a:d∈gR c e b):(bV c d).1=T:=by
 induction b with
  |zero=>cases a
  |succ b f=>rw[gR,eh]at a;rcases a with a|a;exact f a;exact NQ a
def NS{b:ar}{J0:N}{c:Mv}(a:c∈hW b J0):(bV b c).1=T:=by
 induction J0 with
  |zero=>cases a
  |succ J0 d=>rw[hW,eh]at a;rcases a with a|a;exact d a;exact NR a
def NT{d:ar}{c:Mv}(e:(bV d c).1=T):0<=c.a/\c.a<L d/\0<=c.b/\c.b<L d:=by unfold bV at e;split at e;rename_i f;rw[cr]at f;have:=n'.1 f.1;omega;cases e
def NU{c:cb}{d:Array bd}{h:E bd}{e:bd}{a:a'}{b:W}{f:bJ}(j:Region.wanted e (yielded d a.tmps)=T)(g:∀i:a'->W->Prop,(∀a b,wpList c d f h a b->i a b)->e.wp c a b i f):wpList c d f (e::h) a b:=by unfold wpList;rw[am j];exact .inl (g _ λ_ _ g=>g)
def yc{g:Array bd}{i:E bd}{b:bd}{c:a'}{j:bJ}(k:Operand)(a:bj)(l:b.op= .load a k)(d:W)(h:N)(e:Array V)(f:TypeDesc)(m:f.isRow=T)(hp:c.eval k=aM (A h))(n:d.heap[h]? =A (az e a (0,0)))(o:ab.underlying a=A f)(p:(ab.info? a).map (·.size)=A e.size)(q:Region.wanted b (yielded g c.tmps)=T)(r:wpList ab g j i (c.put b.dst (ao e)) d):wpList ab g j (b::i) c d:=by refine NU q λt s=>?_;unfold Oper.wp execOp;simp only[l,hp,Instr.loadAt,Instr.sureAddr,Sem.run_bind,Sem.run_pure,Result.andThen_ok,run_loadVar_row d h a a e (0,0) f n o (by cases f<;>first|rfl|(simp[TypeDesc.isRow]at m)) p];exact s _ _ r
structure gs(m e f:N)(n:W)(c:Mv×I)(o:aD)(d:W):Prop where
 b:ax d e [c.1.k,c.1.a,c.1.b,c.1.i,c.1.j]
 l:C d f=A (aa ac c.2)
 fb:∀g,g<5->aH d ⟨e,g,Z⟩=F
 fl:aH d f=F
 own:o=λh=>h=e\/h=f
 bw:B m n d
variable{Z3 Z4 Z5 Z6 Z7 Z8:N}{Z9 Z' aaa aab aac aad:W}{aae aaf:Mv×I}{aag:aD}
def gs.lt(a:gs Z3 Z4 Z5 Z9 aae aag Z'):Z4<Z'/\Z5<Z':=⟨a.b.lt,aR _ _ a.l⟩
def ax.aO{I':aD}{Z' aaa:W}{a:N}{b:aP}(c:ax Z' a b)(d:M I' Z' aaa)(e:¬I' a):ax aaa a b:=λf g h=>d.cell (c f g h) e
def gs.aO(c:gs Z3 Z4 Z5 Z9 aae aag Z')(d:M (λe=>Z6<=e/\¬aag e) Z' aaa)(j:Z3<=Z6)(f:Z3<=Z'):gs Z3 Z4 Z5 Z9 aae aag aaa:=by have g:=c.own;subst g;exact⟨c.b.aO d (λa=>a.2 (.inl J)),d.cell c.l (λa=>a.2 (.inr J)),λh i=>d.free (c.fb h i) c.lt.1 (λa=>a.2 (.inl J)),d.free c.fl c.lt.2 (λa=>a.2 (.inr J)),J,c.bw.trans (d.bg f λe k a=>Y a.1)⟩
def gs.owns(b:gs Z3 Z4 Z5 Z9 aae aag Z')(e:Z3<=Z4)(f:Z3<=Z5)(g:Z4≠Z8)(h:Z5≠Z8):∀a,aag a->a<(Z':N)/\¬(a<Z3\/a=Z8):=by have c:=b.own;subst c;intro a d;have:=b.lt;rcases d with rfl|rfl<;>omega
def gs.adE(g:gs Z3 Z4 Z5 Z9 aae aag aab)(c:M (λa=>a=Z7) aab aac)(d:B aac aac aad)(h:Z7<aab)(i:∀a,aag a->a≠Z7)(j:Z3<=Z7)(k:aae=aaf):∃e,gs Z3 Z4 Z5 Z9 aaf e aad/\M (λa=>aag a\/a=Z7) aab aad/\aad.heap[Z7]? =aac.heap[Z7]?/\∀a,e a->aag a\/(aab:N)<=a:=by subst k;have f:=c.then d;exact⟨aag,g.aO (f.mono λa _ b=>⟨O,λl=>i a l b⟩) j O,f.mono λa _ b=>.inr b,d.block Z7 (cg h c.size),λa m=>.inl m⟩
def gs.qe(s:gs Z3 Z4 Z5 Z9 aae aag aab)(H:M (λc=>c=Z7) aab aac)(O:B aac aac aad)(t:Z7<aab)(u:∀c,aag c->c≠Z7)(P:Z3<=Z7)(ad:Z3<=Z4)(ae:Z3<=Z5)(v:Z4≠Z5):∃n,gs Z3 Z4 Z5 Z9 aaf n ((((((aj aad Z4 aaf.1.k).setCell ⟨Z4,1,Z⟩ aaf.1.a).setCell ⟨Z4,2,Z⟩ aaf.1.b).setCell ⟨Z4,3,Z⟩ aaf.1.i).setCell ⟨Z4,4,Z⟩ aaf.1.j).setCell Z5 aaf.2)/\M (λc=>aag c\/c=Z7) aab ((((((aj aad Z4 aaf.1.k).setCell ⟨Z4,1,Z⟩ aaf.1.a).setCell ⟨Z4,2,Z⟩ aaf.1.b).setCell ⟨Z4,3,Z⟩ aaf.1.i).setCell ⟨Z4,4,Z⟩ aaf.1.j).setCell Z5 aaf.2)/\((((((aj aad Z4 aaf.1.k).setCell ⟨Z4,1,Z⟩ aaf.1.a).setCell ⟨Z4,2,Z⟩ aaf.1.b).setCell ⟨Z4,3,Z⟩ aaf.1.i).setCell ⟨Z4,4,Z⟩ aaf.1.j).setCell Z5 aaf.2).heap[Z7]? =aac.heap[Z7]?/\∀c,n c->aag c\/(aab:N)<=c:=by
 have⟨n,e,w,Q,R⟩:=s.adE H O t u P (aaf:=aae) J;have d:=s.own;subst d;have d:=e.own;subst d;have x:=((((e.b.set 0 aaf.1.k D).set 1 aaf.1.a D).set 2 aaf.1.b D).set 3 aaf.1.i D).set 4 aaf.1.j D;have⟨f,o⟩:=K (((((aj aad Z4 aaf.1.k).setCell ⟨Z4,1,Z⟩ aaf.1.a).setCell ⟨Z4,2,Z⟩ aaf.1.b).setCell ⟨Z4,3,Z⟩ aaf.1.i).setCell ⟨Z4,4,Z⟩ aaf.1.j);have y:M (λc=>c=Z4) aad f:=by
  rw[o];have g:∀(m:W) (h:N) (p:V),M (λc=>c=Z4) m (aj m ⟨Z4,h,Z⟩ p):=λm h p=>M.grown (bn m ⟨Z4,h,Z⟩ p) λc d=>X d.symm
  exact((((g _ _ _).trans (g _ _ _) I2 I2).trans (g _ _ _) I2 I2).trans (g _ _ _) I2 I2).trans (g _ _ _) I2 I2
 rw[<-o]at x⊢;have z:M (λc=>c=Z5) f (aj f Z5 aaf.2):=M.grown (bn f ⟨Z5,0,Z⟩ _) λc d=>X d.symm
 have q:M (λc=>c=Z4\/c=Z5) aad (aj f Z5 aaf.2):=y.trans z (λ_ _ d=>.inl d) (λ_ _ d=>.inr d);have G:∀r,(aj f Z5 aaf.2).frozen? r=aH aad r:=λr=>by rw[bs,o];simp only[bs]
 refine⟨λc=>c=Z4\/c=Z5,⟨x.aO z v,bP _ _ _ (by rw[y.cell e.l (λd=>v d.symm)];rfl),λh U=>by rw[G];exact e.fb h U,by rw[G];exact e.fl,J,e.bw.trans (q.bg (Y e.lt) λc ag d=>by rcases d with d|d<;>omega)⟩,w.trans q I2 (λ_ _ d=>.inl d),(q.block Z7 (cg t w.size) λd=>u Z7 d J).trans Q,R⟩
end
section
attribute [local go_sem] Oper.semAt_some
def NV(a:W)(c:V):∃b,a.alloc (az #[c] 325)=b/\B a a b/\b.heap.size=(a:N)+1/\C b a=A c:=⟨_,J,aN _ _,D,aE⟩
def yd(a:W)(u0 u1 u2 u3 u4:V):∃b,a.alloc (az #[u0,u1,u2,u3,u4] 298)=b/\B a a b/\b.heap.size=(a:N)+1/\ax b a [u0,u1,u2,u3,u4]/\∀c,c<5->aH b ⟨a,c,Z⟩=F:=⟨_,J,aN _ _,D,ax.new a [u0,u1,u2,u3,u4] _,λc _=>aE⟩
def ye(a:W)(c:I):∃b,a.alloc (az #[c] 3)=b/\B a a b/\b.heap.size=(a:N)+1/\C b a=A (aa ac c)/\aH b a=F:=⟨_,J,aN _ _,D,aE,aE⟩
def NW(d:W)(c:Mv×I)(e:bp)(f:W):Prop:=e=aq (aZ #[ao #[c.1.k,c.1.a,c.1.b,c.1.i,c.1.j],c.2,au (decide (c.2<0))])/\B d d f
def NX(a5 a6 e f:I)(bP bS bT:V)(c:ai)(a:ar)(n:W)(cS:∃dG ak dH,bP=S dG ak dH)(cT:bt n bS c)(h:bb n bT a)(bW:cx a):ap ab 234 #[ao #[a5,a6,e,f,bP,bS],ao #[bT]] n (NW n (i9 c a e f)):=by
 have⟨dJ,cU,dK,dL,ch⟩:=bR n a5 a6 e f bP bS;have⟨dM,cV,aF,cW,cX⟩:=c8 dJ bT;have⟨ci,cY,cj,dN,p,a8⟩:=yd dM (0:I) (0:I) (0:I) (0:I) (0:I);rw[dL]at cX cW;rw[cW]at p a8 dN;have ck:=q dK (q aF cj);have dO:=s cj cX;have cZ:=h.bw ck;have dP:=Q (Md a5 a6 e f bP bS bT c a ci cS (cT.bw ck) cZ bW);have dQ:=Q cZ;obtain⟨cl,cm,cn,rfl⟩:=cS;obtain⟨co,cp,cq,rfl,_,_,_⟩:=cT.open;obtain⟨a9,ak,ba,rfl,dR,eq,_⟩:=h.open;have⟨er,es,eu,ev,ew,ez⟩:=ch.bw (q aF cj);have dS:H (L a<=1000000):=Q O;have dT:H ((ci:N)=(n:N)+3):=Q O;have r:H (i9 c a e f=(kQ a).foldl (hi c a e f) (⟨0,0,0,0,0⟩,0)):=Q J;have cr:=Q ck;have bs:=Q p;change H _ at cU cV cY a8 bW dR;refine m3 func234 J ?_;simp only[ntmps234,List.size_toArray,dx,et,Nat.reduceAdd,Nat.reduceSub,Array.replicate_succ,Array.replicate_zero,List.push_toArray,List.append_toArray,List.nil_append,List.cons_append];go_upto_region 1 with fail;rw[cU,cV,cY];generalize cs:(n:N)+1=c0 at*;generalize ct:c0+1=g at*;change H _ at cs ct;go_wp2_with fail;refine dP.mono ?_;rintro ay cu ⟨bX,cv,rfl,dU,bY⟩;have⟨j,c1,bv,dV,c2⟩:=NV cu (aM (A bX));have⟨dW,c3,dY,dZ,bx,cw⟩:=yd j (0:I) (0:I) (0:I) (0:I) (0:I);have⟨be,c4,cy,bz,cz,cA⟩:=ye dW 0;have bA:=q bY bv;have bZ:=s bA dO;have b0:=q dY cy;have bx:=bx.bw cy;have bB:∀k,k<5->aH be ⟨j,k,Z⟩=F:=λk aG=>aY cy O (cw k aG);rw[dZ]at cz cA bz;have eA:=s b0 bZ;have eC:=cr;have aI:=Q bA;have b2:H (c0<j/\(cu:N)<j/\(ci:N)<=cu):=Q ⟨aR _ _ bZ,O,bY.size⟩;have c5:=Q (dQ.oo.bw bA);have cB:=Q (dU.bw bv);have b3:=Q bx;change H _ at c1 c3 c4 bZ c2 bB cz cA;change H _ at b0 bz dV;go_upto_region 2 with fail;rw[c1];go_upto_region 3 with fail;rw[c3,c4];go_wp2_with fail;refine mU (NJ (S a9 ak ba) be ⟨_,_,_,J⟩) λG ⟨c6,m⟩=>?_;have cC:gs j j ((j:N)+1) j (⟨0,0,0,0,0⟩,0) (λd=>d=(j:N)\/d=(j:N)+1) G:=⟨b3.bw m,s m cz,λk aG=>aY m (Y bz.oo) (bB k aG),aY m (Y bz.oo) cA,J,q b0 m⟩
 have c7:=q b0 m;have cD:=Q (NK be j G (S a9 ak ba) a c5 bW c7 c6);have c9:(be:N)<G:=aR _ _ c6;have aJ:H ((j:N)+2<(G:N)/\(be:N)=(j:N)+2):=Q (Y bz.oo);change H _ at cC c7 c9;go_wp2_with fail;have⟨P,cE⟩:=K (j:N);have⟨eD,c'⟩:=K (be:N);rw[<-cE]at cC aJ b2 cD⊢;rw[<-c']at cD aJ c9⊢;change H _ at cE c';refine nY J (enters_of func277 aT J) cD (λ_=>rfl) (λv bf w=>gs P P (P+1) j (v.foldl (hi c a e f) (⟨0,0,0,0,0⟩,0)) bf w) _ (λv bf w aA i t=>i.aO t (Y aJ.oo) (Y i.lt)) (λv bf w i=>i.owns (aL _) O (Y aJ.oo) (Y aJ.oo)) cC ?round ?done;case round=>
  intro eE v o bf R i ch aC aK;obtain⟨eF,d0⟩:=ch;have d1:(bV a o).1=T:=NS (J0:=4) (by show o∈kQ a;rw[d0];simp);have b5:=NT d1;have bl:(v++[o]).foldl (hi c a e f) (⟨0,0,0,0,0⟩,0)=hi c a e f (v.foldl (hi c a e f) (⟨0,0,0,0,0⟩,0)) o:=by rw[List.foldl_append];rfl
  have⟨al,da⟩:=K (v.foldl (hi c a e f) (⟨0,0,0,0,0⟩,0));rw[<-da]at i bl;have⟨cF,aD⟩:=K ((G:N)+1);rw[<-aD]at aC aK;have⟨b6,b7,_,_⟩:=tl a o;have⟨⟨ok,x,y⟩,b8⟩:=K (bV a o);have U:hi c a e f al o=if decide (kO c a o x y<al.2)&&kP c a e f x&&kP c a e f y then(o,kO c a o x y)else al:=by unfold hi;rw[<-b8]
  rw[<-b8]at b6 b7;simp only at b6 b7;have cG:=Q (λaN aP=>tP (S a9 ak ba) a o aN (c5.bw aP) bW);have cH:=Q (λaN aP=>L' bX a5 a6 e f (S cl cm cn) (S co cp cq) (S a9 ak ba) cv c a o x y aN (cB.bw aP) b6 b7 ⟨b5.1,b5.2.1⟩ ⟨b5.2.2.1,b5.2.2.2⟩ dS);have cI:=Q (λaN aP=>xM bX a5 a6 e f (S cl cm cn) (S co cp cq) (S a9 ak ba) cv c a x aN (cB.bw aP) b6);have cJ:=Q (λaN aP=>xM bX a5 a6 e f (S cl cm cn) (S co cp cq) (S a9 ak ba) cv c a y aN (cB.bw aP) b7);rw[<-b8]at cG;have⟨z,db⟩:=K (kO c a o x y);have⟨f1,dc⟩:=K (kP c a e f x);have⟨d2,dd⟩:=K (kP c a e f y);rw[<-db]at cH U;rw[<-dc]at cI U;rw[<-dd]at cJ U;rw[<-cE]at cG cH cI cJ;obtain⟨aQ,w,aA,aS,aV⟩:=o;have⟨eG,de,cK,eH,p,ad,ae,ag,ah⟩:=pk R aQ (w:I) (aA:I) aS aV;have am:=Q i;change H _ at de cK aC U aD db dc dd da b8;change H _ at bl aK;simp only[ps,List.zip_toArray,List.zip_cons_cons,List.zip_nil_left];gi_wp2;rw[de];refine⟨cK,λb9 aW=>?_⟩;rw[<-aD]at aW;have bC:(R:N)≠cF:=Y aC.oo
  have p:=aW.cell p bC;have ad:=aW.cell ad bC;have ae:=aW.cell ae bC;have ag:=aW.cell ag bC;have ah:=aW.cell ah bC;have dg:M (λd=>d=cF) R b9:=(M.bw cK).trans aW (O1:=λ_=>False) (λ_ _ ay=>ay.elim) I2;have aX:P+2<cF:=bi aD.oo aJ.oo
  have aF:B P j b9:=am.bw.trans (dg.bg (Y am.lt) λd t ay=>O);have eJ:=bk aF (Y b2.oo) bZ;have bm:=bk aF (Y b2.oo) c2;have d3:=Q (cG.oo b9 aF);have a0:=Q dg;have d4:=Q aF;change H _ at aX;gi_upto_region 5 with fail;refine jY jI dI ?_;go_wp2_with fail;refine mU d3 λan aE=>?_;have⟨d5,dh,bY,d6,d7⟩:=gQ an bu;have⟨a2,di,bv,eK,b'⟩:=gQ d5 bu;have dj:=(bv.block _ O).trans d7;rw[d6]at b';have bA:=q bY bv;have bs:=s aE p;have a8:=s aE ad;have dk:=s aE ae;have dl:=s aE ag;have dm:=s aE ah;have dn:=s aE bm;have aI:=Q bA;change H _ at dh di dj b' aE bs a8 dk dl dm dn;go_wp2_with (first
   |(rw[show(#[aa ac 0,(0:I),(0:I),au F,(0:I),(0:I),(0:I),au F,(0:I),(0:I),(0:I),au F,(0:I),(0:I),(0:I),au F,(0:I),(0:I),(0:I),au F]:Array V)=bu from J,dh,di];refine eB J (.tmp 11) (.tmp 26) 333 J a2 an (bE x) bu J J dj bK J (jU x) ?_;intro d8 cL ca)
   |(refine eB J (.tmp 12) (.tmp 27) 333 J d8 ((an:N)+1) (bE y) bu J J ((cL.block _ (bM.1 b').1 D).trans b') bK J (jU y) ?_;intro cc dp bo))
  try simp only[Act.put,List.setIfInBounds_toArray,List.set_cons_zero,List.set_cons_succ]
  have a3:B an an cc:=(aI.grown cL aI.size (λd t=>dX)).grown dp (a1 aI.size cL.size) (λd t=>dX);have cd:=(dp.block _ (bM.1 ca).1 D).trans ca;have dq:=q aE a3;have p:=s a3 bs;have ad:=s a3 a8;have ae:=s a3 dk;have ag:=s a3 dl;have ah:=s a3 dm;have bm:=s a3 dn;have cM:P<=b9.heap.size:=bi a0.size am.lt
  have dr:=d4.trans (dq.mono cM);have d9:=Q (cH.oo cc dr);have ds:=Q dq;have cN:=Q bo;change H _ at cd;gi_upto_region 6 with fail;refine jY jI dI ?_;go_wp2_with (first
   |(refine m7 J (.tmp 11) 333 J cc an (bE x) _ J J cd underlying333 bK ?_)
   |(refine m7 J (.tmp 12) 333 J cc ((an:N)+1) (bE y) _ J J cN underlying333 bK ?_))
  refine mU d9 λdt m=>?_;have ce:=q ds m;have du:=dr.trans (m.mono (a1 cM ds.size));have p:=s m p;have ad:=s m ad;have ae:=s m ae;have ag:=s m ag;have ah:=s m ah;have bm:=s m bm;have ca:=(m.block _ (bM.1 cd).1).trans cd;have bo:=(m.block _ (bM.1 cN).1).trans cN;have d':=s ce (a0.cell am.l (λay=>Y aX.oo));have ea:=Q (cI.oo dt du);go_wp2_with fail;rcases(df (decide (z<al.2))).symm with cO|cO;·rw[cO]at U;have a4:H (al=(v++[(⟨aQ,w,aA,aS,aV⟩:Mv)]).foldl (hi c a e f) (⟨0,0,0,0,0⟩,0)):=Q (by rw[bl,U];rfl);have r:=am.adE a0 ce aC aK (Y aX.oo) a4;change H _ at r;gi_upto_region 7 with fail;refine jY jI dI ?_;go_wp2_with fail;gi_wp2;have h:=r.oo;rw[aD]at h;exact h
  rw[cO]at U;gi_upto_region 7 with fail;refine jY jI dI ?_;go_wp2_with (refine yc (.tmp 11) 333 J dt an (bE x) _ J J ca underlying333 bK dI ?_);refine mU ea λdv av=>?_;have dw:=q ce av;have eb:=du.trans (av.mono (a1 cM ce.size));have p:=s av p;have ad:=s av ad;have ae:=s av ae;have ag:=s av ag;have ah:=s av ah;have bm:=s av bm;have bo:=(av.block _ (bM.1 bo).1).trans bo;have ec:=Q (cJ.oo dv eb);cases f1 with
   |false=>have a4:H (al=(v++[(⟨aQ,w,aA,aS,aV⟩:Mv)]).foldl (hi c a e f) (⟨0,0,0,0,0⟩,0)):=Q (by rw[bl,U];rfl);have r:=am.adE a0 dw aC aK (Y aX.oo) a4;change H _ at r;go_wp2_with fail;gi_wp2;have h:=r.oo;rw[aD]at h;exact h
   |true=>
    go_wp2_with (refine yc (.tmp 12) 333 J dv ((an:N)+1) (bE y) _ J J bo underlying333 bK dI ?_);refine mU ec λeL bq=>?_;have cP:=q dw bq;have p:=s bq p;have ad:=s bq ad;have ae:=s bq ae;have ag:=s bq ag;have ah:=s bq ah;cases d2 with
     |false=>have a4:H (al=(v++[(⟨aQ,w,aA,aS,aV⟩:Mv)]).foldl (hi c a e f) (⟨0,0,0,0,0⟩,0)):=Q (by rw[bl,U];rfl);have r:=am.adE a0 cP aC aK (Y aX.oo) a4;change H _ at r;go_wp2_with fail;gi_wp2;have h:=r.oo;rw[aD]at h;exact h
     |true=>have a4:H ((v++[(⟨aQ,w,aA,aS,aV⟩:Mv)]).foldl (hi c a e f) (⟨0,0,0,0,0⟩,0)=(⟨aQ,w,aA,aS,aV⟩,z)):=Q (by rw[bl,U];rfl);have r:=am.qe (aaf:=((⟨aQ,w,aA,aS,aV⟩:Mv),z)) a0 cP aC aK (Y aX.oo) (aL _) O O;have⟨_,u,_,_,_⟩:=am.adE a0 cP aC aK (Y aX.oo) (J:al=al);have eN:=u.b 0 _ J;have eO:=u.b 1 _ J;have eP:=u.b 2 _ J;have eQ:=u.b 3 _ J;have eR:=u.b 4 _ J;have d':=u.l;have eS:=u.fb 0 O;have eT:=u.fb 1 O;have eU:=u.fb 2 O;have eV:=u.fb 3 O;have eW:=u.fb 4 O;have eX:=u.fl;change H _ at r;go_wp2_with fail;gi_wp2;have h:=r.oo;rw[aD,<-a4]at h;exact h
 case done=>
  intro bf R i cf eY;have ed:i9 c a e f=(kQ a).foldl (hi c a e f) (⟨0,0,0,0,0⟩,0):=r;have i:gs P P (P+1) j (i9 c a e f) bf R:=by rw[ed];exact i
  have⟨⟨⟨bD,bF,bG,bH,bI⟩,z⟩,cQ⟩:=K (i9 c a e f);rw[<-cQ]at i;change H _ at cQ;have dy:g<P:=by have:=cs.oo;have:=ct.oo;have:=b2.oo;have:=dT.oo;omega
  have br:ax R g [(0:I),(0:I),(0:I),(0:I),(0:I)]:=(bs.bw aI).lower i.bw dy;have hF:∀k,k<5->aH R ⟨g,k,Z⟩=F:=λk aG=>ex i.bw dy (aY aI bs.lt (a8 k aG));have eZ:g<G:=Y aJ.oo
  have e0:=br 0 _ J;have e1:=br 1 _ J;have e2:=br 2 _ J;have e3:=br 3 _ J;have e4:=br 4 _ J;have e5:=hF 0 O;have e6:=hF 1 O;have e7:=hF 2 O;have e8:=hF 3 O;have e9:=hF 4 O;have ee:=bU.cell (G:=λd=>d=g) (i.b 0 _ J) O;have ef:=bU.cell (G:=λd=>d=g) (i.b 1 _ J) O;have eg:=bU.cell (G:=λd=>d=g) (i.b 2 _ J) O;have eh:=bU.cell (G:=λd=>d=g) (i.b 3 _ J) O;have ei:=bU.cell (G:=λd=>d=g) (i.b 4 _ J) O;have ej:=bU.cell (G:=λd=>d=g) i.l O;simp only at ee ef eg eh ei ej;have⟨a2,cg⟩:=K (((((aj R g bD).setCell ⟨g,1,Z⟩ bF).setCell ⟨g,2,Z⟩ bG).setCell ⟨g,3,Z⟩ bH).setCell ⟨g,4,Z⟩ bI);have ek:ax a2 g [bD,bF,bG,bH,bI]:=by rw[cg];exact((((br.set 0 bD D).set 1 bF D).set 2 bG D).set 3 bH D).set 4 bI D
  have cR:M (λd=>d=g) R a2:=by
   rw[cg];have bL:∀(z:W) (k:N) (bN:V),M (λd=>d=g) z (aj z ⟨g,k,Z⟩ bN):=λz k bN=>M.grown (bn z ⟨g,k,Z⟩ bN) λd ay=>X ay.symm
   exact((((bL _ _ _).trans (bL _ _ _) I2 I2).trans (bL _ _ _) I2 I2).trans (bL _ _ _) I2 I2).trans (bL _ _ _) I2 I2
  have dz:a2.drew.heap[(G:N)]? =A (.deferred (A [])):=(cR.block _ (bM.1 cf).1 O).trans cf;have bO:ax (a2.drew.putObj G (.deferred Z)) g [bD,bF,bG,bH,bI]:=λk bN aG=>(ey (World.putObj_heap_other (bh (g≠(G:N))))).trans (ek k bN aG);have dA:B n n (a2.drew.putObj G (.deferred Z)):=by
   have el:B n n j:=cr.trans (aI.mono cr.size);have e':n<=g:=bi cs.oo ct.oo
   have dB:B n n R:=el.trans (i.bw.mono O);have dC:=dB.trans ((cR.drew).bg dB.size λd t ay=>O);exact dC.trans ((hc _ _ _).bg dC.size λd t ay=>O)
  have b3:=bO 0 _ J;have bB:=bO 1 _ J;have dD:=bO 2 _ J;have dE:=bO 3 _ J;have dF:=bO 4 _ J;have em:=Q cR;change H _ at dz dA b3 bB dD dE dF cg;go_upto_region 9 with fail;refine od (λd=>d=g) [100,101,102,3,204,5,6] ?_;iterate 4 refine mS ?_
  refine aU λfa cf=>?_;go_simp;rw[<-cg];refine cf _ _ (.mk em.drew) ?_;iterate 2 refine mS ?_
  refine bc ?_;go_wp2_with fail;have bx:=b3.oo;have cw:=bB.oo;have en:=dD.oo;have eo:=dE.oo;have ep:=dF.oo;exact kK (Kl:=aZ #[ao #[bD,bF,bG,bH,bI],(z:I),au (decide (z<0))]) dz (by simp[results,results234,go_sem,bx,cw,en,eo,ep]) ⟨by rw[<-cQ],dA⟩
end
def yf(a:W)(b:ar)(c:Mv)(h:bp)(d:W):Prop:=∃e f g,h=aq (aZ #[ao #[S e f g],(if(bV b c).1 then 0 else 17:I)])/\aI bb (λi=>i<(a:N)) d (S e f g) (kR b c)/\B a a d
def NY(cc cd ce cf:I)(cg ch a4:V)(d:ar)(e:Mv)(v:W)(a5:bb v a4 d)(bs:cx d)(c6:∃y r z,cg=S y r z)(c7:∃y r z,ch=S y r z):ap ab 235 #[ao #[cc,cd,ce,cf,cg,ch],ao #[a4],ao #[e.k,e.a,e.b,e.i,e.j]] v (yf v d e):=by
 obtain⟨c9,c',da,rfl⟩:=c6;obtain⟨db,dc,dd,rfl⟩:=c7;have⟨de,ci,cj,ck,_⟩:=bR v cc cd ce cf (S c9 c' da) (S db dc dd);have⟨df,cl,cm,bJ,HN⟩:=c8 de a4;have⟨dg,cn,bL,bN,a6,Gk,Gl,a8,a9⟩:=pk df e.k e.a e.b e.i e.j;have⟨dh,co,ai,cp,G,bc⟩:=cP dg (S Z 0 0);have bt:=q cj (q cm (q bL ai));have HN:=s (q bL ai) HN;have a6:=s ai a6;have Gk:=s ai Gk;have Gl:=s ai Gl;have a8:=s ai a8;have a9:=s ai a9;rw[ck]at HN bJ;rw[bJ]at a6 Gk Gl a8 a9 bN;rw[bN]at G bc cp;have bO:=Q (tP a4 d e dh (a5.bw bt) bs);have dj:=Q (λdk be dl bP=>LU a4 d be dk (a5.bw dl) bs bP);have⟨bv,bx,_,_⟩:=tl d e;have⟨dm,dn⟩:=U (qV d e) (s5 a5);have aN:H (kR d e=if(bV d e).1 then go d e (L d) else[]):=Q J;have aO:H (∀M,hj d e M=if(M:I)=e.a then gh d (bV d e).2.1 else if(M:I)=e.b then gh d (bV d e).2.2 else ah d M):=Q (λM=>rfl);unfold yf;have⟨⟨ok,bg,bh⟩,dp⟩:=K (bV d e);rw[<-dp]at bO aN aO bv bx⊢;simp only at bv bx aN aO;obtain⟨l,g,h,n,p⟩:=e;simp only at a6 Gk Gl a8 a9 bO aO⊢;obtain⟨dU,r,dV,rfl,cq,bl,cr⟩:=a5.open;change H _ at ci cl cn co bt bv bx dm dn cq cr;change H _ at bs cp;clear a5 cj cm bL ai ck bJ bN;go_in;go_upto_region 1 with fail;rw[ci,cl,cn,co];generalize bz:(v:N)+1=dq at*;generalize bm:dq+1=dr at*;generalize aD:dr+1=w at*;change H _ at bz bm aD;go_wp2_with fail;refine mU bO λx aE=>?_;have⟨bA,cs,aQ,ct,ds⟩:=gQ x bu;have⟨dt,cu,bT,cv,bB⟩:=gQ bA bu;have cw:=(bT.block _ O).trans ds;rw[ct]at bB cv;have cy:=q aQ bT;have bU:=Q cy;have dW:=bt;have bn:=s aE Gk;have bo:=s aE Gl;have aT:=s aE HN;have bq:=aY aE (aR _ _ G) bc;have aG:=s aE G;change H _ at cs cu cw bB cv bn bo aT aG bq;change H _ at aE;clear a6 a8 a9 aQ bT ct cy;go_upto_region 2 with(first
  |(rw[show(#[aa ac 0,(0:I),(0:I),au F,(0:I),(0:I),(0:I),au F,(0:I),(0:I),(0:I),au F,(0:I),(0:I),(0:I),au F,(0:I),(0:I),(0:I),au F]:Array V)=bu from J,cs,cu];refine eB J (.tmp 8) (.tmp 19) 333 J dt x (bE bg) bu J J cw bK J (jU bg) ?_;intro du bC aU)
  |(refine eB J (.tmp 9) (.tmp 20) 333 J du ((x:N)+1) (bE bh) bu J J ((bC.block _ (bM.1 bB).1 D).trans bB) bK J (jU bh) ?_;intro al bW bD))
 try simp only[Act.put,List.setIfInBounds_toArray,List.set_cons_zero,List.set_cons_succ]
 have aI:B x x al:=(bU.grown bC bU.size (λc t=>dX)).grown bW (a1 bU.size bC.size) (λc t=>dX);have aU:=(bW.block _ (bM.1 aU).1 D).trans aU;have cz:=q aE aI;have cA:=Q (q bt cz);have HN:=s aI aT;have Gk:=s aI bn;have Gl:=s aI bo;have bc:=aY aI (aR _ _ aG) bq;have G:=s aI aG;have dv:H ((x:N)+1<(al:N)/\w<x):=Q ⟨(bM.1 bD).1,aR _ _ aG⟩;clear bC bW aI cz;cases ok with
  |false=>simp only[gL,if_false]at aN⊢;clear HN Gk Gl aU bD;go_wp2_with fail;have bX:(aj al w (S Z 0 0)).cell? w=A (S Z 0 0):=((d2 G).set 0 _ D) 0 _ D;refine b0 (v:=aZ #[ao #[S Z 0 0],(17:I)]) (by simp[results,results235,go_sem,bX]) J ⟨Z,0,0,J,?_,cA.out.setCell (p:=⟨w,0,Z⟩) (by have:=bz.oo;have:=bm.oo;have:=aD.oo;simp;omega) _⟩;rw[aN];exact λdx _ _=>jQ dx
  |true=>
   simp only[if_true]at aN⊢;have⟨bG,cB,P,dy,cC,cD⟩:=cP al (S Z 0 0);have cE:bS 98 ba (·<(al:N)) bG al (S Z 0 0) [] (go d ⟨l,g,h,n,p⟩ 0) bG:=bS.start cC cD (aS _ _);have aT:=s P HN;have bn:=s P Gk;have bo:=s P Gl;have bq:=aY P (aR _ _ G) bc;have aG:=s P G;have cF:=(P.block _ (bM.1 aU).1).trans aU;have cG:=(P.block _ (bM.1 bD).1).trans bD;have cH:=q cA.out P;have dY:H ((al:N)<bG):=Q O;have dz:=Q cH;change H _ at cB cE cF cG;clear cH;change H _ at aT bn bo aG bq;clear P dy cC cD;go_upto_region 5 with fail;rw[cB];generalize al=R at*;have HN:=aT.oo;have u:H ((v:N)<=R/\w<R/\(x:N)+1<R):=Q (by have:=bz.oo;have:=bm.oo;have:=aD.oo;have:=dv.oo;omega);go_wp2_with fail;clear HN;go_loopw [28] (λM wr=>∃(c:N) (bF:V) (bZ:aP),M=(c:I)/\c<=r/\bS 98 ba (·<R) bG R bF bZ (go d ⟨l,g,h,n,p⟩ c) wr) (λM _=>r-(aw M).toNat);exact⟨0,_,_,J,a3 _,cE⟩;obtain⟨c,bF,bZ,rfl,t,ad⟩:=hrel;obtain⟨aV,rfl⟩:=K wr;have aX:B v v aV:=dz.trans (ad.bw.mono u.1);by_cases Ch:c<r
   ·obtain⟨d1,d3,cI,cJ,cK,rfl,b2,hp⟩:=cr c Ch;have b2:=s aX b2;have d4:=aJ c;have d5:(c:I)<r:=by omega
    have⟨dA,cL,b3,dB,bH⟩:=d0 aV (S cI cJ cK);have dC:=Q (qZ (S cI cJ cK) (ah d c) dA (hp.bw (q aX b3)) (bs c));have ae:=Q ad;have cM:=Q b3;have dD:=Q aX;change H _ at cL;clear b3 aX;clear ad hp dB;go_upto_region 8 with fail;rw[cL];clear b2;go_wp2_with fail;refine mF dC λb4 y cN z ⟨o,cO⟩=>?_;have an:=q cM cO;have Gk:=bk ae.bw (bi u.oo aD.oo) bn;have Gl:=bk ae.bw (bi u.oo aD.oo) bo;have HN:=bk ae.bw (by have:=u.oo;have:=aD.oo;have:=bm.oo;omega) aT;have Gk:=s an Gk;have Gl:=s an Gl;have HN:=s an HN;have cQ:=(an.block _ (bi ae.lt u.oo)).trans ((ae.bw.block _ (Y u.oo)).trans cF);have cR:=(an.block _ (bi ae.lt u.oo)).trans ((ae.bw.block _ (Y u.oo)).trans cG);have cS:=Q (λbe bP=>dj b4 be (q dD an) bP);have cT:=o.mono cM.size;have Gi:=Q an;change H _ at cQ cR cT;clear an;clear o cO bH;go_upto_block 2 with fail;go_cut [14] (λbe cU=>∃y r z,be=S y r z/\aW 89 cU aV (S y r z) (hj d ⟨l,g,h,n,p⟩ c)/\B aV aV cU);case first=>
     by_cases ax:(c:I)=g
     ·have b5:((c:I)==g)=T:=by simpa using ax
      have DP:H (hj d ⟨l,g,h,n,p⟩ c=gh d bg):=Q (by rw[aO,am ax]);clear ax;go_upto_region 11 with fail;go_wp2_with (refine m7 J (.tmp 8) 333 J b4 x (bE bg) _ J J cQ underlying333 bK ?_);refine mF (cS bg bv) λdE y cN z ⟨o,Gj⟩=>?_;exact v7
     have b5:((c:I)==g)=F:=X ax
     by_cases a0:(c:I)=h
     ·have b6:((c:I)==h)=T:=by simpa using a0
      have DP:H (hj d ⟨l,g,h,n,p⟩ c=gh d bh):=Q (by rw[aO,ak ax,am a0]);clear ax a0;go_upto_region 13 with fail;go_wp2_with (refine m7 J (.tmp 9) 333 J b4 ((x:N)+1) (bE bh) _ J J cR underlying333 bK ?_);refine mF (cS bh bx) λdE y cN z ⟨o,Gj⟩=>?_;exact v7
     have b6:((c:I)==h)=F:=X a0
     have DP:H (hj d ⟨l,g,h,n,p⟩ c=ah d c):=Q (by rw[aO,ak ax,ak a0]);clear ax a0;go_wp2;go_meet;exact⟨_,_,_,J,by rw[DP];exact cT,Gi⟩
    obtain⟨cV,ag,cW,rfl,o,b7⟩:=hcut;obtain⟨cX,rfl⟩:=K wc;clear HN Gk Gl;have bl:ag=(hj d ⟨l,g,h,n,p⟩ c).length:=vE
    have bI:H (go d ⟨l,g,h,n,p⟩ (c+1)=if 0<ag then go d ⟨l,g,h,n,p⟩ c++[hj d ⟨l,g,h,n,p⟩ c]else go d ⟨l,g,h,n,p⟩ c):=Q (by rw[bl];rfl);have a2:=ae.next b7;by_cases cY:0<ag
    ·have b5:decide ((0:I)<ag)=T:=by simp;omega
     have b6:decide (0<ag)=T:=aF
     rw[am cY]at bI;obtain⟨ay,aA,aC,rfl,dF,_⟩:=a2.form;have cZ:=ae.qd o (aL _);have⟨c0,b8,b9,dG,bH⟩:=d0 cX (S cV ag cW);have br:=a2.next b9;have dH:=Q (cZ.bw b9);have dI:=Q (d2 bH);have dJ:H (R+1<=(c0:N)):=Q br.lt;have dK:H ((go d ⟨l,g,h,n,p⟩ c).length+1<=1000000000000):=Q (Y (qV d ⟨l,g,h,n,p⟩ c));have dL:=Q br.cell;have dM:=Q br.free;have dN:=a2.cell;have c1:=Q br;replace b8:=Q b8;clear br;clear cZ bH dG b9 o b7 a2 dF bl;go_upto_region 15 with fail;go_wp2_with (at_builtin;rw[b8];refine fr J _ _ 93 98 (ao #[S Z 0 0]) 1 24 underlying93 lI J av av J c0 (R+1) (S ay aA aC) (go d ⟨l,g,h,n,p⟩ c).length bZ [S cV ag cW] cX J J dI J eP c1.own dK dJ ?_);intro d6 d7 bA c2 c3 aQ c4 dO dP;have b':=c1.push dH c2 c3 c4;rw[<-bI]at b';have d8:C bA R=A (S ay aA aC):=bk aQ (fD _) dL;have d9:aH bA R=F:=ex aQ (fD _) dM;change H _ at b';clear c2 c3 aQ c4 dO dP dN;go_wp2;go_roundw;case rel=>exact⟨c+1,_,_,aK,kL Ch,b'⟩
     exact bY
    have b5:decide ((0:I)<ag)=F:=aF
    have b6:decide (0<ag)=F:=aF
    rw[ak cY]at bI;have ca:=a2;rw[<-bI]at ca;change H _ at ca;clear a2 o b7 bl;go_wp2;go_roundw;case rel=>exact⟨c+1,_,_,aK,kL Ch,ca⟩
    exact bY
   have dQ:c=r:=O
   subst dQ;obtain⟨ay,aA,aC,rfl,dR,dS⟩:=ad.form;clear dR dS;have d':=ad.cell;have G:=bk ad.bw (Y u.oo) aG;have bc:=ex ad.bw (Y u.oo) bq;have dT:v<=w:=by have:=bz.oo;have:=bm.oo;have:=aD.oo;omega
   have m:=(ad.qc (a1 (qV _ _ _) bl)).set ⟨w,0,Z⟩ (S ay aA aC) (G':=λc=>c<(v:N)) (by have:=u.oo;simp;omega) (λc t=>Y u.oo);have c5:=aX.setCell (p:=⟨w,0,none⟩) dT (.slice ay aA aC);rw[<-cq,<-aN]at m;change H _ at m c5;clear ad aX;go_wp2_with fail;have bX:(aj aV w (S ay aA aC)).cell? w=A (S ay aA aC):=((d2 G).set 0 _ D) 0 _ D;exact b0 (v:=aZ #[ao #[S ay aA aC],(0:I)]) (by simp[results,results235,go_sem,bX]) J ⟨_,_,_,J,m,c5⟩
def NZ(a:W)(g:ar)(h:bp)(c:W):Prop:=∃d e f b,h=aq (aZ #[ao #[S d e f],(b:I)])/\aI bb (λb=>b<(a:N)) c (S d e f) g/\B a a c
def tQ(a:ar)(b:N)(h:b<L a):a.take (b+1)=a.take b++[ah a b]:=sB
def ci.lower{f g h:V}(c:ci w b u v y f g h)(d:B a w x)(e:b<a):ci x b u v y f g h:=⟨bk d e c.c0,bk d e c.c1,bk d e c.c2,bk d e c.c3,bk d e c.c4,bk d e c.c5⟩
def yg(a8 a9 u v h:I)(bC bD bX:V)(aC:ai)(m:ar)(c:W)(cB:∃dA al dB,bC=S dA al dB)(bZ:bt c bD aC)(w:bb c bX m)(b2:a6 m<=1000000)(d7:h<=1000000):ap ab 199 #[ao #[a8,a9,u,v,bC,bD],ao #[bX],h] c (NZ c (dr aC u v m h.toNat)):=by
 obtain⟨dC,cC,cD,cE,cF⟩:=bR c a8 a9 u v bC bD;obtain⟨dD,cG,b3,b5,b6⟩:=c8 dC bX;obtain⟨be,cH,bE,aD,bF,b7⟩:=cP dD (S Z 0 0);obtain⟨bG,cI,aG,cJ,bH,b8⟩:=cP be (S Z 0 0);rw[cE]at b6 b5;rw[b5]at bF b7 aD;rw[aD]at bH b8 cJ;have cK:=q cD (q b3 (q bE aG));have cL:=cF.bw (q b3 (q bE aG));have cM:=s (q bE aG) b6;have bJ:=s aG bF;have bK:=aY aG (aR _ _ bF) b7;have b9:bS 98 ba (·<(be:N)) bG be (S Z 0 0) [] (m.take 0) bG:=bS.start (by rw[aD];exact bH) (by rw[aD];exact b8) (aS _ _);have dE:=Q (λ(a:W) (bf:V) (f:ar) (ax:B c c a) (b':bb a bf f) (ca:cx f)=>NX a8 a9 u v bC bD bf aC f a cB (bZ.bw ax) b' ca);obtain⟨cN,cO,cQ,rfl⟩:=cB;obtain⟨cR,cS,cT,rfl,_,_,_⟩:=bZ.open;have dF:=Q (λ(a:W) (bf:V) (f:ar) (dG:Mv) (b':bb a bf f) (ca:cx f)=>NY a8 a9 u v (S cN cO cQ) (S cR cS cT) bf f dG a b' ca ⟨_,_,_,J⟩ ⟨_,_,_,J⟩);obtain⟨d8,al,d9,rfl,Da,dH,bg⟩:=w.open;have cU:=cx.of b2;have cV:H ((be:N)=(c:N)+3):=Q aD;have cW:=Q cK;change H _ at cC cG cH cI cL cM bJ bK b9 Da bg cU b2;clear cK;clear cF bZ w cD b3 bE aG cE b5 aD cJ b6 bF b7 bH b8;go_in;go_upto_region 1 with fail;rw[cC,cG,cH];generalize cX:(c:N)+1=cc at*;generalize cY:cc+1=r at*;change H _ at cX cY;go_upto_region 2 with fail;rw[cI];obtain⟨d,cZ⟩:=K (be:N);rw[<-cZ]at cV b9⊢;change H _ at cZ;have IU:H (c<cc/\cc<r/\r<d):=Q (by have:=cV.oo;have:=cX.oo;have:=cY.oo;omega);have d':H (B c c bG):=cW;have dI:=cM.oo;go_wp2_with fail;clear dI;go_loopw [18] (λg wr=>∃(b:N) (z:V) (cd:aP),g=(b:I)/\b<=al/\bS 98 ba (·<d) bG d z cd (m.take b) wr) (λg _=>al-(aw g).toNat);exact⟨0,_,_,J,a3 _,b9⟩;obtain⟨b,z,cd,rfl,bL,e⟩:=hrel;obtain⟨bM,rfl⟩:=K wr;have bh:B c c bM:=cW.trans (e.bw.mono (Y IU.oo));by_cases Ch:b<al
 ·obtain⟨c6,ce⟩:=K (m.take b);have c7:=Q (tQ m b c1);have dJ:H (L c6+1<=1000000000000):=Q (by rw[ce,dd];omega);rw[<-ce]at e c7;clear ce;obtain⟨eb,ec,c9,c',da,rfl,x,hp⟩:=bg b Ch;have x:=s bh x;have ed:=aJ b;have ee:(b:I)<al:=by omega
  obtain⟨n,db,cf,dK,ef⟩:=d0 bM (S c9 c' da);have cg:=e.next cf;have dL:=Q (λ(a:W) (ax:B n n a)=>qZ (S c9 c' da) (ah m b) a ((hp.bw (q bh cf)).bw ax) (cU b));obtain⟨i,j,k,rfl,ch,cj⟩:=e.form;have bH:=cg.cell;have dc:=Q cg;change H _ at db;clear cg;clear e hp dK cf bh ch cj;go_upto_region 5 with fail;rw[db];clear x;refine bv [0,2,101,103,204,5,206,307,8,309] ?_;iterate 4 refine mS ?_
  refine aU λde bi=>?_;go_simp;refine mF (dL _ (an _)) λo aO df dg ⟨dh,bl⟩=>?_;have ck:=q (an n) bl;refine bi _ _ (.mk ck) ?_;refine mS ?_;obtain⟨l,bm,aQ,cl,di⟩:=d0 o (S aO df dg);have cn:=q ck aQ;have G:=dc.next cn;have bN:=Q ((dc.qd dh (by exact aL _)).bw aQ);have bn:=Q (d2 di);have dM:H (d+1<=l.heap.size):=Q G.lt;refine aU λde bi=>?_;go_simp;try rw[bm]
  refine bi _ _ (.mk cn) ?_;refine b4 λde bi=>?_;refine iy (.tmp 23) (.tmp 28) 93 98 _ 1 24 underlying93 lI J av av J l (d+1) (S i j k) (L c6) cd [S aO df dg] o J J bn J eP G.own dJ dM ?_;intro eg eh bo dj bO dk dN;have co:=G.push bN dj bO dk;rw[<-c7]at co;have cp:A d≠(S i j k).ownBlock:=λdO=>Y ((bI G.own d dO.symm).1)
  have dP:=bO.cell G.cell cp;have dQ:=eS bO G.lt cp G.free;change H _ at co;refine bi _ _ ?_;clear dj bO dk dN G dh bm aQ cl di ck cn bl cp;iterate 2 refine mS ?_
  refine bc ?_;clear dP dQ;go_wp2;go_roundw;case rel=>exact⟨b+1,_,_,aK,kL Ch,co⟩
  exact bY
 have dR:b=al:=O
 subst dR;have dl:m.take b=m:=cm ly;rw[dl]at e;have y:=bk e.bw (Y IU.oo) bJ;have aT:=ex e.bw (Y IU.oo) bK;have bN:=e.qc (by rw[Da];exact dH);have bg:=e.cell;have dm:=e.free;have dn:ci bM c a8 a9 u v (S cN cO cQ) (S cR cS cT):=by
  have w:=cL.oo;have aV:c<d:=Y IU.oo
  exact⟨bk e.bw aV w.c0,bk e.bw aV w.c1,bk e.bw aV w.c2,bk e.bw aV w.c3,bk e.bw aV w.c4,bk e.bw aV w.c5⟩
 have dS:=e.lt;have bJ:=Q y;have bK:=Q aT;have dT:=Q bh;change H _ at dn dS bN bg dm;clear y aT bh;clear e dl;go_upto_region 7 with fail;go_wp2;go_loopw [11] (λg wr=>∃(b:N) (z:V) (f:ar),g=(b:I)/\b<=h.toNat/\dr aC u v f (h.toNat-b)=dr aC u v m h.toNat/\a6 f<=1000000/\C wr d=A z/\aH wr d=F/\aI bb (λb=>b<=d) wr z f/\B d bM wr) (λg _=>h.toNat-(aw g).toNat);exact⟨0,_,m,J,a3 _,by rw[Nat.sub_zero],b2,bg,dm,bN,aS _ _⟩;obtain⟨g,z,f,rfl,ei,hinv,bq,ay,x,br,aA⟩:=hrel;obtain⟨n,rfl⟩:=K wr;have bu:B c c n:=dT.trans (aA.mono (Y IU.oo));have bx:=br.now;obtain⟨i,j,k,rfl,ch,cj,_⟩:=bx.open;clear ch cj;have y:=bk aA (Y IU.oo) bJ;have aT:=ex aA (Y IU.oo) bK;by_cases Ch:(g:I)<h
 ·have dU:decide ((g:I)<h)=T:=by simp;omega
  have bP:h.toNat-g=(h.toNat-(g+1))+1:=O
  have cq:H (g<h.toNat/\h.toNat<=1000000):=Q ⟨O,O⟩;rw[bP]at hinv;have dp:=Q (dE.oo n _ f bu bx (cx.of bq));obtain⟨⟨⟨aW,aX,a0,a2,a4⟩,cr⟩,cs⟩:=K (i9 aC f u v);rw[dr,<-cs]at hinv;rw[<-cs]at dp;simp only at hinv;have bn:=λ(a:W) (ax:B n n a)=>(ci.lower (dn) aA (Y IU.oo)).bw ax;obtain⟨l,bm,aQ,cl,M,P,R,ad,ae⟩:∃l:W->W,(∀a,a.alloc (az #[aW,aX,a0,a2,a4] 298)=l a)/\(∀a,B a.heap.size a (l a))/\(∀a,(l a).heap.size=a.heap.size+1)/\(∀a,(l a).cell? a.heap.size=A (aa ac aW))/\(∀a,(l a).cell? ⟨a.heap.size,1,Z⟩=A (aa ac aX))/\(∀a,(l a).cell? ⟨a.heap.size,2,Z⟩=A (aa ac a0))/\(∀a,(l a).cell? ⟨a.heap.size,3,Z⟩=A (aa ac a2))/\(∀a,(l a).cell? ⟨a.heap.size,4,Z⟩=A (aa ac a4)):=⟨λa=>a.alloc (az #[aW,aX,a0,a2,a4] 298),λ_=>rfl,λa=>aN _ _,λa=>D,λa=>aE,λa=>aE,λa=>aE,λa=>aE,λa=>aE⟩
  have dV:=Q (xx f ⟨aW,aX,a0,a2,a4⟩);have dW:=Q (λ(a:W) (ax:B n n a)=>dF a (S i j k) f ⟨aW,aX,a0,a2,a4⟩ (bx.bw ax) (cx.of bq));have bT:=Q (U bm (U aQ (U M (U P (U R (U ad ae))))));have dX:=Q br;have ct:=aR _ _ ay;have bU:=Q hinv;have dY:=Q bq;have d1:=Q bu;have d3:=Q aA;change H _ at cs ct;clear hinv bq bu aA;change H _ at bn;clear bm aQ cl M P R ad ae bx br;obtain⟨cu,aO,cv,cw,cy,cz⟩:=bn n (aS _ _);go_upto_region 10 with fail;go_wp2_with fail;refine mU dp λo bl=>?_;clear cu aO cv cw cy cz;have dq:=Q (bT.oo.1 o);have p:=q bl (bT.2.1 o);obtain⟨M,P,R,ad,ae⟩:=bT.2.2;have M:=M o;have P:=P o;have R:=R o;have ad:=ad o;have ae:=ae o;obtain⟨bo,ds⟩:=K (l o);rw[<-ds]at dq p M P R ad ae;have ay:=s p ay;have x:=aY p ct x;have aT:=aY p (aR _ _ y) aT;have y:=s p y;have d4:=Q (dX.oo.bw p);change H _ at p;clear ds bl bT;go_upto_region 11 with fail;rw[dq];by_cases a5:cr<0
  ·have d5:decide (cr<0)=T:=by simpa using a5
   rw[am a5]at bU;obtain⟨cu,aO,cv,cw,cy,cz⟩:=bn bo p;have d6:=Q (dW.oo bo p);clear y aT a5;go_wp2_with fail;refine mF d6 λdt bz bA bB ⟨du,bV⟩=>?_;have bW:d<bo:=aR _ _ ay;have ay:=s bV ay;have x:=aY bV bW x;have dv:(aj dt d (S bz bA bB)).cell? d=A (S bz bA bB):=((d2 ay).set 0 _ D) 0 _ D;have dw:(aj dt d (S bz bA bB)).frozen? d=F:=by rw[bs];exact x
   have t:=du.set ⟨d,0,Z⟩ (S bz bA bB) (G':=λb=>b<=d) bW (λb bL=>Nat.lt_of_le_of_lt bL bW);have ag:=d3.trans ((q p bV).mono (iv ct))|>.setCell (p:=⟨d,0,Z⟩) (aL _) (S bz bA bB);change H _ at dv dw t ag;clear cu aO cv cw cy cz M P R ad ae du bV bW;go_wp2;go_roundw;case rel=>exact⟨g+1,_,kR f ⟨aW,aX,a0,a2,a4⟩,aK,O,bU,a1 dV dY,dv,dw,t,ag⟩
   simp only[aw];first|exact dZ cq.1|exact ea cq.1 (Y cq.oo)
  have d5:decide (cr<0)=F:=X a5
  rw[ak a5]at bU;clear a5 M P R ad ae;have t:=d4.set ⟨r,0,Z⟩ (S i j k) (G':=λb=>b<(c:N)) qn (λb bL=>Y IU.oo);have ag:=(q d1 p).setCell (p:=⟨r,0,Z⟩) qn (S i j k);rw[bU]at t;change H _ at t ag;go_wp2_with fail;have cA:(aj bo r (S i j k)).cell? r=A (S i j k):=((d2 y).set 0 _ D) 0 _ D;exact b0 (v:=aZ #[ao #[S i j k],(g:I)]) (by simp[results,results199,go_sem,cA]) J ⟨_,_,_,_,J,t,ag⟩
 have dU:decide ((g:I)<h)=F:=aF
 have bP:h.toNat-g=0:=O
 rw[bP,dr]at hinv;have t:=br.set ⟨r,0,Z⟩ (S i j k) (G':=λb=>b<(c:N)) qn (λb bL=>Y IU.oo);have ag:=bu.setCell (p:=⟨r,0,none⟩) qn (.slice i j k);rw[hinv]at t;have dz:(aj n r (S i j k)).cell? r=A (S i j k):=((d2 y).set 0 _ D) 0 _ D;change H _ at t ag dz;clear hinv br bx bu aA bq bP;go_wp2_with fail;have cA:=dz.oo;exact b0 (v:=aZ #[ao #[S i j k],(max h 0:I)]) (by simp[results,results199,go_sem,cA]) J ⟨_,_,_,_,J,t,ag⟩
section
attribute [local go_sem] Oper.semAt_some
def iC(a:I×a4):Array V:=#[ao #[a.1,a.2.1,a.2.2]]
def yh(a:W)(e:N)(f:V)(g f1 h i j k:V)(l:bp)(b:W):Prop:=∃c d,l=aq (.func (.func e) #[] #[aM (A ⟨c,0,Z⟩),aM (A ⟨d,0,Z⟩)])/\C b ⟨c,0,Z⟩=A f/\ci b d g f1 h i j k/\a<=c/\a<=d/\B a a b
def N0(g h i j:I)(k l n:V)(a:W)(M:∃c d e,k=S c d e)(P:∃c d e,l=S c d e)(Q:∃c d e,n=S c d e):ap ab 269 #[ao #[g,h,i,j,k,l],n] a (yh a 283 n g h i j k l):=by
 obtain⟨s,t,u,rfl⟩:=M;obtain⟨v,w,x,rfl⟩:=P;obtain⟨o,p,r,rfl⟩:=Q;have⟨f,y,R,U,X⟩:=bR a g h i j (S s t u) (S v w x);obtain⟨b,z,G,Y,K⟩:∃b,f.alloc (az #[S o p r] 96)=b/\B f.heap.size f b/\b.heap.size=f.heap.size+1/\C b ⟨f.heap.size,0,Z⟩=A (S o p r):=⟨_,J,aN _ _,D,aE⟩
 rw[U]at K;have m:yh a 283 (S o p r) g h i j (S s t u) (S v w x) (aq (.func (.func 283) #[] #[aM (A ⟨a.heap.size+1,0,Z⟩),aM (A ⟨a.heap.size,0,Z⟩)])) b:=⟨_,_,J,K,X.bw G,O,aL _,q R G⟩
 change H _ at y z m;go_in;go_upto_region 1 with fail;rw[y,z];exact mW
def dN.lift{d:Type}{f:cb}{g:d->Array V}{h:aD}{i:E d->aD->W->Prop}{j:E d}(e:dN f a g b h i j)(n:b<=c):dN f a g c h i j:=⟨λp q r s t u=>e.h3 p q r s t (u.mono λv _ k=>⟨a1 n k.1,k.2⟩),e.own,e.rf⟩
def N1:(ab.info? 387).map (λa=>(a.zero,a.size,a.bytes))=A (A (S Z 0 0),1,24):=aT
def N2(a:W)(b:N)(s:b<=1000000000):∃c,(Instr.makeSlice 385 (b:I) (b:I)).run ab a= .ok (S (A (a:N)) b b) c/\jf a b (λg=>g<(a:N)) c (List.replicate b [])/\B a a c:=by
 have⟨i,d,j,k,IC⟩:=ew N1;have⟨c,l,o,m⟩:=run_make_full (P:=ab) a a 385 387 i (S Z 0 0) 1 underlying385 d j k ac ac b jJ eQ (aL _);refine⟨c,l,?_,(aS a a).grown m (aL _) D⟩;rw[Nat.mul_one]at o;have p:(a:N)<c.heap.size:=by rcases o.2 with⟨h,_⟩|⟨H9,H',Jw,D7,_,n,_⟩;cases h;cases D7;exact(bM.1 n).1
 refine⟨D,λe d=>?_,λe d=>?_,p⟩;have q:(madeCells (S Z 0 0).cells b).toList[e]? =A (S Z 0 0):=by rw[show(S Z 0 0).cells= #[S Z 0 0]from J,toList_madeCells_one];simp[d]
 have⟨H9,f,r⟩:=hb o e _ q;simp only[af,a2]at f;subst f;refine⟨_,r,?_⟩;have:cE (List.replicate b []) e=[]:=by simp[cE,List.getD,d]
 rw[this];exact NN;exact wu
def fF(c:ai)(a:ad)(d:N):E Rw:=(List.range (L a)).map λb=>if b<d then fZ c a (ae a b)else[]
def N3(b:ai)(a:ad):fF b a 0=List.replicate (L a) []:=by apply List.ext_getElem (by simp[fF]);intro c d e;simp[fF]
def N4(c:ai)(a:ad)(b:N)(e:b<L a):(fF c a b).set b (fZ c a (ae a b))=fF c a (b+1):=by
 apply List.ext_getElem (by simp[fF]);intro f g h;simp only[fF,List.getElem_set,List.getElem_map,List.getElem_range];split;·next d=>subst d;rw[am O]
 next d=>split<;>split<;>first|rfl|omega
def N5(c:ai)(a:ad):fF c a (L a)=c4 c a:=by apply List.ext_getElem (by simp[fF,c4]);intro d b e;simp only[fF,de,List.length_range]at b;simp[fF,c4,b,e9 b]
def N6(c:ai)(a:ad)(b:N)(d:b<L a):cE (c4 c a) b=fZ c a (ae a b):=by simp[cE,c4,ae,d]
def yi(b:N)(a:Rw)(c:ag)(d:0<L a):i0 b a c=ja c ((b:I),jd (co a 0).2.2):=by unfold i0;rw[ak];intro e;rw[e]at d;simp at d
def N7(b:E Rw)(a:N):(fg b a).length<=a:=by
 induction a with
  |zero=>simp[fg]
  |succ a c=>unfold fg i0;split;omega;rw[x8];omega
end
def N8{m:Array bd}{n:E bd}{i:bd}{j:a'}{o:bJ}(t:i.guard=Z)(k l:Operand)(u:i.op= .call {callee:=.builtin .append,args:=#[k,l],argTypes:=#[22,22]})(a:W)(c:N)(d:V)(b:ad)(g:I)(v:j.eval k=d)(w:j.eval l=S (A (a:N)) 1 1)(p:ay a c d b)(x:L b+1<=1000000000000)(y:c<=(a:N))(z:∀f q e,ay e c (S (A ⟨f,0,Z⟩) (L b+1) q) (b++[g])->a.grownBy e (af d)->B c a e->(af d=A f\/a<=f)->wpList ab m o n (j.put i.dst (S (A ⟨f,0,Z⟩) (L b+1) q)) e):wpList ab m o (i::n) j (a.alloc (az #[g] 3)):=by have D:(a.alloc (az #[g] 3)).ownsRow c 3 1 d (L b) (b.map (aa ac)):=World.ownsRow.alloc p _;refine fr t k l 22 3 _ 1 8 underlying22 hR J av av u _ c d (L b) (b.map (aa ac)) [g] a v w (ax.new a [g] _) J (by intro R r;simp at r;rcases r with rfl;rfl) D x aF ?_;intro f G e H K U h X Y;have s:a.grownBy e (af d):=c2 (World.grownBy_alloc a _ _) K;refine z f G e (by simpa[ay]using H) s ((aS c a).grown s y (λM O=>(p.lt M O).1)) ?_;rcases h with h|h;exact .inl h;exact .inr (by rw[h];simp)
def N9(a:W)(d:b7)(e:bp)(b:W):Prop:=∃c,e=aq c/\dz 350 b a c d/\B a a b
def N'(aP aQ aT aU:I)(av ax bl:V)(d:ai)(c:ad)(b:I)(p:W)(bm:∃b i bn,av=S b i bn)(aV:bt p ax d)(bo:aX p bl c)(bZ:L c<=1000000):ap ab 285 #[ao #[aP,aQ,aT,aU,av,ax],bl,(b:I)] p (N9 p (fZ d c b)):=by
 have⟨r,bq,ah,b0,x⟩:=bR p aP aQ aT aU av ax;have b2:=Q (λb3 aW b4=>Me aP aQ aT aU av ax d b aW b3 bm ((aV.bw ah).bw b4));have br:=bo.bw ah;obtain⟨cI,cJ,cK,rfl⟩:=bm;obtain⟨cL,cM,cN,rfl,_,_,_⟩:=aV.open;obtain⟨cO,i,bn,rfl,aY,_,bs⟩:=br.open;have bu:p.heap.size<=r.heap.size:=ah.size;have b5:p.heap.size<r.heap.size:=O
 have a0:H (je d c b (ds d c b (L c)).length=fZ d c b):=Q (Nd d c b);have a4:=Q (λe=>Nf d c b e);have b6:=Q (λe=>Ng d c b e);have b7:=Q (λa (k:a<i)=>x1 d c b a O);have b8:=Q (λa (k:a<i)=>x2 d c b a O);have b9:=Q (λa (k:a<i)=>Nc d c b a O);have b':=Q (λa (k:a<i)=>Nb d c b a O);have aA:H (∀a,(ds d c b a).length<=i/\(eg d c b a).length=(ds d c b a).length):=Q (λa=>⟨aY▸x3 d c b a,nb d c b a⟩);have cP:i<=1000000:=O
 rw[aY]at a0 a4;have ca:=Q ah;change H _ at bq bs aY;clear ah;clear aV bo br b0 bZ;go_in;go_upto_region 1 with fail;rw[bq];generalize bv:p.heap.size=cQ at*;change H _ at bv;go_wp2;go_loopw [17,7,8] (λj cc cd wr=>∃(a:N) (P n:V),j=(a:I)/\P=cc/\n=cd/\a<=i/\dz 350 wr r.heap.size P (ds d c b a)/\ay wr r.heap.size n (eg d c b a)/\(∀h,af P=A h->af n≠A h)/\B r.heap.size r wr) (λj _ _ _=>i-(aw j).toNat);exact⟨0,_,_,J,J,J,a3 _,dz.nil _ _ _,ay.nil _ _,λh k=>(by cases k),aS _ _⟩;obtain⟨a,P,n,rfl,rfl,rfl,cR,y,z,ak,f⟩:=hrel;obtain⟨bx,rfl⟩:=K wr;by_cases Ch:a<i
 ·obtain⟨aW,ce,rfl,m⟩:=bs a Ch;have m:=bk f (aR _ _ m) m;have cS:=aJ a;have cT:(a:I)<(i:I):=by omega
  have⟨cf,cg,ch,bz,bA,ci⟩:=x.lower f b5;have⟨D,s⟩:=K (ae c a);rw[<-s]at m;by_cases t:D=b
  ·have cj:(D !=b)=F:=by simpa using t
   have bB:=b7 a Ch (s▸t);have bC:=b9 a Ch (s▸t);rw[<-bB]at y;rw[<-bC]at z;have R:=Q y;have aC:=Q z;have aD:=Q ak;have l:=Q f;clear y z ak f;clear bB bC t s;go_wp2;go_roundw;case rel=>exact⟨a+1,_,_,aK,J,J,O,R,aC,aD,l⟩
   exact bY
  have cj:(D !=b)=T:=X t
  have aE:=b8 a Ch (λg=>t (by rw[s,g]));have aF:=b' a Ch (λg=>t (by rw[s,g]));rw[<-s]at aE aF;have bD:=Q (b2.oo bx D f);have⟨al,bE⟩:=K (pm d b D);rw[<-bE]at bD aE aF;have cU:(ds d c b a).length<=i/\(eg d c b a).length=(ds d c b a).length:=aA a;have cV:H (jd al=aB (-al)):=Q J;have R:=Q y;have aC:=Q z;have aD:=Q ak;have l:=Q f;change H _ at aE aF;clear y z ak f;clear t s bE;go_wp2_with fail;refine mU bD λo u=>?_;have⟨aG,bF,bG,ck,G,M,v⟩:=tM o b D al;have aI:=q u bG;have bH:=R.bw aI;have a5:=aC.bw aI;have a6:=l.trans (aI.mono l.size);have cl:∀h,af P=A h->h≠o.heap.size:=λh x g=>bi ((R.lt h x).2) u.size
  have cW:∀h,af n=A h->h≠o.heap.size:=λh x g=>bi ((aC.lt h x).2) u.size
  have a8:=a6.size;have cm:o.heap.size<aG.heap.size:=O
  have cn:=Q a6;change H _ at bF cm;clear a6;clear u bG aI ck m cf cg ch bz bA ci;go_upto_region 8 with fail;rw[bF];go_wp2_with (at_builtin;refine x0 J _ _ J aG r.heap.size P (ds d c b a) b D al J J bH O a8 ?_);intro U g2 bI a9 am an aL;have v:=am.cell v (by intro g;exact cl _ g.symm J);have cp:=a5.kept am (by
   cases cq:af n with
    |none=>exact .inl J
    |some h=>exact .inr (λg=>aD h g.symm cq))
  have ba:=cn.trans an;have cr:=ba.size;have cX:=(a9.lt U J).2;have bb:af n≠A U:=λg=>by rcases aL with k|k;exact aD U k g;have:=(a5.lt U g).2;omega
  have cs:=Q a9;have ct:=Q ba;change H _ at bb;clear a9 ba;clear G M am an aL bH a5;go_wp2_with (at_builtin;refine N8 J _ _ J bI r.heap.size n (eg d c b a) (jd al) J J cp O cr ?_);intro g3 bz cY bc cu cv cw;have be:=cs.kept cu (.inr (λg=>bb g.symm));have bJ:=ct.trans cv;have cx:g3≠U:=λg=>by rcases cw with k|k;exact bb (g▸k);omega
  rw[<-aE]at be;rw[<-aF]at bc;change H _ at be bc bJ;go_wp2;go_roundw;case rel=>exact⟨a+1,_,_,aK,J,J,O,be,bc,λh x g=>cx (by simp only[af,a2]at x g;omega),bJ⟩
  exact bY
 have cy:a=i:=O
 subst cy;have bK:=Q (M7 n (eg d c b a) bx z.ints (Y (aA a)));have cz:=bK;have⟨w,ar⟩:=K ((ds d c b a).length);have cZ:w<=a:=by rw[ar];exact(aA a).1
 have bL:(hk (eg d c b a)).length=w:=by rw[tL,(aA a).2,ar]
 rw[<-ar]at a0 a4;have R:=Q y;have l:=Q f;change H _ at ar;clear y f;clear z ak bK;go_wp2_with fail;refine mE cz λo c0 ⟨bM,u⟩=>?_;obtain⟨c1,c2,c3,rfl,bN,_,bO⟩:=bM.ints.open;rw[bL]at bN;subst bN;have bP:=(R.bw u).BC;obtain⟨c4,c5,c6,rfl,bS,_,_,bT⟩:=bP.open;rw[<-ar]at bS;subst bS;have bf:=l.trans (u.mono l.size);have bU:=bf.size;have cA:=Q bf;change H _ at bO bT bL;clear bf;clear bM u bP;go_wp2;go_loopw [45,12] (λj cB wr=>∃(e:N) (aN:V),j=(e:I)/\aN=cB/\e<=w/\dz 350 wr o.heap.size aN (je d c b e)/\B o.heap.size o wr) (λj _ _=>w-(aw j).toNat);exact⟨0,_,J,J,a3 _,dz.nil _ _ _,aS _ _⟩;obtain⟨e,aN,rfl,rfl,c7,aO,f⟩:=hrel;obtain⟨aG,rfl⟩:=K wr;by_cases ag:e<w
 ·have⟨j,bV,cC,bg⟩:=a4 e ag;obtain⟨aW,ce,rfl,m⟩:=bO e ag;rw[bV]at m;obtain⟨c8,c9,rfl,G,M,v⟩:=bT j cC;have m:=bk f (aR _ _ m) m;have G:=bk f (aR _ _ G) G;have M:=bk f (aR _ _ M) M;have v:=bk f (aR _ _ v) v;have c':=aJ e;have da:(e:I)<(w:I):=by omega
  have db:=aJ j;have dc:(j:I)<(w:I):=O
  have⟨⟨cD,cE,cF⟩,bW⟩:=K (co (ds d c b a) j);rw[<-bW]at G M v bg;simp only at G M v;have dd:(je d c b e).length<=e:=b6 e;have a8:=f.size;have cG:=Q bg;have l:=Q f;clear bg f;clear bV bW;go_wp2_with (at_builtin;refine x0 J _ _ J aG o.heap.size aN (je d c b e) cD cE cF J J aO O a8 ?_);intro U bA bI bh am an aL;have bX:=l.trans an;rw[<-cG]at bh;change H _ at bh bX;clear am an aL;go_wp2;go_roundw;case rel=>exact⟨e+1,_,aK,J,O,bh,bX⟩
  simp only[aw];first|exact dZ ag|exact ea ag O
 have ag:e=w:=O
 subst ag;rw[a0]at aO;have cH:=Q aO;have l:=Q f;clear aO f;go_wp2;go_ret;refine⟨_,J,?_,?_⟩<;>rw[bv];exact cH.mono (a1 bu bU);exact ca.trans ((cA.trans (l.mono bU)).mono bu)
section
attribute [local go_sem] Oper.semAt_some
def cG.start{l:Type}{z:cb}{D:l->Array V}{m:E l->aD->W->Prop}{n:W}{G:E l}{H:aD}{o t:aD}{v:I->Option I}(K:dN z a D e H m G)(ag:e<=w)(Q:m [] o w)(p:∀f,o f->f<(w:N))(j:cX w x c t [] u d v)(k:B w w x)(Y:jf x b (λf=>f<(x:N)) n (List.replicate b []))(y:B x x n):cG m w w w c x b [] (List.replicate b []) [] n:=by have s:=q k y;refine⟨⟨o,t,u,d,v,K.h3 _ _ _ _ Q (M.bw s),j.bw y,Y.step (aL _) (λ_ _ _=>rfl) O (λf _ g=>?_),λf g=>⟨λad=>?_,?_⟩,λg=>?_⟩,k.size,s.size,aL _,s⟩;rcases g with g|g;have:=p f g;have:=k.size;omega;exact j.lt f g;have:=p f ad;have:=j.le f g;omega;have:=j.lt f g;omega;have:=p _ g;have:=k.size;omega
def cG.lower{h:Type}{i:E h->aD->W->Prop}{j:E h}{k:E Rw}{l:ag}{wr:W}(f:cG i x x a b c d j k l wr)(s:B e w x)(n:e<=x):cG i e w a b c d j k l wr:=⟨f.ex,f.le,f.lt,a1 n f.hl,s.trans (f.bw.mono n)⟩
def Oa(aU an:N)(b' ca cc cd:I)(cN cO ce:V)(b:ai)(ar:ag)(l bK:W)(cP:∃aN cQ dV,cN=S aN cQ dV)(cR:bt l cO b)(G:ba l ce ar)(dW:L ar<=1000000)(cf:B l l bK)(cS:C bK aU=A ce)(cT:ci bK an b' ca cc cd cN cO):pa ab 283 #[aM (A aU),aM (A an)] (λa=>a<(l:N)\/a=aU\/a=an) iC (f0 b (cF (ar.map (·.1)))) bK:=by
 intro cU bg r dX bL cV ch cW cj;have ck:dN ab cU iC r (λa=>a<(l:N)\/a=aU\/a=an) bg (f0 b (cF (ar.map (·.1)))):=⟨cV,ch,cW⟩
 have bh:B l l r:=cf.trans (bL.mono cf.size);have cX:(l:N)<=r:=bh.size;have cY:=s bL cS;have bM:=cT.bw bL;have eD:aU<r/\an<r:=⟨aR _ _ cY,bM.lt⟩
 have cZ:=Q (o8 ce ar r (G.bw bh) O);have c0:=cR.bw bh;have dY:∀a,dX a->a<(r:N):=λa aO=>(ch _ _ _ cj a aO).1;obtain⟨eE,eF,eG,rfl,_,_,_⟩:=G.open;have c1:(ar.map (·.1)).length<=1000000:=X dW
 have⟨bi,cl⟩:=K (ar.map (·.1));rw[<-cl]at cZ ck c1;have c2:f0 b (cF (ar.map (·.1)))=f0 b (cF bi):=by rw[cl]
 rw[c2];have bl:=Q ck;have c3:=Q c0;have d0:=Q bh;change H _ at cj;clear ck c0 bh;clear cV ch cW G cR cf bL cS cT c2 cl;obtain⟨aV,aW,aX,aY,a0,a4⟩:=bM;obtain⟨c5,c6,c7,rfl,_,_,_⟩:=c3.open;have d1:=Q cP;obtain⟨c8,c9,c',rfl⟩:=cP;go_in;go_wp2_with fail;refine mE cZ λda cm ⟨bO,db⟩=>?_;have d2:=Q (rg cm bi r da bO O);have dc:=bO.lt;obtain⟨d3,g,d4,rfl,_,_,_⟩:=bO.ints.open;have dd:=Q db;change H _ at dc;clear db;clear bO cY;go_wp2_with fail;refine mU d2 λP ⟨cn,de⟩=>?_;have R:B r r P:=dd.trans ((aS _ da).grown de dd.size (λa df=>(dc a df).1));have⟨c,bR⟩:=K (cF bi);have d5:L c<=1000000:=by rw[bR,ol];exact c1
 rw[<-bR]at bl cn;have cp:=cn.ints;have⟨_,eH,_,av,m,_,dg⟩:=cp.open;simp only[bf]at av;obtain⟨rfl,rfl,rfl⟩:=av;have d6:=Q (Np P);have d7:=Q (c3.oo.bw R);have aV:=s R aV;have aW:=s R aW;have aX:=s R aX;have aY:=s R aY;have a0:=s R a0;have a4:=s R a4;have eI:g<=1000000:=O
 have d8:=Q cp;clear cp;have a5:=Q R;change H _ at dg bR;clear R;clear de cn;go_wp2_with fail;refine d6.mono ?_;rintro aO dh ⟨di,dj,d9,d',eb,rfl,ax,dk⟩;have⟨eJ,cq,dl,dm⟩:=N2 dh g O;have bS:=cG.start bl a5.size (bl.h3 _ _ _ _ cj (M.bw a5)) (λa aO=>cg (dY a aO) a5.size) ax dk dl dm;have bm:=Q (bl.oo.lift a5.size);have dp:fF b c 0=List.replicate g []:=by rw[N3,m]
 rw[<-dp]at bS;have cr:ci P an b' ca cc cd (S c8 c9 c') (S c5 c6 c7):=⟨aV,aW,aX,aY,a0,a4⟩
 have ec:an<P:=cr.lt;have⟨t,dq⟩:=K (dh:N);rw[<-dq]at bS cq;have dr:=Q (λed aN ds=>N' b' ca cc cd (S c8 c9 c') (S c5 c6 c7) (S d3 g d4) b c aN ed d1 (d7.bw ds) (d8.bw ds) d5);have ee:=Q cr;change H _ at bS cq m;clear cr;clear ax dk dl dm dp aV aW aX aY a0 a4 dq;go_wp2_with fail;rw[cq];go_wp2_with fail;have dt:H (∀a,a<g->(fF b c a).set a (fZ b c (ae c a))=fF b c (a+1)):=Q (λa G=>N4 b c a (Y m.oo));have du:H (∀a,a<g->cE (c4 b c) a=fZ b c (ae c a)):=Q (λa G=>N6 b c a (Y m.oo));have bU:H (∀a aN,(fZ b c aN).length<=g/\(fg (c4 b c) a).length<=a):=Q (λa aN=>⟨by rw[<-m];exact Nh b c aN,N7 _ _⟩);have dv:H (∀a,a<=g->∀bV∈fg (c4 b c) a,bV.1≠(a:I)):=Q (λa G bV bM=>Y ((j4.start (c4 b c) a (by simp[c4,m.oo];exact G)).2 bV bM));go_loopw [23] (λe wr=>∃a:N,e=(a:I)/\a<=g/\cG bg P P P di t g [] (fF b c a) (fg (c4 b c) a) wr) (λe _=>g-(aw e).toNat);exact⟨0,J,a3 _,bS⟩;obtain⟨a,rfl,df,i⟩:=hrel;obtain⟨dw,rfl⟩:=K wr;by_cases n:a<g
 ·obtain⟨u,v,rfl,bn⟩:=dg a n;have bn:=bk i.bw (aR _ _ bn) bn;have⟨aV,aW,aX,aY,a0,a4⟩:=ee.lower i.bw ec;have⟨cs,ax⟩:=K (ae c a);have bo:=dt a n;have U:=du a n;rw[<-ax]at bn bo U;have dx:=Q (dr.oo dw cs i.bw);have⟨d,w⟩:=K (fZ b c cs);rw[<-w]at dx bo U;have ct:L d<=g:=by rw[w];exact(bU 0 cs).1
  have bW:fg (c4 b c) (a+1)=i0 a d (fg (c4 b c) a):=by rw[fg,U]
  have a6:=dv a O;have bq:=(bU a 0).2;have⟨bX,dy⟩:=K (fg (c4 b c) a);rw[<-dy]at i bW a6 bq;have ef:=aJ a;have eg:(a:I)<g:=O
  have dz:=Q i;change H _ at bo bW a6;clear U ax w dy i;go_wp2_with fail;refine mE dx λbr cm ⟨bs,cu⟩=>?_;obtain⟨bu,ad,bY,rfl,cv,_,_,_⟩:=bs.BC.open;have⟨eK,dA,_,cw⟩:=(dz.next bm cu).at_ n;have bv:=dz.Wl bm cu n bs;rw[bo]at bv;have⟨bx,bz⟩:=K (aj br ⟨t,a,Z⟩ (S bu ad bY));have u7:C bx ⟨t,a,Z⟩=A (S bu ad bY):=by rw[bz];exact bP _ _ _ (by rw[dA];rfl)
  have cx:eY bx (S bu ad bY) d:=by
   have⟨eL,cy,cz,_⟩:=bv.at_ n;rw[<-bz]at cy cz;rw[u7]at cy;cases cy;have aO:cE (fF b c (a+1)) a=d:=by rw[<-bo,oj _ _ _ _ (by simp[fF,m.oo];exact n),am J]
   rw[aO]at cz;exact cz
  rw[<-bz]at bv;change H _ at bz;have dB:=Q bv;clear bv;clear bs cu bn aV aW aX aY a0 a4;go_upto_region 8 with fail;try rw[<-bz]
  clear dA cw;by_cases bA:0<ad
  ·obtain⟨eh,ei,rfl,o,p,j⟩:=(by have⟨bZ,ej,ek,av,el,_,_,cA⟩:=cx.open;simp only[bf]at av;obtain⟨rfl,rfl,rfl⟩:=av;exact cA 0 bA:∃u v,bu=A ⟨u,v,Z⟩/\C bx ⟨u,v+0*3,Z⟩=A (aa ac (co d 0).1)/\C bx ⟨u,v+0*3+1,Z⟩=A (aa ac (co d 0).2.1)/\C bx ⟨u,v+0*3+2,Z⟩=A (aa ac (co d 0).2.2))
   simp only[Nat.zero_mul,eX]at o p j;have q:=yi a d bX O;have a8:=Q (dB.oo.BE bm (a:I) (jd (co d 0).2.2) a6 O);rw[<-q,<-bW]at a8;have⟨a9,bB⟩:=K ((co d 0).2.2);rw[<-bB]at a8 j;have em:(0:I)<ad:=O
   have en:H (jd a9=aB (-a9)):=Q J;clear q cx bB o p;go_wp2_with fail;refine mU a8 λbC bb=>?_;change H _ at bb;clear u7 j;go_wp2;go_roundw;case rel=>exact⟨a+1,aK,O,bb⟩
   simp only[aw];first|exact dZ n|exact ea n O
  have bA:ad=0:=O
  subst bA;have eo:d=[]:=dn.1 cv;have bb:=dB.oo;have q:fg (c4 b c) (a+1)=bX:=by rw[bW,eo];rfl
  rw[<-q]at bb;change H _ at bb;clear q cx;go_wp2;go_roundw;case rel=>exact⟨a+1,aK,O,bb⟩
  simp only[aw];first|exact dZ n|exact ea n O
 have ep:a=g:=O
 subst ep;have bD:=i.lower (d0.trans (a5.mono cX)) (a1 cX a5.size);have dC:fF b c a=c4 b c:=by rw[<-m];exact N5 b c
 rw[dC]at bD;have b2:=(j4.start (c4 b c) a (by simp[c4,m.oo])).1;have ct:(c4 b c).length=a:=by simp[c4,m.oo]
 have bE:f0 b c=[]++j3 (l3 (c4 b c)) (c4 b c) (fg (c4 b c) a):=by rw[List.nil_append,f0,m]
 have bq:=(bU a 0).2;have⟨cB,b3⟩:=K (f0 b c);have ay:H (dN ab cU iC P (λa=>a<(l:N)\/a=aU\/a=an) bg cB):=Q (by rw[b3];exact bm);rw[<-b3]at bE;have eq:H (cB=f0 b (cF bi)):=Q (by rw[b3,bR]);generalize c4 b c=cC at bD b2 ct bE bq;generalize fg cC a=bX at bD b2 bE bq;change H _ at bD b2 bE;clear i dC b3 dr dt du bU dv bm bl;go_wp2_with fail;go_loopg [] (l3 cC) (λaA wr=>∃bc k f,cG bg l l P di t a bc k f wr/\j4 k f/\L k=a/\l3 k=aA/\cB=bc++j3 aA k f/\L f<=a);case atStart=>exact⟨[],cC,bX,bD,b2,ct,J,bE,bq⟩
 obtain⟨bc,k,f,i,b4,bF,aC,aE,er⟩:=hrel;obtain⟨dw,rfl⟩:=K wr;by_cases bG:f=[]
 ·have b5:=Q (i.Wn ay bG);rw[bG,NA,e']at aE;have x:=Q aE;clear aE;clear i b4 aC er bG;go_wp2_with fail;refine mU b5 λbr aP=>?_;have dD:∃aF,bg (f0 b (cF bi)) aF br:=by have⟨aF,_,_,_,_,bH,_⟩:=aP.ex;exact⟨aF,by rw[<-eq,x];exact bH⟩
  change H _ at dD;clear aP;go_wp2_with fail;(try rw[Exit.noGoto_ret]);(try simp only[Exit.inBlock,Exit.then]);refine b0 (results_none J _ _ _) J ?_;exact⟨⟨_,J⟩,dD⟩
 have cD:0<L f:=by cases f with|nil=>exact absurd J bG|cons=>simp
 have⟨e,y,b6,cH⟩:=b4.row _ (kG cD);have dE:=Ny k e y cH;cases gk with
  |zero=>omega
  |succ aA=>
 have es:=b4.step y b6;rw[NB aA k f e cD b6]at aE;have b5:=Q (i.Wm ay cD O);rw[b6]at b5;rw[bF]at y;have dF:(dK f).length<=a:=by rw[x7];omega
 obtain⟨ah,a6⟩:=es;have⟨bI,cI⟩:=K (co (cE k e) 0);rw[<-cI]at aE;have et:0<(cE k e).length:=by cases q:cE k e with|nil=>exact absurd q cH|cons=>simp
 have⟨d,w⟩:=K (cE k e);rw[<-w]at ah aE dE cI et;have ef:=aJ e;have eg:(e:I)<a:=O
 have cJ:l3 (k.set e d.tail)=aA:=O
 have x:=Q aE;change H _ at ah a6;clear aE;clear i b4 bG b6 cH dE aC;go_wp2_with fail;refine mU b5 λbr aP=>?_;have⟨cm,bs,cK,cw⟩:=aP.at_ y;rw[<-w]at cK;obtain⟨bu,ad,bY,rfl,cv,eu,ev,dG⟩:=cK.open;have bA:0<ad:=O
 obtain⟨eh,ei,rfl,o,p,j⟩:=dG 0 bA;simp only[Nat.zero_mul,eX]at o p j;rw[<-cI]at o p j;have em:(0:I)<ad:=O
 have⟨dj,eM,d9,d',eb,bH,ax,dH,dI,dJ⟩:=aP.ex;have be:=ay.rf _ _ dj br bH ⟨_,x.oo⟩;have ew:=Q (λ(aF:aD) (ey:W) b7 U b8=>aP.adG (KB:=bI) (Ja:=aF) (ZO:=ey) ay (λa G=>.inl G) bH ax dH dI dJ b7 U b8);obtain⟨eO,eP,eQ,eR,be,dL⟩:=be;have ez:=Q dL;simp only[iC]at be;have⟨⟨eS,eT,eU⟩,eA⟩:=K bI;rw[<-eA]at o p j be;simp only at o p j be;clear aP cK dG bH ax dH dI dJ dL;go_upto_region 12 with fail;refine wpIn_wide (n:=0).1 ?_;gi_wp2;refine⟨J,ez.mono ?_⟩;rintro aO bC ⟨rfl,aF,b7,U,b8⟩;have aQ:=ew aF bC b7 U b8;have⟨eV,ak,cL,cM⟩:=aQ.at_ y;rw[<-w]at cL;obtain⟨eW,b9,dM,rfl,eB,eZ,e0,dO⟩:=cL.open;obtain⟨z,D,rfl,_⟩:=dO 0 O;have e1:0<b9:=O
 have dP:(1:I)<=b9:=O
 clear be b7 U b8 bs cw o p j cv eu ev dO cL;gi_wp2;obtain⟨aG,rfl⟩:∃aG,b9=aG+1:=⟨b9-1,O⟩
 obtain⟨aT,rfl⟩:∃aT,dM=aT+1:=⟨dM-1,O⟩
 have dQ:d.tail.length=aG:=by rw[List.length_tail,eB];rfl
 by_cases hp:aT=0
 ·subst hp;have q:aG=0:=by omega
  subst q;have al:=aQ.vl (Jr:=A ⟨z,D,Z⟩) ay y ak O (.inl J);rw[<-w]at al;have⟨aI,h⟩:=K (aj bC ⟨t,e,Z⟩ (S (A ⟨z,D,Z⟩) 0 0));have u9:C aI ⟨t,e,Z⟩=A (S (A ⟨z,D,Z⟩) 0 0):=by rw[h];exact bP _ _ _ (by rw[ak];rfl)
  rw[<-h]at al;have aC:d.tail=[]:=dn.1 dQ;have aL:i0 e d.tail (dK f)=dK f:=by rw[aC];rfl
  rw[aL]at ah x;change H _ at h al;clear aQ aL aC;go_upto_region 14 with fail;try rw[<-h]
  clear ak cM;go_wp2_with fail;go_roundg aA;case measure=>omega
  exact⟨bc++[bI],_,_,al,ah,by simp[bF],cJ,by rw[x];simp,dF⟩
 by_cases q:aG=0
 ·subst q;have al:=aQ.vl (Jr:=A ⟨z,D+3,Z⟩) ay y ak O (.inr J);rw[<-w]at al;have⟨aI,h⟩:=K (aj bC ⟨t,e,Z⟩ (S (A ⟨z,D+3,Z⟩) 0 aT));have u9:C aI ⟨t,e,Z⟩=A (S (A ⟨z,D+3,Z⟩) 0 aT):=by rw[h];exact bP _ _ _ (by rw[ak];rfl)
  rw[<-h]at al;have aC:d.tail=[]:=dn.1 dQ;have aL:i0 e d.tail (dK f)=dK f:=by rw[aC];rfl
  rw[aL]at ah x;change H _ at h al;clear aQ aL aC;go_upto_region 14 with fail;try rw[<-h]
  clear ak cM;go_wp2_with fail;go_roundg aA;case measure=>omega
  exact⟨bc++[bI],_,_,al,ah,by simp[bF],cJ,by rw[x];simp,dF⟩
 have bJ:=aQ.vl (Jr:=A ⟨z,D+3,Z⟩) ay y ak O (.inr J);rw[<-w]at bJ;have⟨aI,h⟩:=K (aj bC ⟨t,e,Z⟩ (S (A ⟨z,D+3,Z⟩) aG aT));have u9:C aI ⟨t,e,Z⟩=A (S (A ⟨z,D+3,Z⟩) aG aT):=by rw[h];exact bP _ _ _ (by rw[ak];rfl)
 rw[<-h]at bJ;have dP:0<d.tail.length:=O
 have aL:=yi e d.tail (dK f) dP;have a8:=Q (bJ.BE ay (e:I) (jd (co d.tail 0).2.2) a6 O);rw[aL]at ah x;have⟨e2,e3,dR,o,p,j⟩:=(by have⟨e4,dS,dT,_⟩:=bJ.at_ y;rw[u9]at dS;cases dS;rw[oj _ _ _ _ (by rw[bF];exact y),am J]at dT;have⟨bZ,ej,ek,av,el,_,_,cA⟩:=dT.open;simp only[bf]at av;obtain⟨rfl,rfl,rfl⟩:=av;exact cA 0 O:∃u v,A (⟨z,D+3,Z⟩:bQ)=A ⟨u,v,Z⟩/\C aI ⟨u,v+0*3,Z⟩=A (aa ac (co d.tail 0).1)/\C aI ⟨u,v+0*3+1,Z⟩=A (aa ac (co d.tail 0).2.1)/\C aI ⟨u,v+0*3+2,Z⟩=A (aa ac (co d.tail 0).2.2))
 simp only[a2,bN,bT]at dR;obtain⟨rfl,rfl⟩:=dR;simp only[Nat.zero_mul,eX]at o p j;have⟨a9,bB⟩:=K ((co d.tail 0).2.2);rw[<-bB]at a8 j ah x;have e5:(0:I)<aG:=O
 have en:H (jd a9=aB (-a9)):=Q J;have eC:(ja (dK f) ((e:I),jd a9)).length<=a:=by rw[x8,x7];omega
 change H _ at h;clear aQ aL bB o p bJ;go_upto_region 14 with fail;try rw[<-h]
 clear ak cM;go_wp2_with fail;refine mU a8 λe6 dU=>?_;change H _ at dU;clear u9 j;go_wp2_with fail;go_roundg aA;case measure=>omega
 exact⟨bc++[bI],_,_,dU,ah,by simp[bF],cJ,by rw[x];simp,eC⟩
end
def ri(a:W)(u0 u1 u2 u3 u4 u5 u6:V):∃b,a.alloc (az #[u0,u1,u2,u3,u4,u5,u6] 221)=b/\B a a b/\b.heap.size=(a:N)+1/\C b a=A u0/\C b ⟨a,1,Z⟩=A u1/\C b ⟨a,2,Z⟩=A u2/\C b ⟨a,3,Z⟩=A u3/\C b ⟨a,4,Z⟩=A u4/\C b ⟨a,5,Z⟩=A u5/\C b ⟨a,6,Z⟩=A u6:=⟨_,J,aN _ _,D,aE,aE,aE,aE,aE,aE,aE⟩
def hm(b:N)(a:a4):Bool:= !(decide (a.1<0)||decide ((b:I)<=a.1))&& !(decide (a.2<1)||decide (2147483648<a.2))
def h6(b:N)(a:ag):Bool:=a.all (hm b)&&decide (0<L a)
def Ob(c:N)(a:ag)(b:N)(d:b<L a):(a.take (b+1)).all (hm c)=((a.take b).all (hm c)&&hm c (al a b)):=by rw[iq a b d,List.all_append];simp
def rj{b:ag}{k:N}(d:(b.take k).all (hm a)=F):h6 a b=F:=by unfold h6;rw[show b.all (hm a)=F from ?_];rfl;rw[<-g' k b,List.all_append,d];rfl
def Oc(x y z D:I)(G:bz)(b M:N)(P l:V)(c:ag)(h:W)(aA:∃R f U,P=S R f U)(X:ba h l c)(aW:b<=1000000)(aC:L c<=1000000000000):ap ab 174 #[ao #[x,y,z,D,S G b M,P,l]] h (ir h (h6 b c)):=by
 obtain⟨aD,aE,aF,rfl⟩:=aA;have⟨m,Y,i,aG,aI,aN,aO,aP,ad,aQ,ae⟩:=ri h x y z D (S G b M) (S aD aE aF) l;obtain⟨R,f,U,rfl,Da,_,ah⟩:=(X.bw i).open;have aX:f<=1000000000000:=O
 have ai:(h:N)<=m:=i.size;change H _ at Y Da ah;clear aG X aC aI aN aO aP aQ;go_in;go_upto_region 1 with(fail)
 rw[Y];go_wp2_with fail;change H _ at ad ae;go_loopw [4,9] (λaR n wr=>∃(a:N) (ak:V),ak=aR/\n=a/\a<=f/\(c.take a).all (hm b)=T/\B m m wr) (λ_ n _=>f-(aw n).toNat);exact⟨0,_,J,J,a3 _,J,aS _ _⟩;obtain⟨a,ak,rfl,rfl,aY,o,d⟩:=hrel;obtain⟨am,rfl⟩:=K wr;change H _ at o;have an:=s d ad;have ar:=s d ae;by_cases Ch:a<f
 ·obtain⟨a0,a1,rfl,p,f1⟩:=ah a Ch;have p:=s d p;have f1:=s d f1;have g:=Q (Ob b c a c1);have a2:=aJ a;have a4:(a:I)<f:=by omega
  generalize al c a=aT at*;obtain⟨q,r⟩:=aT;have⟨a5,av,j,aU,a6,a8⟩:=eU am q r;have ax:=Q (d.trans (j.mono d.size));have k:=Q (i.trans (ax.mono ai));have an:=s j an;have ar:=s j ar;change H _ at av;clear d j aU;go_upto_region 4 with fail;rw[av];generalize am=a9 at*;clear p f1;rcases df (decide (q<0))with t|t;·have e:H (h6 b c=F):=Q (rj (k:=a+1) (by rw[g];simp[hm,t]));go_wp2;go_ret;rw[e];exact⟨J,k⟩
  rcases df (decide ((b:I)<=q))with u|u;·have e:H (h6 b c=F):=Q (rj (k:=a+1) (by rw[g];simp[hm,u]));go_wp2;go_ret;rw[e];exact⟨J,k⟩
  rcases df (decide (r<1))with v|v;·have e:H (h6 b c=F):=Q (rj (k:=a+1) (by rw[g];simp[hm,v]));go_wp2;go_ret;rw[e];exact⟨J,k⟩
  rcases df (decide (2147483648<r))with w|w;·have e:H (h6 b c=F):=Q (rj (k:=a+1) (by rw[g];simp[hm,w]));go_wp2;go_ret;rw[e];exact⟨J,k⟩
  have e:H ((c.take (a+1)).all (hm b)=T):=Q (by rw[g,o];simp only[hm,t,u,v,w];rfl);clear g;go_wp2;go_roundw;case rel=>exact⟨a+1,_,J,aK,kL Ch,e,ax⟩
  exact bY
 have aV:a=f:=O
 subst aV;have B6:H (h6 b c=decide (0<a)):=Q (by have ay:=o.oo;rw[cm ly]at ay;unfold h6;rw[ay,Da,Bool.true_and]);have HZ:=i.trans (d.mono ai);clear d;exact qA
def Od(k l m n:I)(o p c:V)(a:ag)(b:W)(v:∃d e f,o=S d e f)(w:∃d e f,p=S d e f)(q:ba b c a)(r:L a<=1000000000000):ap ab 175 #[ao #[k,l,m,n,o,p,c]] b (ir b (kU (a.map (·.1)))):=by
 obtain⟨x,y,z,rfl⟩:=v;obtain⟨D,G,K,rfl⟩:=w;have⟨g,s,h,M,ak,al,am,an,ar,av,ax⟩:=ri b k l m n (S x y z) (S D G K) c;have i:=q.bw h;have O:=Q (o8 c a g i r);obtain⟨d,e,f,rfl,P,_,R⟩:=i.open;have U:(b:N)<=g:=h.size;have X:H ((a.map (·.1)).length<=4000000000000):=Q qp;change H _ at s;clear M q i P R r;go_in;go_upto_region 1 with(fail)
 rw[s];go_wp2_with fail;refine mE O λY ad ⟨t,j⟩=>?_;have ae:=Q (yb ad _ g Y t X j.size);have ah:=Q j;clear t j;go_wp2_with fail;refine mU ae λay u=>?_;have ai:=h.trans ((ah.trans u).mono U);clear u;go_wp2;go_ret;exact⟨J,ai⟩
def Oe(i j g k:I)(l m b:V)(c:ag)(a:W)(q:∃d e f,l=S d e f)(r:∃d e f,m=S d e f)(n:ba a b c)(o:L c<=1000000000000):ap ab 176 #[ao #[i,j,g,k,l,m,b]] a (ir a (decide (gf c<=g))):=by
 obtain⟨s,t,u,rfl⟩:=q;obtain⟨v,w,x,rfl⟩:=r;have⟨y,p,B5,z,D,G,ad,K,M,O,ae⟩:=ri a i j g k (S s t u) (S v w x) b;have h:=n.bw B5;have P:=Q (λR U=>wZ b c R (h.bw U) o);obtain⟨d,e,f,rfl,X,_,Y⟩:=h.open;have CP:(a:N)<=y:=B5.size;change H _ at p;clear z n h X Y o D G K M O;go_in;go_upto_region 1 with(fail)
 rw[p];refine i2 aT aT ?_;repeat(go_big_quiet_step (first|(go_at_call 200;exact iu _ (P _ (d1.bw _)))))
 exact we
def Of(f g h b:I)(l c d:V)(i:ai)(e:ag)(a:W)(w:∃m n o,l=S m n o)(j:bt a c i)(p:ba a d e)(q:L e<=1000000000000):ap ab 177 #[ao #[f,g,h,b,l,c,d]] a (ir a (decide (b2 i e<=b))):=by
 obtain⟨r,s,t,rfl⟩:=w;have⟨x,u,B5,y,M,O,P,R,U,X,Y⟩:=ri a f g h b (S r s t) c d;have k:=p.bw B5;have z:=Q (λD v=>o9 f g h b (S r s t) c d i e D ⟨_,_,_,J⟩ ((j.bw B5).bw v) (k.bw v) q);obtain⟨ad,ae,ah,rfl,_,_,_⟩:=j.open;obtain⟨m,n,o,rfl,G,_,K⟩:=k.open;have CP:(a:N)<=x:=B5.size;change H _ at u;clear y p k G K q j;go_in;go_upto_region 1 with(fail)
 rw[u];refine i2 aT aT ?_;repeat(go_big_quiet_step (first|(go_at_call 106;exact iu _ (z _ (d1.bw _)))))
 exact we
def rk(a:W)(b:N):Prop:=C a b=A (.func (.func 174) #[] #[])/\C a ⟨b,1,Z⟩=A (aa ac 1)/\C a ⟨b,2,Z⟩=A (.func (.func 175) #[] #[])/\C a ⟨b,3,Z⟩=A (aa ac 11)/\C a ⟨b,4,Z⟩=A (.func (.func 176) #[] #[])/\C a ⟨b,5,Z⟩=A (aa ac 12)/\C a ⟨b,6,Z⟩=A (.func (.func 177) #[] #[])/\C a ⟨b,7,Z⟩=A (aa ac 13)
def rk.bw{Kx:W}(b:rk w a)(c:B w w Kx):rk Kx a:=⟨s c b.1,s c b.2.1,s c b.2.2.1,s c b.2.2.2.1,s c b.2.2.2.2.1,s c b.2.2.2.2.2.1,s c b.2.2.2.2.2.2.1,s c b.2.2.2.2.2.2.2⟩
def Og(a:W)(c:bp)(b:W):Prop:=c=aq (S (A (a:N)) 4 4)/\rk b a/\B a a b
def Oh(a:W):ap ab 138 #[] a (Og a):=by go_in;go_wp2;go_ret;refine⟨J,?_,aN _ _⟩;refine⟨?_,?_,?_,?_,?_,?_,?_,?_⟩<;>simp[go_sem]
def cf(b:N)(c:ai)(d e:I)(a:ag):I:=if h6 b a=F then 1 else if kU (a.map (·.1))=F then 11 else if decide (gf a<=d)=F then 12 else if decide (b2 c a<=e)=F then 13 else 0
def rl(a:W)(c d:V):∃b,a.alloc (az #[c,d] 219)=b/\B a a b/\b.heap.size=(a:N)+1/\C b a=A c/\C b ⟨a,1,Z⟩=A d:=⟨_,J,aN _ _,D,aE,aE⟩
def pt(am an f g:I)(ar:bz)(d av:N)(aX u:V)(j:ai)(b:ag)(v:W)(bi:bt v aX j)(bk:ba v u b)(bN:d<=1000000)(ay:L b<=1000000000000):ap ab 97 #[ao #[am,an,f,g,S ar d av,aX],ao #[u]] v (fW v (cf d j f g b)):=by
 have⟨bO,bl,bm,bn,bo⟩:=bR v am an f g (S ar d av) aX;have⟨aF,bq,aY,bP,ax⟩:=d0 bO u;rw[bn]at ax;have aA:=q bm aY;have a0:=bi.bw aA;have n:=bk.bw aA;obtain⟨aG,aI,aJ,rfl,_,_,_⟩:=a0.open;have br:=Q (λw p=>Oc am an f g ar d av (S aG aI aJ) u b w ⟨_,_,_,J⟩ (n.bw p) bN ay);have bs:=Q (λw p=>Od am an f g (S ar d av) (S aG aI aJ) u b w ⟨_,_,_,J⟩ ⟨_,_,_,J⟩ (n.bw p) ay);have bu:=Q (λw p=>Oe am an f g (S ar d av) (S aG aI aJ) u b w ⟨_,_,_,J⟩ ⟨_,_,_,J⟩ (n.bw p) ay);have bv:=Q (λw p=>Of am an f g (S ar d av) (S aG aI aJ) u j b w ⟨_,_,_,J⟩ (a0.bw p) (n.bw p) ay);have bx:H (∀a1 a2 a4 a5,h6 d b=a1->kU (b.map (·.1))=a2->decide (gf b<=f)=a4->decide (b2 j b<=g)=a5->cf d j f g b=if a1=F then 1 else if a2=F then 11 else if a4=F then 12 else if a5=F then 13 else 0):=Q (λa1 a2 a4 a5 bS bT bU a6=>by unfold cf;rw[bS,bT,bU,a6]);obtain⟨bA,a8⟩:∃x,h6 d b=x:=⟨_,J⟩
 obtain⟨bB,a9⟩:∃x,kU (b.map (·.1))=x:=⟨_,J⟩
 obtain⟨bC,bb⟩:∃x,decide (gf b<=f)=x:=⟨_,J⟩
 obtain⟨bD,bc⟩:∃x,decide (b2 j b<=g)=x:=⟨_,J⟩
 rw[a8]at br;rw[a9]at bs;rw[bb]at bu;rw[bc]at bv;have aC:=Q (bx.oo _ _ _ _ a8 a9 bb bc);obtain⟨bZ,b0,b3,rfl,_,_,_⟩:=n.open;have aL:=Q (bo.bw aY);have aD:=Q aA;have aE:(v:N)<=aF:=aA.size;change H _ at ax bl bq;clear bm aY bn bP bo bi a0 bk n aA a8 a9 bb bc bx ay;go_in;go_upto_region 1 with(fail)
 rw[bl,bq];generalize (v:N)+1=b4 at*;go_wp2_with fail;refine mU (Oh _) λbE ⟨be,bF⟩=>?_;have bG:=Q be;have bH:=Q bF;have bV:(aF:N)=aF:=J;generalize aF=b5 at be bG⊢;clear be bF bV;go_wp2;go_loopw [6,9] (λbW bf wr=>∃(i:N) (bI:V),bI=bW/\bf=i/\i<=4/\(1<=i->bA=T)/\(2<=i->bB=T)/\(3<=i->bC=T)/\(4<=i->bD=T)/\B bE bE wr) (λ_ bf _=>4-(aw bf).toNat);exact⟨0,_,J,J,a3 _,O,O,O,O,aS _ _⟩;obtain⟨i,bI,rfl,rfl,b6,bJ,n,bK,bL,aN⟩:=hrel;obtain⟨r,rfl⟩:=K wr;have e:=Q (U bJ (U n (U bK bL)));have bM:=bH.trans (aN.mono bH.size);have t:=Q aN;have o:=Q bM;have⟨aO,aP,aQ,aR,aT,aU,aV,aW⟩:=bG.bw aN;clear bJ n bK bL aN bM;by_cases b7:i<4
 ·have bX:i=0\/i=1\/i=2\/i=3:=by omega
  rcases bX with rfl|rfl|rfl|rfl
  ·have⟨y,k,h,z,u0,u1⟩:=rl r (.func (.func 174) #[] #[]) (1:I);have l:=Q (t.oo.trans (h.mono t.size));have a:=o.trans (h.mono o.size);have m:=Q a;have D:=Q (br.oo y a);have G:=Q k;have⟨M,P,R,X,Y,ad⟩:=aL.bw a;have ae:=s a ax;have ah:=Q u1;clear aQ aR aT aU aV aW k h z a;go_upto_region 4 with fail;rw[G];generalize r=bg at*;clear aO aP;go_wp2_with fail;refine mU D λbh c=>?_;have ak:=Q (m.oo.trans (c.mono m.size));have al:=Q (l.oo.trans (c.mono l.size));have u1:=s c ah;have HY:=aD.trans (ak.mono aE);clear u0 M P R X Y ad ae c;cases bA with
    |false=>have B6:H (cf d j f g b=1):=Q (by rw[aC];simp);exact qz
    |true=>
     go_wp2;go_roundw;case rel=>exact⟨1,_,J,aK,O,λ_=>trivial,O,O,O,al⟩
     simp[aw]
  ·have⟨y,k,h,z,u0,u1⟩:=rl r (.func (.func 175) #[] #[]) (11:I);have l:=Q (t.oo.trans (h.mono t.size));have a:=o.trans (h.mono o.size);have m:=Q a;have D:=Q (bs.oo y a);have G:=Q k;have⟨M,P,R,X,Y,ad⟩:=aL.bw a;have ae:=s a ax;have ah:=Q u1;clear aO aP aT aU aV aW k h z a;go_upto_region 4 with fail;rw[G];generalize r=bg at*;clear aQ aR;go_wp2_with fail;refine mU D λbh c=>?_;have ak:=Q (m.oo.trans (c.mono m.size));have al:=Q (l.oo.trans (c.mono l.size));have u1:=s c ah;have HY:=aD.trans (ak.mono aE);clear u0 M P R X Y ad ae c;cases bB with
    |false=>have B6:H (cf d j f g b=11):=Q (by rw[aC,e.1 O];simp);exact qz
    |true=>
     go_wp2;go_roundw;case rel=>exact⟨2,_,J,aK,O,λ_=>e.1 O,λ_=>trivial,O,O,al⟩
     simp[aw]
  ·have⟨y,k,h,z,u0,u1⟩:=rl r (.func (.func 176) #[] #[]) (12:I);have l:=Q (t.oo.trans (h.mono t.size));have a:=o.trans (h.mono o.size);have m:=Q a;have D:=Q (bu.oo y a);have G:=Q k;have⟨M,P,R,X,Y,ad⟩:=aL.bw a;have ae:=s a ax;have ah:=Q u1;clear aO aP aQ aR aV aW k h z a;go_upto_region 4 with fail;rw[G];generalize r=bg at*;clear aT aU;go_wp2_with fail;refine mU D λbh c=>?_;have ak:=Q (m.oo.trans (c.mono m.size));have al:=Q (l.oo.trans (c.mono l.size));have u1:=s c ah;have HY:=aD.trans (ak.mono aE);clear u0 M P R X Y ad ae c;cases bC with
    |false=>have B6:H (cf d j f g b=12):=Q (by rw[aC,e.1 O,e.2.1 O];simp);exact qz
    |true=>
     go_wp2;go_roundw;case rel=>exact⟨3,_,J,aK,O,λ_=>e.1 O,λ_=>e.2.1 O,λ_=>trivial,O,al⟩
     simp[aw]
  have⟨y,k,h,z,u0,u1⟩:=rl r (.func (.func 177) #[] #[]) (13:I);have l:=Q (t.oo.trans (h.mono t.size));have a:=o.trans (h.mono o.size);have m:=Q a;have D:=Q (bv.oo y a);have G:=Q k;have⟨M,P,R,X,Y,ad⟩:=aL.bw a;have ae:=s a ax;have ah:=Q u1;clear aO aP aQ aR aT aU k h z a;go_upto_region 4 with fail;rw[G];generalize r=bg at*;clear aV aW;go_wp2_with fail;refine mU D λbh c=>?_;have ak:=Q (m.oo.trans (c.mono m.size));have al:=Q (l.oo.trans (c.mono l.size));have u1:=s c ah;have HY:=aD.trans (ak.mono aE);clear u0 M P R X Y ad ae c;cases bD with
   |false=>have B6:H (cf d j f g b=13):=Q (by rw[aC,e.1 O,e.2.1 O,e.2.2.1 O];simp);exact qz
   |true=>
    go_wp2;go_roundw;case rel=>exact⟨4,_,J,aK,O,λ_=>e.1 O,λ_=>e.2.1 O,λ_=>e.2.2.1 O,λ_=>trivial,al⟩
    simp[aw]
 have a6:i=4:=O
 subst a6;have B6:H (cf d j f g b=0):=Q (by rw[aC,e.1 O,e.2.1 O,e.2.2.1 O,e.2.2.2 O];simp);have bY:=aD.trans (o.mono aE);go_wp2;go_ret;rw[B6];exact⟨J,bY⟩
def kW(a:ag->I):ar->I
 |[]=>0
 |b::c=>if a b=0 then kW a c else a b
def eZ(b:N)(c:ai)(f d e:I)(a:ar):I:=if kW (cf b c d e) a≠0 then kW (cf b c d e) a else if kU (a.flatten.map (·.1))=F then 11 else if f<L a then 14 else 0
def yj(e:ag->I)(d:ar):kW e d=0↔∀a,a<L d->e (ah d a)=0:=by
 induction d with
  |nil=>simp[kW]
  |cons h d g=>
   rw[kW];constructor;intro b a f;by_cases c:e h=0;rw[am c]at b;match a with
    |0=>simpa[ah]using c
    |a+1=>have:=g.1 b a (X f);simpa[ah]using this
   rw[ak c]at b;exact absurd b c;intro b;have c:=b 0 D;rw[am (by simpa[ah]using c)];exact g.2 λa f=>by have:=b (a+1) (X f);simpa[ah]using this
def Oi(c:ag->I)(b:ar)(a:N)(e:a<L b)(f:∀d,d<a->c (ah b d)=0)(g:c (ah b a)≠0):kW c b=c (ah b a):=by
 induction b generalizing a with
  |nil=>simp at e
  |cons i b h=>
   rw[kW];match a with
    |0=>rw[ak (by simpa[ah]using g)];simp[ah]
    |a+1=>rw[am (by have:=f 0 O;simpa[ah]using this)];have:=h a (X e) (λd j=>by have:=f (d+1) O;simpa[ah]using this) (by simpa[ah]using g);simpa[ah]using this
def tR(aD h e f:I)(aE:bz)(c aF:N)(P R:V)(g:ai)(a:ar)(l:W)(aW:bt l P g)(U:bb l R a)(bo:c<=1000000)(r:cx a):ap ab 66 #[ao #[aD,h,e,f,S aE c aF,P],ao #[R]] l (fW l (eZ c g h e f a)):=by
 have⟨bq,aX,aY,a0,a1⟩:=bR l aD h e f (S aE c aF) P;have⟨i,a2,aG,br,Y⟩:=c8 bq R;rw[a0]at Y;have t:=q aY aG;have aI:=aW.bw t;have aN:=U.bw t;have bs:=Q (λ(j:W) (u:V) (aO:ag) (aP:B i i j) (hp:ba j u aO) (bT:L aO<=1000000)=>pt aD h e f aE c aF P u g aO j (aI.bw aP) hp bo O);have bu:=Q (λ(j:W) (aP:B i i j)=>w2 R a j (aN.bw aP) r);have bv:=Q (λ(j:W) (u:V) (hp:ba j u a.flatten)=>o8 u a.flatten j hp (by have p:=s4 r (L a) (aL _);rw[List.take_length]at p;have bx:=s5 U;omega));have bA:H ((a.flatten.map (·.1)).length<=4000000000000):=Q (by rw[de];have p:=s4 r (L a) (aL _);rw[List.take_length]at p;have bx:=s5 U;omega);obtain⟨bU,bV,bW,rfl,_,_,_⟩:=aI.open;obtain⟨bX,v,bZ,rfl,Da,b0,a4⟩:=aN.open;have a5:=Q t;have aQ:=Q (a1.bw aG);have a6:(l:N)<=i:=t.size;change H _ at aX a2 Da a4 r;clear aY aG a0 br a1 aW aI U aN t;go_in;go_upto_region 1 with(fail)
 rw[aX,a2];generalize (l:N)+1=b2 at*;go_wp2_with fail;change H _ at Y;go_loopw [6,7,11] (λbB bC d wr=>∃(b:N) (a8 a9:V),a8=bB/\a9=bC/\d=b/\b<=v/\(∀d,d<b->cf c g e f (ah a d)=0)/\B i i wr) (λ_ _ d _=>v-(aw d).toNat);exact⟨0,_,_,J,J,J,a3 _,λd bc=>absurd bc (fx _),aS _ _⟩;obtain⟨b,a8,a9,rfl,rfl,rfl,b3,ad,k⟩:=hrel;obtain⟨ae,rfl⟩:=K wr;have bD:(i:N)<=ae:=k.size;change H _ at ad;by_cases Ch:b<v
 ·obtain⟨b4,b5,be,bf,bg,rfl,aR,hp⟩:=a4 b Ch;have aR:=s k aR;have b6:=aJ b;have b7:(b:I)<v:=by omega
  have⟨bE,bh,bi,bF,bG⟩:=d0 ae (S be bf bg);have m:=k.trans (bi.mono bD);have bk:=Q (bs.oo bE (S be bf bg) (ah a b) m (hp.bw m) (r b));have⟨ak,al,an,av,ax,ay⟩:=aQ.bw m;have⟨aA,w⟩:=K (cf c g e f (ah a b));rw[<-w]at bk;change H _ at m bh w;clear bF bi k hp;go_upto_region 4 with fail;rw[bh];generalize ae=b8 at*;clear aR;go_wp2_with fail;refine mU bk λaC x=>?_;have y:=Q (q m x);have z:=a5.trans (y.mono a6);clear x ak al an av ax ay bG;by_cases n:aA=0
  ·have D:(aA !=0)=F:=by simpa using n
   have bH:H (∀d,d<b+1->cf c g e f (ah a d)=0):=Q (λd bc=>by by_cases bI:d<b;exact ad d bI;rw[show d=b by omega,<-w];exact n);clear n;go_wp2;go_roundw;case rel=>exact⟨b+1,_,_,J,J,aK,kL Ch,bH,y⟩
   exact bY
  have D:(aA !=0)=T:=X n
  have o:H (eZ c g h e f a=aA):=Q (by have p:=Oi (cf c g e f) a b c1 ad (by rw[<-w];exact n);rw[<-w]at p;unfold eZ;rw[p,am n]);clear n;go_wp2;go_ret;rw[o];exact⟨J,z⟩
 have bJ:b=v:=O
 subst bJ;have aT:H (kW (cf c g e f) a=0):=Q ((yj _ _).2 (by rw[Da];exact ad));have bK:=Q (bu.oo ae k);have m:=Q k;have bl:=s k Y;have⟨ak,al,an,av,ax,ay⟩:=aQ.bw k;clear k Ch ak al an av ax ay;go_wp2_with fail;refine mF bK λaC b9 b' ca ⟨G,x⟩=>?_;have bL:=Q (bv.oo aC _ G.di);have y:=Q (q m x);clear G x bl;go_wp2_with fail;refine mE bL λbM bN ⟨G,aU⟩=>?_;have bm:=Q (yb bN _ aC bM G bA aU.size);have bO:=Q aU;have bP:(i:N)<=aC:=y.size;have⟨bS,M⟩:=K (kU (a.flatten.map (·.1)));rw[<-M]at bm;change H _ at M;clear G aU;go_wp2_with fail;refine mU bm λcc bn=>?_;have aV:=Q (y.oo.trans ((bO.trans bn).mono bP));have z:=a5.trans (aV.mono a6);have bl:=s aV Y;have⟨ak,al,an,av,ax,ay⟩:=aQ.bw aV;clear bn;cases bS with
  |false=>have o:H (eZ c g h e f a=11):=Q (by unfold eZ;rw[aT,<-M];simp);go_wp2;go_ret;rw[o];exact⟨J,z⟩
  |true=>
   rcases df (decide (h<(b:I)))with D|D;·have o:H (eZ c g h e f a=14):=Q (by unfold eZ;rw[aT,<-M,Da];simpa using D);go_wp2;go_ret;rw[o];exact⟨J,z⟩
   have o:H (eZ c g h e f a=0):=Q (by unfold eZ;rw[aT,<-M,Da];simpa using D);go_wp2;go_ret;rw[o];exact⟨J,z⟩
abbrev iD:=E ag×I×(I->Option I)
def fG(h:N)(i:ai)(j k l:I)(a:iD)(b:I×a4):iD:=let c:=((a.2.2 b.1).getD 0).toNat;let f:=((a.2.2 b.2.1).getD 0).toNat;let d:=ah a.1 c;let e:=ah a.1 f;if c=f then a else if(al d (L d-1)).1≠b.1 then a else if(al e 0).1≠b.2.1 then a else if b.2.2<=0/\a.2.1<=j then a else if cf h i k l (d++e)≠0 then a else((a.1.set c (d++e)).set f [],aB (a.2.1-1),λg=>if g∈e.map (·.1)then A (c:I)else a.2.2 g)
structure gt(e:ad)(f:N)(a:iD):Prop where
 on:∀c∈e,∃b,b<a.1.length/\a.2.2 c=A (b:I)
 at_:∀c d,a.2.2 c=A d->∃b,b<a.1.length/\d=(b:I)/\c∈(ah a.1 b).map (·.1)
 sum:a6 a.1=f
def rm(c:ar)(a b:N)(d:ag)(f:a<L c):ah (c.set a d) b=if a=b then d else ah c b:=by unfold ah;by_cases e:a=b;subst e;simp[f];simp[List.getD,e]
def tT(b:ar)(a:N)(c:ag)(d:a<L b):a6 (b.set a c)+(ah b a).length=a6 b+L c:=by
 unfold a6 ah;induction b generalizing a with
  |nil=>simp at d
  |cons f b e=>
   match a with
    |0=>simp;omega
    |a+1=>have:=e a (X d);simp at*;omega
def yk(b:ar)(a:N)(c:a<L b):(ah b a).length<=a6 b:=by
 unfold a6 ah;induction b generalizing a with
  |nil=>simp at c
  |cons e b d=>
   match a with
    |0=>simp
    |a+1=>have:=d a (X c);simp at*;omega
def gt.next{l:ad}{I9:N}{I0:ai}{veh cap len:I}{n:iD}(e:gt l a n)(o:I×a4)(x:o.1∈l)(y:o.2.1∈l):gt l a (fG I9 I0 veh cap len n o):=by
 obtain⟨b,M,O⟩:=n;have⟨c,h,u⟩:=e.on _ x;have⟨d,p,v⟩:=e.on _ y;simp only at h p u v;unfold fG;simp only[u,v,Option.getD_some,cW];by_cases m:c=d;rw[am m];exact e;rw[ak m];split;exact e;split;exact e;split;exact e;split;exact e;have z:ah ((b.set c (ah b c++ah b d)).set d [])=λf=>if d=f then[]else if c=f then ah b c++ah b d else ah b f:=by funext f;rw[rm _ _ _ _ (X p),rm _ _ _ _ h]
 refine⟨λi D=>?_,λi G j=>?_,?_⟩;simp only[b'];by_cases g:i∈(ah b d).map (·.1);exact⟨c,h,by rw[am g]⟩;have⟨f,q,k⟩:=e.on i D;exact⟨f,q,by rw[ak g];exact k⟩;simp only[b',z]at j⊢;by_cases g:i∈(ah b d).map (·.1);rw[am g]at j;cases j;exact⟨c,h,J,by rw[ak (λk=>m k.symm),am J,ck];exact List.mem_append_right _ g⟩;rw[ak g]at j;have⟨f,q,k,r⟩:=e.at_ i G j;refine⟨f,q,k,?_⟩;have H:¬d=f:=λs=>g (s▸r);rw[ak H];split;rename_i s;subst s;rw[ck];exact List.mem_append_left _ r;exact r;have K:=tT b c (ah b c++ah b d) h;have w:=tT (b.set c (ah b c++ah b d)) d [] (X p);rw[rm _ _ _ _ h,ak m]at w;have P:a6 b=a:=e.sum;simp only[bL,et]at K w;simp only;omega
def Oj(b:N)(c:ai)(d e f:I)(a:iD)(g:I×a4):(fG b c d e f a g).1.length=a.1.length:=by
 unfold fG;simp only;repeat' split
 all_goals first|rfl|simp
def hn(a:ag)(b:N):ar:=(a.take b).map λc=>[c]
def ho(b:ag):N->I->Option I
 |0=>λ_=>Z
 |a+1=>λc=>if c=(al b a).1 then A (a:I)else ho b a c
def rn(b:ag)(a:N)(c:a<=L b):(hn b a).length=a:=by simp[hn];omega
def Ok(a:ag)(b:N)(c:b<L a):hn a (b+1)=hn a b++[[al a b]]:=by unfold hn;rw[iq a b c,ck];rfl
def Ol(a:ag)(c b:N)(d:b<c)(e:c<=L a):ah (hn a c) b=[al a b]:=by
 have:b<L a:=O
 simp[ah,hn,List.getElem?_take_of_lt d,al,this]
def Om(d:ag)(b:N)(q:b<=L d):(∀e f,ho d b e=A f->∃a,a<b/\f=(a:I)/\e=(al d a).1)/\∀a,a<b->∃h,h<b/\ho d b (al d a).1=A (h:I):=by
 induction b with
  |zero=>exact⟨λe f c=>by simp[ho]at c,λa c=>absurd c (fx _)⟩
  |succ b j=>
   have⟨k,l⟩:=j O;refine⟨λe f c=>?_,λa m=>?_⟩;unfold ho at c;split at c;rename_i g;cases c;exact⟨b,O,J,g⟩;have⟨a,m,n,i⟩:=k e f c;exact⟨a,O,n,i⟩;unfold ho;by_cases g:(al d a).1=(al d b).1;exact⟨b,O,by rw[am g]⟩;have o:a<b:=by by_cases p:a=b;subst p;exact absurd J g;omega
   have⟨h,r,i⟩:=l a o;exact⟨h,O,by rw[ak g];exact i⟩
def On(a:ag):a6 (hn a (L a))=L a:=by
 unfold a6 hn;rw[List.take_length,List.map_map];induction a with
  |nil=>rfl
  |cons b a c=>simp at*;omega
def gt.start(a:ag)(f:I):gt (a.map (·.1)) (L a) (hn a (L a),f,ho a (L a)):=by have⟨g,h⟩:=Om a (L a) (aL _);refine⟨λd i=>?_,λd j k=>?_,On a⟩;obtain⟨q,l,rfl⟩:=List.mem_map.1 i;obtain⟨c,b,rfl⟩:=gP l;have⟨m,n,e⟩:=h c b;rw[jP b]at e;exact⟨m,by rw[rn a (L a) (aL _)];exact n,e⟩;have⟨c,b,o,p⟩:=g d j k;refine⟨c,by rw[rn a (L a) (aL _)];exact b,o,?_⟩;rw[Ol a (L a) c b (aL _)];simp[p]
def ro(c:N)(b:ai)(d e f:I)(a:ag):iD:=(f0 b (cF (a.map (·.1)))).foldl (fG c b d e f) (hn a (L a),(L a:I),ho a (L a))
def hq(a:N)(b:ai)(c d e:I)(f:ag):ar:=(ro a b c d e f).1.filter λg=>decide (g≠[])
section
structure cH(i b d:N)(e:aD)(k l m n:I)(o p f:V)(j:aP)(g:iD)(c:W):Prop where
 inst:ci c b k l m n o p
 c6:C c ⟨b,6,Z⟩=A f
 c7:C c ⟨b,7,Z⟩=A (aa ac g.2.1)
 c8:C c ⟨b,8,Z⟩=A (.map (A d))
 z6:aH c ⟨b,6,Z⟩=F
 z7:aH c ⟨b,7,Z⟩=F
 own:c.ownsRow i 96 1 f g.1.length j
 row:∀h,h<g.1.length->aI ba (λa=>¬e a\/a=b\/a=d\/af f=A a) c (j.getD h undef) (ah g.1 h)
 map:cs c d g.2.2
 ne:b≠d
 ng:af f≠A b
 nm:af f≠A d
 has:e b/\e d/\∀a,af f=A a->e a
 lt:∀a,e a->a<(c:N)
 le:∀a,e a->i<=a
section
variable{aah aai aaj:N}{aak aal aam:aD}{aan aao aap aaq:I}{aar aas aat:V}{aau:aP}{aav:iD}{aaw aax:W}
def cH.aO(a:cH aah aai aaj aak aan aao aap aaq aar aas aat aau aav aaw)(d:M aam aaw aax)(e:∀b,aak b->¬aam b):cH aah aai aaj aak aan aao aap aaq aar aas aat aau aav aax:=by have⟨g,k,l⟩:=a.has;have c:∀h i,C aaw ⟨aai,h,Z⟩=A i->C aax ⟨aai,h,Z⟩=A i:=λh i m=>d.cell m (e aai g);have j:=a.lt aai g;refine⟨⟨c _ _ a.inst.c0,c _ _ a.inst.c1,c _ _ a.inst.c2,c _ _ a.inst.c3,c _ _ a.inst.c4,c _ _ a.inst.c5⟩,c _ _ a.c6,c _ _ a.c7,c _ _ a.c8,d.free a.z6 j (e aai g),d.free a.z7 j (e aai g),?_,λn o=>(a.row n o).step d.size (λb p q=>d.block b p λf=>?_) I2,a.map.aO d (e aaj k),a.ne,a.ng,a.nm,a.has,λb f=>cg (a.lt b f) d.size,a.le⟩;refine c3 a.own d λb f=>e b (l b f);exact q (.inl λr=>e b r f)
def cH.bw(a:cH aah aai aaj aak aan aao aap aaq aar aas aat aau aav aaw)(b:B aaw aaw aax):cH aah aai aaj aak aan aao aap aaq aar aas aat aau aav aax:=a.aO (M.bw (I':=λ_=>False) b) λ_ _ c=>c
def cH.adH(a:cH aah aai aaj aak aan aao aap aaq aar aas aat aau aav aaw)(d:∀b,aak b->aal b)(e:∀b,aal b->b<(aaw:N)/\aah<=b):cH aah aai aaj aal aan aao aap aaq aar aas aat aau aav aaw:=⟨a.inst,a.c6,a.c7,a.c8,a.z6,a.z7,a.own,λf g=>(a.row f g).mono λb c=>c.imp_left λc h=>c (d b h),a.map,a.ne,a.ng,a.nm,⟨d _ a.has.1,d _ a.has.2.1,λb c=>d _ (a.has.2.2 b c)⟩,λb c=>(e b c).1,λb c=>(e b c).2⟩
def cH.BF{h:ar}{i:I}{l j:I->Option I}(a:cH aah aai aaj aak aan aao aap aaq aar aas aat aau (h,i,l) aaw)(m:cs aax aaj j)(c:M (λd=>d=aaj) aaw aax):cH aah aai aaj aak aan aao aap aaq aar aas aat aau (h,i,j) aax:=by have b:∀f g,C aaw ⟨aai,f,Z⟩=A g->C aax ⟨aai,f,Z⟩=A g:=λf g n=>c.cell n a.ne;have k:=a.lt aai a.has.1;exact⟨⟨b _ _ a.inst.c0,b _ _ a.inst.c1,b _ _ a.inst.c2,b _ _ a.inst.c3,b _ _ a.inst.c4,b _ _ a.inst.c5⟩,b _ _ a.c6,b _ _ a.c7,b _ _ a.c8,c.free a.z6 k a.ne,c.free a.z7 k a.ne,c3 a.own c λd e o=>a.nm (o▸e),λp q=>(a.row p q).step c.size (λd r s=>c.block d r λe=>s (.inr (.inr (.inl e)))) I2,m,a.ne,a.ng,a.nm,a.has,λd e=>cg (a.lt d e) c.size,a.le⟩
def cH.Wo{h:ar}{k J1:I}{i:I->Option I}(a:cH aah aai aaj aak aan aao aap aaq aar aas aat aau (h,k,i) aaw):cH aah aai aaj aak aan aao aap aaq aar aas aat aau (h,J1,i) (aj aaw ⟨aai,7,Z⟩ J1):=by
 have e:M (λd=>d=aai) aaw (aj aaw ⟨aai,7,Z⟩ J1):=M.grown (bn _ _ _) (λd b=>X b.symm);have c:∀f g,f≠7->C aaw ⟨aai,f,Z⟩=A g->(aj aaw ⟨aai,7,Z⟩ J1).cell? ⟨aai,f,Z⟩=A g:=λf g j l=>by rw[cq _ _ _ _ (by intro b;first|exact j (cz Addr.off b)|exact j (cz Addr.off b).symm)];exact l
 exact⟨⟨c _ _ O a.inst.c0,c _ _ O a.inst.c1,c _ _ O a.inst.c2,c _ _ O a.inst.c3,c _ _ O a.inst.c4,c _ _ O a.inst.c5⟩,c _ _ O a.c6,bP _ _ _ (by rw[a.c7];rfl),c _ _ O a.c8,by rw[bs];exact a.z6,by rw[bs];exact a.z7,c3 a.own e λd b m=>a.ng (m▸b),λn o=>(a.row n o).step e.size (λd p q=>e.block d p λb=>q (.inr (.inl b))) I2,a.map.aO e (λb=>a.ne b.symm),a.ne,a.ng,a.nm,a.has,λd b=>cg (a.lt d b) e.size,a.le⟩
def yl{f:bj}{a b c:N}(i:aaw.ownsRow aah f 1 (S (A a) b c) b aau)(d:N)(e:V):(aj aaw ⟨a,d,Z⟩ e).ownsRow aah f 1 (S (A a) b c) b (aau.set d e):=by obtain⟨j,k⟩:=i;refine⟨X j,?_⟩;rcases k with⟨l,_⟩|⟨s,t,m,g,n,o,p,q,r,h⟩;cases l;simp only[bf,a2,bN,bT]at g;obtain⟨rfl,_,rfl⟩:=g;refine .inr ⟨a,c,m.setIfInBounds d e,J,n,?_,p,q,X r,?_⟩;simp only[aj,Array.getElem?_modify];simp[o];simp only[Array.toList_setIfInBounds,Nat.mul_one]at h⊢;rw[List.take_set,h]
def cH.BG{g:ar}{o:I}{p:I->Option I}{c j h:N}(b:cH aah aai aaj aak aan aao aap aaq aar aas (S (A c) h j) aau (g,o,p) aaw)(w:L g=h){JJ:N}(q:JJ<h){Kl:V}{J8:ag}(x:aI ba (λa=>¬aak a\/a=aai\/a=aaj\/a=c) aaw Kl J8):cH aah aai aaj aak aan aao aap aaq aar aas (S (A c) h j) (aau.set JJ Kl) (g.set JJ J8,o,p) (aj aaw ⟨c,JJ,Z⟩ Kl):=by
 subst w;have f:M (λa=>a=c) aaw (aj aaw ⟨c,JJ,Z⟩ Kl):=M.grown (bn _ _ _) (λa d=>X d.symm);have k:aai≠c:=λd=>b.ng (by simp[af,d]);have y:aaj≠c:=λd=>b.nm (by simp[af,d]);have e:∀l m,C aaw ⟨aai,l,Z⟩=A m->(aj aaw ⟨c,JJ,Z⟩ Kl).cell? ⟨aai,l,Z⟩=A m:=λl m z=>f.cell z k;have r:=b.lt aai b.has.1;have s:(λa=>¬aak a\/a=aai\/a=aaj\/(S (A c) (L g) j).ownBlock=A a)=λa=>¬aak a\/a=aai\/a=aaj\/a=c:=by funext a;simp[af,eq_comm]
 have D:L aau=L g:=by have:=b.own.1;simpa using this
 refine⟨⟨e _ _ b.inst.c0,e _ _ b.inst.c1,e _ _ b.inst.c2,e _ _ b.inst.c3,e _ _ b.inst.c4,e _ _ b.inst.c5⟩,e _ _ b.c6,e _ _ b.c7,e _ _ b.c8,f.free b.z6 r k,f.free b.z7 r k,?_,λi t=>?_,b.map.aO f y,b.ne,b.ng,b.nm,b.has,λa d=>cg (b.lt a d) f.size,b.le⟩;have:=yl b.own JJ Kl;simpa using this;simp only[b']at t;simp only[rm _ _ _ _ q];rw[s];have u:∀a,a<(aaw:N)->¬(¬aak a\/a=aai\/a=aaj\/a=c)->(aj aaw ⟨c,JJ,Z⟩ Kl).heap[a]? =aaw.heap[a]? :=λa G H=>f.block a G λd=>H (.inr (.inr (.inr d)));by_cases d:JJ=i;subst d;rw[am J];have n:(aau.set JJ Kl).getD JJ undef=Kl:=by simp[List.getD,D,q]
 rw[n];exact x.step f.size u I2;rw[ak d];have n:(aau.set JJ Kl).getD i undef=aau.getD i undef:=by simp[List.getD,d]
 rw[n];have v:=b.row i t;rw[s]at v;exact v.step f.size u I2
def cH.at_{b d e:N}(a:cH aah aai aaj aak aan aao aap aaq aar aas (S (A b) d e) aau aav aaw){i:N}(f:i<aav.1.length):C aaw ⟨b,i,Z⟩=A (aau.getD i undef)/\ba aaw (aau.getD i undef) (ah aav.1 i)/\aH aaw ⟨b,i,Z⟩=F:=by
 have⟨g,c,h⟩:=hb a.own i (aau.getD i undef) (by
  have:L aau=aav.1.length:=by have:=a.own.1;simpa using this
  simp[List.getD,show i<L aau by omega])
 simp only[af,a2]at c;subst c;refine⟨h,(a.row i f).now,?_⟩;rcases a.own.2 with⟨j,_⟩|⟨g,m,n,k,o,l,_⟩;cases j;cases k;simp[aH,l]
def tU(aah aai aaj:N)(aak:aD)(aan aao aap aaq:I)(aar aas aat:V)(aaw:W)(b:iD)(aax:W):Prop:=∃aal c,cH aah aai aaj aal aan aao aap aaq aar aas aat c b aax/\M aak aaw aax/\∀a,aal a->aak a\/(aaw:N)<=a
end
end
end Go.Proofs.YtdlofedcpibjcaaGreatDoor
