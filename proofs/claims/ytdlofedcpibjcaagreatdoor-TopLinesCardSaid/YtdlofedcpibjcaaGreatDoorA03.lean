/- A part of the proof of TopLines: contracts of the functions that it reaches. Conditions: as each states. -/
import Derived.Test.YtdlofedcpibjcaaGreatDoorA02
namespace Go.Proofs.YtdlofedcpibjcaaGreatDoor
open Go.RowKit Go.Proofs.Tryz
set_option linter.all false
set_option maxRecDepth 100000
set_option maxHeartbeats 25600000
open Go renaming World->W,Value->V,Addr->bQ,Act->a',Oper->bd,Program->cb,Ending->bp,TypeId->bj,Calls->ap
open Go.RowKit renaming Below->B,wrap64->aB,intOf->aw
open Option renaming some->A,none->Z
open Bool renaming true->T,false->F
open Go.Value renaming int->aa,slice->S,pointer->aM,agg->ao,bool->au,string->a7,tuple->aZ,ownBlock->af
open Go.IntKind renaming i64->ac,u64->b1
open Go.Ending renaming returned->aq
open Go.Obj renaming cells->az
open Go.World renaming setCell->aj,cell?->C,frozen?->aH
open List renaming length->L
open Go.Proofs.Tryz renaming prog->ab
open _root_ renaming Int->I,Nat->N,List->E
variable{a b c d e g:N}{w x:W}{i j k l:I}{u v y:V}{p:Prop}
section
attribute [local go_sem] Oper.semAt_some
def KO{JC JD JE JF Jx JA Kh:V}{h:ad}(l:ax x a tV)(hF:∀d,d<13->aH x ⟨a,d,Z⟩=F)(m:ay x b u h)(o:∀f,af u=A f->f≠a)(i:B w w x)(q:w<=a):ax (jg x a JC JD JE JF Jx JA Kh u (au F) (S Z 0 0) (0:I) (S Z 0 0) (S Z 0 0)) a (pu JC JD JE JF Jx JA Kh u F (S Z 0 0) 0 (S Z 0 0) (S Z 0 0))/\(∀d,d<13->(jg x a JC JD JE JF Jx JA Kh u (au F) (S Z 0 0) (0:I) (S Z 0 0) (S Z 0 0)).frozen? ⟨a,d,Z⟩=F)/\ay (jg x a JC JD JE JF Jx JA Kh u (au F) (S Z 0 0) (0:I) (S Z 0 0) (S Z 0 0)) b u h/\B w w (jg x a JC JD JE JF Jx JA Kh u (au F) (S Z 0 0) (0:I) (S Z 0 0) (S Z 0 0)):=⟨ys l J _ _ _ _ _ _ _ _ _ _ _ _ _,λd p=>by rw[OJ];exact hF d p,m.bl (tW _ _ _ _ _ _ _ _ _ _ _ _ _ _ _) (λf j k=>o f j k),i.trans ((tW _ _ _ _ _ _ _ _ _ _ _ _ _ _ _).bg i.size (λf j k=>O))⟩
def dO.start{d e f g h:V}{i:Bool}{I9:N}{I0:ai}{cap len:I}{Jj:ar}(j:ax w a (pu u v y d e f g h i (S Z 0 0) 0 (S Z 0 0) (S Z 0 0)))(hF:∀k,k<13->aH w ⟨a,k,Z⟩=F):dO a w w u v y d e f g h i I9 I0 cap len Jj 0 0 0 0 w (S Z 0 0) (S Z 0 0) (S Z 0 0):=⟨by simpa[fh]using j,hF,World.ownsRow_nil _ _ _ _,ay.nil _ _,ay.nil _ _,λn c=>(by cases c),λn c=>(by cases c),⟨j.lt,aL _⟩,M.refl _ _⟩
def dO.same{o p q r s:V}{t:Bool}{h:ai}{k:ar}{z D:N}{G H K:V}(f:dO a b w u v y o p q r s t c h i j k d e z D x G H K)(Y:fh c h i j k g=fh c h i j k e):dO a b w u v y o p q r s t c h i j k d g z D x G H K:=⟨by rw[Y];exact f.aA,f.bH,f.o9,f.gv,f.gw,f.n1,f.n2,f.gB,f.aO⟩
def ud(b:ar)(a:N)(c:a<=L b):(j6 b a).length=a:=by simp[j6];omega
def ue(c:ai)(b:ar)(a:N)(d:a<=L b):(j7 c b a).length=a:=by simp[j7];omega
def Qx(a:W)(c:I):∃b,a.alloc (az #[c] 28)=b/\B a a b/\b.heap.size=(a:N)+1/\C b a=A (aa ac c):=⟨_,J,aN _ _,D,aE⟩
def za{c:ad}(d:w.ownsRow a 3 1 u b (c.map (aa ac)))(i:L c=b):ay w a u c:=by subst i;exact d
def zb{c:ad}(d:ay w a u c)(h:L c=b):w.ownsRow a 3 1 u b (c.map (aa ac)):=by subst h;exact d
def Qy(b:W)(x f1 y z D G a:V)(t:N)(u:ai)(v w:I)(c:ar)(H:bp)(d:W):Prop:=∃e f g h i j k l m n o p q r,H=aq (ao #[x,f1,y,z,D,G,a,S e f g,au h,S i j k,(l:I),S m n o,S p q r])/\j8 d t u v w c a (S e f g) h (S i j k) l (S m n o) (S p q r)/\B b b d/\∀s,M (λK=>K<(b:N)) d s->bb s a c->j8 s t u v w c a (S e f g) h (S i j k) l (S m n o) (S p q r)
def zc(GX GY G0 G2:I)(EY:bz)(I9 E0:N)(JA Kh:V)(k:ai)(g:ar)(l:W)(es:I9<=1000000)(cw:bt l JA k)(cy:bb l Kh g)(cM:a6 g<=1000000):ap ab 271 #[ao #[GX,GY,G0,G2,S EY I9 E0,JA],ao #[Kh]] l (Qy l GX GY G0 G2 (S EY I9 E0) JA Kh I9 k G0 G2 g):=by
 have cN:=cx.of cM;have⟨et,dB,a8,dC,e⟩:=bR l GX GY G0 G2 (S EY I9 E0) JA;have⟨eu,dD,P,cO,bE⟩:=c8 et Kh;have⟨i,dE,al,b3,cP,cQ⟩:=rq eu;rw[dC]at bE cO;rw[cO]at cP cQ b3;have cR:=q a8 (q P al);have ev:=e.bw (q P al);have Fq:=s al bE;have dF:=cy.bw cR;have dG:=Q (λ(m:W) (aC:B i i m)=>w2 Kh g m (dF.bw aC) cN);have dH:g.flatten.length=a6 g:=by simp[a6,List.length_flatten]
 have cS:=Q (λ(m:W) (aG:V) (ew:ba m aG g.flatten)=>yn aG g.flatten m ew O);have ey:=Q (λ(m:W) (a9:V) (R:ag) (aC:B l l m) (aD:ba m a9 R) (dI:L R<=1000000)=>pt GX GY G0 G2 EY I9 E0 JA a9 k R m (cw.bw aC) aD es O);have ez:=Q (λ(m:W) (a9:V) (R:ag) (aD:ba m a9 R) (dI:L R<=1000000)=>wZ a9 R m aD O);have eA:=Q (λ(m:W) (a9:V) (R:ag) (aC:B l l m) (aD:ba m a9 R) (dI:L R<=1000000)=>o9 GX GY G0 G2 (S EY I9 E0) JA a9 k R m ⟨_,_,_,J⟩ (cw.bw aC) aD O);have eB:=Q cy;obtain⟨E1,E2,E3,rfl,_,_,_⟩:=cw.open;obtain⟨G6,J0,G7,rfl,Da,fq,dJ⟩:=cy.open;have eC:=cM;have cA:H ((i:N)=(l:N)+3):=Q O;obtain⟨CI,Ce,El,Em,En,DJ⟩:=ev;have dK:H (ci i l GX GY G0 G2 (S EY I9 E0) (S E1 E2 E3)):=Q ⟨CI,Ce,El,Em,En,DJ⟩;have dL:=Q cR;have eD:=Q cP;change H _ at dB dD dE cQ Da dJ dH;clear cR cP;have dM:=Q Fq;change H _ at cN;clear cw cy dF a8 P al dC cO b3 e bE cM;go_in;go_upto_region 1 with fail;rw[dB,dD,dE];go_cut [5] (λeE bF=>∃gk n o t aE,eE=aM (A ⟨gk,0,Z⟩)/\ax bF gk (pu GX GY G0 G2 (S EY I9 E0) (S E1 E2 E3) (S G6 J0 G7) (S n o t) F (S Z 0 0) 0 (S Z 0 0) (S Z 0 0))/\(∀j,j<13->aH bF ⟨gk,j,Z⟩=F)/\ay bF aE (S n o t) (gu g)/\(∀b,(S n o t).ownBlock=A b->b≠gk)/\i<=gk/\B i i bF/\(i:N)<=aE);case first=>
  refine i' ((.r 0 (.r 1 (.r 2 (.f 3 (.f 4 (.p 5 (.a 6 (.z 7 .d))) 6 (.a 4 (.p 5 (.z 7 .d)))) 6 (.a 3 (.a 4 (.p 5 (.z 7 .d))))))))) (dp i) aT aT (.mk (an _)) ?_;iterate 3 refine mS ?_
  refine gN (λCQ B8=>?_) (λCQ B8=>?_)
  ·go_simp;refine mF (dG _ (an _)) λG aI aN aP ⟨aD,cc⟩=>?_;have IR:B i i G:=q (an i) cc;refine B8 _ _ (.mk IR) ?_;refine gN (λCQ B8=>?_) (λCQ B8=>?_)
   ·go_simp;refine mE (cS _ _ aD.di) λbG cd ⟨CV,be⟩=>?_;obtain⟨n,o,t,rfl,_,_,_⟩:=CV.ints.open;have aQ:B i i bG:=q IR be;refine B8 _ _ (.mk aQ) ?_;refine mS ?_;have⟨bJ,eF,dN,fs,B4,hF⟩:=rq bG;have G8:=q aQ dN;refine aU λCQ B8=>?_;go_simp;try rw[eF]
    refine B8 _ _ (.mk G8) ?_;have E4:∀b,(S n o t).ownBlock=A b->b≠(bG:N):=λb e f=>Y ((CV.lt b e).2)
    have CV:=CV.bw dN;have E5:(i:N)<=bG:=aQ.size;exact sD
   have⟨bG,eG,dP,ft,B4,hF⟩:=rq G;have IS:=q IR dP;go_simp;try rw[eG]
   refine B8 _ _ (.mk IS) ?_;refine aU λCQ B8=>?_;go_simp;refine mE (cS _ _ (aD.di.bw dP)) λbJ cd ⟨CV,be⟩=>?_;obtain⟨n,o,t,rfl,_,_,_⟩:=CV.ints.open;have aQ:B i i bJ:=q IS be;refine B8 _ _ (.mk aQ) ?_;refine mS ?_;have G8:=aQ;have E4:∀b,(S n o t).ownBlock=A b->b≠(G:N):=λb e f=>Y ((CV.lt b e).1)
   have hF:∀j,j<13->aH bJ ⟨G,j,Z⟩=F:=λj aS=>aY be O (hF j aS);have B4:=B4.bw be;have E5:(i:N)<=G:=IR.size;exact sD
  have⟨G,eH,aV,fu,B4,hF⟩:=rq i;have cT:=q aV (an G);go_simp;try rw[eH]
  refine B8 _ _ (.mk cT) ?_;refine aU λCQ B8=>?_;go_simp;refine mF (dG _ cT) λbG aI aN aP ⟨aD,cc⟩=>?_;have IR:B i i bG:=q cT cc;refine B8 _ _ (.mk IR) ?_;refine aU λCQ B8=>?_;go_simp;refine mE (cS _ _ aD.di) λbJ cd ⟨CV,be⟩=>?_;obtain⟨n,o,t,rfl,_,_,_⟩:=CV.ints.open;have aQ:B i i bJ:=q IR be;refine B8 _ _ (.mk aQ) ?_;refine mS ?_;have G8:=aQ;have dQ:B G G bJ:=q (q (an G) cc) be;have E4:∀b,(S n o t).ownBlock=A b->b≠(i:N):=λb e f=>by have:=(CV.lt b e).1;have:=IR.size;have:=cc.size;have:(G.drew:N)=G:=J;omega
  have hF:∀j,j<13->aH bJ ⟨i,j,Z⟩=F:=λj aS=>aY dQ O (hF j aS);have B4:=B4.bw dQ;have E5:(i:N)<=i:=aL _;exact sD
 obtain⟨gk,n,o,t,dR,rfl,B4,dS,CV,cU,IJ,dT,cV⟩:=hcut;change H _ at cV;have eI:(gu g).length<=1000000:=by unfold gu;rw[ol,de,dH];exact eC
 have dU:=Q (yo (S n o t) (gu g) wc CV.ints O);have⟨aF,cW⟩:=K (kX (gu g));rw[<-cW]at dU;have Fa:=B4 7 _ J;have eJ:=Q CV;have dV:=Q B4;have cX:=Q dT;change H _ at cU IJ cW eI;clear dT;change H _ at dS;clear B4 CV CI Ce El Em En DJ Fq;go_wp2_with fail;refine mU dU λcY b5=>?_;have cZ:=dV.bw b5;have c0:∀j,j<13->aH cY ⟨gk,j,Z⟩=F:=λj aS=>aY b5 dV.lt (dS j aS);have Fb:=cZ 8 _ J;have Fk:=c0 8 O;have⟨aW,ce⟩:=K (aj cY ⟨gk,8,Z⟩ (au aF));have dW:ax aW gk (pu GX GY G0 G2 (S EY I9 E0) (S E1 E2 E3) (S G6 J0 G7) (S n o t) aF (S Z 0 0) 0 (S Z 0 0) (S Z 0 0)):=by rw[ce];have:=cZ.set 8 (au aF) D;simpa using this
 have c2:M (λb=>b=gk) cY aW:=by rw[ce];exact M.grown (bn _ _ _) (λc f=>X f.symm)
 have c4:=dO.start (I9:=I9) (I0:=k) (cap:=G0) (len:=G2) (Jj:=g) dW (λj aS=>by rw[ce,bs];exact c0 j aS);have c5:B i i aW:=(cX.trans (b5.mono cX.size)).trans (c2.bg (bi cX.size b5.size) λb e f=>Y IJ.oo);have dY:ay aW dR (S n o t) (gu g):=(eJ.bw b5).bl c2 (λb e f=>cU b e f);have eK:=bk c5 (aR _ _ dM) dM;have d1:(l:N)<i:=Y cA.oo
 have IL:=Q c5;have d3:=Q dY;change H _ at c4;clear c5 dY;change H _ at ce;clear cZ c0 c2 dW b5 Fa;go_upto_region 3 with fail;rw[<-ce];clear Fb Fk;go_wp2_with fail;clear eK;have⟨aE,IK⟩:=K (aW:N);rw[<-IK]at c4;change H _ at IK;go_loopw [22] (λc6 wr=>∃(c:N) (b6 aG b7:V),c6=(c:I)/\c<=J0/\dO gk aE aW GX GY G0 G2 (S EY I9 E0) (S E1 E2 E3) (S G6 J0 G7) (S n o t) aF I9 k G0 G2 g c c c c wr b6 aG b7) (λc6 _=>J0-(aw c6).toNat);exact⟨0,_,_,_,J,a3 _,c4⟩;obtain⟨c,b6,aG,b7,rfl,cB,h⟩:=hrel;obtain⟨a0,rfl⟩:=K wr;have bK:B i i a0:=IL.trans (h.aO.bg IL.size λb e f=>sp);have bL:B l l a0:=dL.trans (bK.mono (Y cA.oo));by_cases Ch:c<J0
 ·obtain⟨eL,eM,aI,aN,aP,rfl,JC,hp⟩:=dJ c Ch;have JC:=s bL JC;have fw:=aJ c;have fx:(c:I)<J0:=by omega
  have⟨eN,d4,cg,eO,bE⟩:=d0 a0 (S aI aN aP);have d5:=h.next cg;have eQ:=h.gB;have ch:∀b,(af b6=A b\/af aG=A b\/af b7=A b)->b<(a0:N):=λb e=>by rcases e with e|e|e;exact(bI h.o9 b e).2;exact(h.gv.lt b e).2;exact(h.gw.lt b e).2
  have c7:=hp.bw (q bL cg);have d6:=Q hp;have d7:=q bL cg;have cC:=cN c;have⟨bf,cD⟩:=K (ah g c);rw[<-cD]at c7 cC;have d8:=Q (ey.oo eN _ bf d7 c7 cC);have⟨cj,cE⟩:=K (cf I9 k G0 G2 bf);rw[<-cE]at d8;have b8:c<L g:=c1
  have cF:=OF I9 k G0 G2 g c b8;have b9:=OG I9 k G0 G2 g c b8;have cG:=OH g c b8;have cH:=OI k g c b8;have d9:=yq I9 k G0 G2 g c;rw[Da]at d9;rw[<-cD]at cF b9 cG cH;rw[<-cE]at cF b9;have⟨CI,Ce,El,Em,En,DJ⟩:=dK.lower (bK.trans (cg.mono bK.size)) d1;have d':=Q (U cD cE);have eR:=Q d5;change H _ at cF cG cH d7;change H _ at d4 c7 b9;clear h bK bL hp cD cE cg eO d5;go_upto_region 6 with fail;rw[d4];have⟨a1,eb⟩:=K (a0:N);rw[<-eb]at bE eQ ch⊢;change H _ at ch;change H _ at eb;clear JC;go_wp2_with fail;refine mU d8 λeT c9=>?_;have cI:=eR.next c9;have c':=s c9 bE;have Fe:=cI.aA 10 _ J;have Fm:=cI.bH 10 O;have fy:gk<a1:=O
  have eU:((fh I9 k G0 G2 g c:N):I)<=1000000:=O
  have ec:=Q cI;have⟨eV,da⟩:=K (fh I9 k G0 G2 g c);rw[<-da]at Fe eU b9;change H _ at da;clear cI c9 CI Ce El Em En DJ bE d9;go_upto_if 30 with fail;go_cut [] (λbF=>dO gk aE aW GX GY G0 G2 (S EY I9 E0) (S E1 E2 E3) (S (A ⟨eL,eM,Z⟩) J0 G7) (S n o t) aF I9 k G0 G2 g c (c+1) c c bF b6 aG b7/\C bF a1=A (S aI aN aP));case first=>
   by_cases b':cj=0
   ·have B9:(cj !=0)=F:=by simpa using b'
    have cl:fh I9 k G0 G2 g (c+1)=fh I9 k G0 G2 g c:=by rw[b9,am b',<-da];rfl
    have a2:=ec.same cl;change H _ at a2;clear cl b';go_wp2;go_meet;exact⟨a2,c'⟩
   have B9:(cj !=0)=T:=X b'
   have cl:((fh I9 k G0 G2 g (c+1):N):I)=(eV:I)+1:=by rw[b9,ak b'];omega
   have a2:=ec.bad (kb':=c+1);rw[cl]at a2;have ed:=λ(cd:V)=>(M.grown (I':=λb=>b=gk) (bn eT ⟨gk,10,Z⟩ cd) (λb f=>X f.symm)).cell c' O;change H _ at a2 ed;clear cl b';go_wp2;go_meet;exact⟨a2,ed _⟩
  case rest=>
  obtain⟨ca,db⟩:=hcut;obtain⟨dc,rfl⟩:=K wc;clear c' Fe Fm;have ee:=Q (λ(cm:W) (cB:M (λb=>b=gk\/aE<=b) aW cm)=>(dL.trans ((IL.trans (cB.bg IL.size λb e f=>sp)).mono (Y cA.oo)):B l l cm));have eW:=Q (λ(cm:W) (cB:M (λb=>b=gk\/aE<=b) aW cm)=>(IL.trans (cB.bg IL.size λb e f=>sp):B i i cm));obtain⟨bh,bm,bo,dd⟩:∃ad J0 y,b6=S ad J0 y:=by rcases bW ca.o9 with⟨rfl,_⟩|⟨df,dX,rfl,_⟩<;>exact⟨_,_,_,J⟩
  obtain⟨bq,br,bu,dg⟩:∃ad J0 y,aG=S ad J0 y:=gM ca.gv;obtain⟨bx,bA,bB,dh⟩:∃ad J0 y,b7=S ad J0 y:=gM ca.gw;subst dd;subst dg;subst dh;have Fc:=ca.aA 9 _ J;have fB:(dc:N)≥a1+1:=by have:=aR _ _ db;simp only at this;omega
  have⟨eX,dj,dk,eY,u0⟩:=Qx dc cj;have dl:=ca.next dk;have ef:=s dk db;have bM:=Q (d2 u0);have eZ:=dl.gB.2;have bN:=Q dl;replace dj:=Q dj;change H _ at ca ef;clear dl dk eY u0;go_wp2_with (at_builtin;rw[dj];refine fr J _ _ 201 28 (0:I) 1 8 underlying201 yr J av av J eX aE (S bh bm bo) c _ [cj] dc J J bM J eP bN.o9 O eZ ?_);intro df Ce e0 bC cn e1 bD e2 co;have dm:=bN.Wq (Ju:=Ce) (by rw[cF,ck];exact bC) cn bD;have dn:A gk≠(S bh bm bo).ownBlock:=λf=>bi ((bI bN.o9 gk f.symm).1) bN.gB.1
  have Fc:=cn.cell (bN.aA 9 _ J) dn;have Fl:=eS cn bN.aA.lt dn (bN.bH 9 O);have eg:=cn.cell ef (λf=>Y (ch a1 (.inl f.symm)));have⟨cp,cJ⟩:=K (aj e0 ⟨gk,9,Z⟩ (S (A df) (c+1) Ce));rw[<-cJ]at dm;have eh:C cp a1=A (S aI aN aP):=by rw[cJ,cq _ _ _ _ sn];exact eg
  change H _ at cJ dm;clear bC e1 bD e2 co cn dn db;go_upto_region 10 with fail;rw[<-cJ];clear Fc Fl eg;have dq:=dm;have ei:=ee cp dq.aO;have ej:ba cp (S aI aN aP) bf:=by rw[d'.1];exact d6.bw ei
  have bO:=Q (ez.oo cp.drew _ bf (ej.bw (an _)) cC);have⟨cr,B4⟩:=K (gf bf);rw[<-B4]at bO cG;have dr:=dq.aA 11 _ J;clear B4;refine bv [0,101,102,203,204,305,6,307] ?_;iterate 3 refine mS ?_
  refine aU λCQ B8=>?_;go_simp;refine mU bO λek a8=>?_;have P:=q (an cp) a8;refine B8 _ _ (.mk P) ?_;have⟨e3,cs,al,b3,u0⟩:=iz ek cr;have aV:=q P al;refine aU λCQ B8=>?_;go_simp;try rw[cs]
  refine B8 _ _ (.mk aV) ?_;have h:=dq.next aV;have bP:A gk≠(S bq br bu).ownBlock:=λf=>bi ((h.gv.lt gk f.symm).1) h.gB.1
  have bS:=h.aA 11 _ J;have bT:=h.bH 11 O;have a4:=s aV eh;have bU:=Q h;have bM:=Q (d2 u0);have ct:=h.gB.2;have cu:=h.aA.lt;clear h u0 a8 P al b3 cs dr ej ei;refine b4 λCQ B8=>?_;refine iy (.tmp 42) (.tmp 45) 22 3 _ 1 8 underlying22 hR J av av J e3 aE (S bq br bu) c _ [cr] ek J J bM J eP (zb bU.gv (ud g c O)) O ct ?_;intro g2 El e4 bC ae bD co;have hp:=bU.Wr (Ju:=El) b8 (za (by rw[cG,ck];exact bC) (ud g (c+1) O)) ae bD;have bS:=ae.cell bS bP;have bT:=eS ae cu bP bT;have a4:=ae.cell a4 (λf=>Y (ch a1 (.inr<| .inl f.symm)));refine B8 _ _ ?_;clear bC bD co ae bP;refine mS ?_;refine b4 λCQ B8=>?_;go_simp;have⟨bV,a5⟩:=K (aj e4 ⟨gk,11,Z⟩ (S (A g2) (c+1) El));try rw[<-a5]
  refine B8 _ _ ?_;refine bc ?_;rw[<-a5]at hp;have el:C bV a1=A (S aI aN aP):=by rw[a5,cq _ _ _ _ sn];exact a4
  have cK:=Q hp;clear a5 hp bS bT a4 bU bO eh cu ct bM;go_upto_region 11 with fail;have cL:=ee bV cK.aO;have em:ba bV (S aI aN aP) bf:=by rw[d'.1];exact d6.bw cL
  have bO:=Q (eA.oo bV.drew _ bf (cL.trans ((an bV).mono cL.size)) (em.bw (an _)) cC);have⟨CI,Ce,El,Em,En,DJ⟩:=dK.lower (eW bV cK.aO) d1;have⟨cr,B4⟩:=K (b2 k bf);rw[<-B4]at bO cH;have dr:=cK.aA 12 _ J;clear B4;refine bv [0,101,102,103,204,205,306,7,308] ?_;iterate 4 refine mS ?_
  refine aU λCQ B8=>?_;go_simp;refine mU bO λen a8=>?_;have P:=q (an bV) a8;refine B8 _ _ (.mk P) ?_;have⟨e5,cs,al,b3,u0⟩:=iz en cr;have aV:=q P al;refine aU λCQ B8=>?_;go_simp;try rw[cs]
  refine B8 _ _ (.mk aV) ?_;have h:=cK.next aV;have bP:A gk≠(S bx bA bB).ownBlock:=λf=>bi ((h.gw.lt gk f.symm).1) h.gB.1
  have bS:=h.aA 12 _ J;have bT:=h.bH 12 O;have a4:=s aV el;have bU:=Q h;have bM:=Q (d2 u0);have ct:=h.gB.2;have cu:=h.aA.lt;clear h u0 a8 P al b3 cs dr em cL;refine b4 λCQ B8=>?_;refine iy (.tmp 49) (.tmp 53) 22 3 _ 1 8 underlying22 hR J av av J e5 aE (S bx bA bB) c _ [cr] en J J bM J eP (zb bU.gw (ue k g c O)) O ct ?_;intro g2 El e6 bC ae bD co;have ds:=bU.Ws (Ju:=El) b8 (za (by rw[cH,ck];exact bC) (ue k g (c+1) O)) ae bD;have bS:=ae.cell bS bP;have bT:=eS ae cu bP bT;have a4:=ae.cell a4 (λf=>Y (ch a1 (.inr<| .inr f.symm)));refine B8 _ _ ?_;clear bC bD co ae bP;refine mS ?_;refine b4 λCQ B8=>?_;go_simp;have⟨e7,a5⟩:=K (aj e6 ⟨gk,12,Z⟩ (S (A g2) (c+1) El));try rw[<-a5]
  refine B8 _ _ ?_;refine bc ?_;rw[<-a5]at ds;have fC:C e7 a1=A (S aI aN aP):=by rw[a5,cq _ _ _ _ sn];exact a4
  change H _ at ds;clear a5 bS bT a4 bU bO el cu ct bM;go_wp2;go_roundw;case rel=>exact⟨c+1,_,_,_,aK,O,ds⟩
  exact bY
 have e8:c=J0:=O
 subst e8;obtain⟨bh,bm,bo,dd⟩:∃ad J0 y,b6=S ad J0 y:=by rcases bW h.o9 with⟨rfl,_⟩|⟨df,dX,rfl,_⟩<;>exact⟨_,_,_,J⟩
 obtain⟨bq,br,bu,dg⟩:∃ad J0 y,aG=S ad J0 y:=gM h.gv;obtain⟨bx,bA,bB,dh⟩:∃ad J0 y,b7=S ad J0 y:=gM h.gw;subst dd;subst dg;subst dh;have e9:=cA.oo;have u:=eD.lower bK O;have v:∀j,j<13->aH a0 ⟨(l:N)+1+1,j,Z⟩=F:=λj aS=>ex bK O (cQ j aS);have⟨eo,dt⟩:=K ((l:N)+1+1);rw[<-dt]at u v;obtain⟨bX,du⟩:∃bX:I,bX=(fh I9 k G0 G2 g c:N):=⟨_,J⟩
 have w:=h.aA;rw[<-du]at w;have⟨dv,dw⟩:=K (jg a0 eo GX GY G0 G2 (S EY I9 E0) (S E1 E2 E3) (S G6 c G7) (S n o t) (au aF) (S bh bm bo) (bX:I) (S bq br bu) (S bx bA bB));have x:=ys u J (aa ac GX) (aa ac GY) G0 G2 (S EY I9 E0) (S E1 E2 E3) (S G6 c G7) (S n o t) (au aF) (S bh bm bo) (bX:I) (S bq br bu) (S bx bA bB);have bZ:=tW a0 eo GX GY G0 G2 (S EY I9 E0) (S E1 E2 E3) (S G6 c G7) (S n o t) (au aF) (S bh bm bo) (bX:I) (S bq br bu) (S bx bA bB);rw[<-dw]at x bZ;have e':=IK.oo;have fa:=IL.size;have dx:B l l dv:=bL.trans (bZ.bg bL.size λb e f=>O);have cv:L g=c:=Da;have dy:ay a0 dR (S n o t) (gu g):=d3.bl h.aO (λb e f=>by rcases f with f|f;exact cU b e f;have:=(d3.lt b e).2;omega);have dz:=dy.bl bZ (λb e f=>bi ((dy.lt b e).1) cV.oo);have dA:∀m,M (λb=>b<(l:N)) dv m->bb m (S G6 c G7) g->j8 m I9 k G0 G2 g (S G6 c G7) (S n o t) aF (S bh bm bo) bX (S bq br bu) (S bx bA bB):=by intro m aC fb;have ep:=c3 h.o9 bZ (λb e f=>Y ((bI h.o9 b e).1));have eq:=h.gv.bl bZ (λb e f=>Y ((h.gv.lt b e).1));have er:=h.gw.bl bZ (λb e f=>Y ((h.gw.lt b e).1));refine⟨fb,(dz.bl aC (λb e f=>bi ((dz.lt b e).1) cV.oo)).ints,cW,?_,?_,?_,?_⟩;rw[cv];exact(aX.own (c3 ep aC (λb e f=>Y ((bI ep b e).1)))).1;rw[cv];exact du;rw[cv];exact(eq.bl aC (λb e f=>Y ((eq.lt b e).1))).ints;rw[cv];exact(er.bl aC (λb e f=>Y ((er.lt b e).1))).ints
 have a2:=dA dv (M.refl _ _) (eB.bw dx);have fD:=w 0 _ J;have fE:=w 1 _ J;have fF:=w 2 _ J;have fG:=w 3 _ J;have fH:=w 4 _ J;have fI:=w 5 _ J;have fJ:=w 6 _ J;have fK:=w 7 _ J;have fL:=w 8 _ J;have fM:=w 9 _ J;have fN:=w 10 _ J;have fO:=w 11 _ J;have fP:=w 12 _ J;have Ct:=u 0 _ J;have Fh:=v 0 O;have Cv:=u 1 _ J;have g1:=v 1 O;have E6:=u 2 _ J;have g2:=v 2 O;have E7:=u 3 _ J;have g3:=v 3 O;have E8:=u 4 _ J;have CW:=v 4 O;have E9:=u 5 _ J;have CK:=v 5 O;have E':=u 6 _ J;have Fi:=v 6 O;have Fa:=u 7 _ J;have Fj:=v 7 O;have Fb:=u 8 _ J;have Fk:=v 8 O;have Fc:=u 9 _ J;have Fl:=v 9 O;have Fe:=u 10 _ J;have Fm:=v 10 O;have Ff:=u 11 _ J;have Fo:=v 11 O;have Fg:=u 12 _ J;have Fp:=v 12 O;change H _ at a2 dA dx;change H _ at x dw dt;clear h bK bL u v w bZ dy dz du cv e9 e' fa;try rw[<-dt]
 go_wp2_with fail;have Db:=dw.oo;unfold jg at Db;rw[<-Db];have fc:=x 0 _ J;have fd:=x 1 _ J;have fe:=x 2 _ J;have ff:=x 3 _ J;have fg:=x 4 _ J;have fi:=x 5 _ J;have fj:=x 6 _ J;have fk:=x 7 _ J;have fl:=x 8 _ J;have fm:=x 9 _ J;have fn:=x 10 _ J;have fo:=x 11 _ J;have fp:=x 12 _ J;exact b0 (v:=ao #[GX,GY,G0,G2,S EY I9 E0,S E1 E2 E3,S G6 c G7,S n o t,au aF,S bh bm bo,(bX:I),S bq br bu,S bx bA bB]) (by simp[results,results271,go_sem,fc,fd,fe,ff,fg,fi,fj,fk,fl,fm,fn,fo,fp]) J ⟨_,_,_,_,_,_,_,_,_,_,_,_,_,_,J,a2,dx,dA⟩
end
section
section
variable{abG:cb}{abH:Array bd}{abI:Region.Mode}{abJ:W->Prop}{abK:bJ}
def zd{f:N}{b:bd}{d:V}{c:a'}(i:abH[f]? =A b)(j:YieldsIf abG abH abJ b d c){g:a'->W->Prop}{a:W}(k:abJ a)(h:g (c.put b.dst d) a):wpOpIn Fence.wide 0 abG abH abK f g c a:=by unfold Go.wpOpIn;simp only[i];rcases j with⟨e,l⟩|⟨e,rfl⟩;simp only[e,if_true];refine⟨λm _=>trivial,?_⟩;have n:(b.semAt Fence.wide.round c.eval).run abG a= .ok (.value d) a:=l a k;rw[n];exact h;simp only[e,gL,if_false];exact⟨λm _=>trivial,h⟩
def Qz{n:N}{e f:bd}{b:V}(D:abH[n]? =A f)(G:e.apart abH f=T)(H:∀o p,e.op≠.select o p)(K:∀o p,f.op≠.select o p)(q:∀l a k,abK (.panic l) (a.put e.dst b) k->abK (.panic l) a k){v:a'->W->Prop}{a:a'}{k:W}(g:YieldsIf abG abH abJ e b a)(c:wpOpIn Fence.wide 0 abG abH abK n v (a.put e.dst b) k):wpOpIn Fence.wide 0 abG abH abK n (λw r=>YieldsIf abG abH abJ e b w/\v (w.put e.dst b) r) a k:=by
 have⟨x,i,y⟩:=Oper.apart_spec G;have j:∀(a:a'),YieldsIf abG abH abJ e b a->∀d,YieldsIf abG abH abJ e b (a.put f.dst d):=λa g d=>g.of_same (execOp_put e H a f.dst d y) (wanted_put e a f.dst d y);have M:∀m,YieldsIf abG abH abJ e b {a with defers:=m::a.defers}:=λm=>g.of_same J J;unfold wpOpIn at*;simp only[D]at*;rw[wanted_put f a e.dst b x]at c;split
 ·rename_i s;simp only[s,if_true]at c;refine⟨λt _=>trivial,?_⟩;have c:=c.2;have O:f.semAt Fence.wide.round (a.put e.dst b).eval=execOp (a.put e.dst b).eval f:=J;have P:f.semAt Fence.wide.round a.eval=execOp a.eval f:=J;rw[O,execOp_put f K a e.dst b x]at c;rw[P];generalize(execOp a.eval f).run abG k=Q at*;cases Q with
   |ok R r=>
    cases R<;>simp only[Oper.uponIn]at c⊢;case value d=>exact⟨j a g d,by rw[<-Act.put_comm a b d i];exact c⟩
    case skip=>exact⟨j a g _,by rw[<-Act.put_comm a b undef i];exact c⟩
    case defer m=>refine⟨j _ (M m) _,?_⟩;rw[<-Act.put_comm _ b undef i,<-Act.put_defers];exact c
    case enter t args=>
     refine⟨c.1,CallsIn.mono c.2 λu z h=>?_⟩;cases u with
      |returned d=>exact⟨j a g d,by rw[<-Act.put_comm a b d i];exact h⟩
      |panicked l=>exact q _ _ _ h
      |outgrown=>exact h
    case row Y args=>exact⟨c.1,RowsIn.mono c.2 λd z h=>⟨j a g d,by rw[<-Act.put_comm a b d i];exact h⟩⟩
    case round ad t ae ag ah=>
     refine⟨c.1,RoundIn.mono c.2 λu z h=>?_⟩;cases u with
      |returned d=>exact⟨j a g d,by rw[<-Act.put_comm a b d i];exact h⟩
      |panicked l=>exact q _ _ _ h
      |outgrown=>exact h
   |halt U r=>cases U<;>simp only[Oper.uponIn]at c⊢;case panic d=>exact q _ _ _ c
 rename_i s;simp only[s]at c;exact⟨λt _=>trivial,j a g _,by rw[<-Act.put_comm a b undef i];exact c.2⟩
def ov(abG:cb)(abH:Array bd)(abK:bJ)(abJ:W->Prop)(f:N)(c:a'->W->Prop)(b:a')(d:W):Prop:=∃a,abH[f]? =A a/\if Region.wanted a (yielded abH b.tmps)then a.wpIn Fence.wide 0 abG b d (λg e=>abJ e/\c g e) abK else c (b.put a.dst undef) d
def fK(abG:cb)(abH:Array bd)(abK:bJ)(abJ:W->Prop):Mo->a'->W->Prop
 | .d,b,c=>abK .normal b c
 | .p g h,b,c=>qM abG abH pb g (λe=>fK abG abH abK abJ h e c) b
 | .r g h,b,c=>qM abG abH abJ g (λe=>fK abG abH abK abJ h e c) b
 | .a g h,b,c=>ov abG abH abK abJ g (λe i=>fK abG abH abK abJ h e i) b c
 | .z g h,b,c=>ov abG abH abK (λ_=>True) g (λe i=>fK abG abH abK abJ h e i) b c
 | .f g h j k,b,c=>ov abG abH abK abJ g (λe i=>fK abG abH abK abJ h e i) b c/\ov abG abH abK abJ j (λe i=>fK abG abH abK abJ k e i) b c
def pN{abK:bJ}{e:N}{b:bd}{f:Mo}{a:a'}{g:W}(h:abH[e]? =A b) (c:∀d:a'->Prop,(∀a,fK abG abH abK abJ f a g->d a)->if Region.wanted b (yielded abH a.tmps)then nZ abG b a pb d else d (a.put b.dst undef)):fK abG abH abK abJ (.p e f) a g:=⟨b,h,c _ (λ_ c=>c)⟩
def uf{abK:bJ}{e:N}{b:bd}{f:Mo}{a:a'}{g:W}(h:abH[e]? =A b) (c:∀d:a'->Prop,(∀a,fK abG abH abK abJ f a g->d a)->if Region.wanted b (yielded abH a.tmps)then nZ abG b a abJ d else d (a.put b.dst undef)):fK abG abH abK abJ (.r e f) a g:=⟨b,h,c _ (λ_ c=>c)⟩
def QA{abK:bJ}{d:N}{c:bd}{e:a'->W->Prop}{a:a'}{b:W}(g:abH[d]? =A c)(h:Region.wanted c (yielded abH a.tmps)=T) (i:∀f:a'->W->Prop,H (∀a b,abJ b->e a b->f a b)->c.wpIn Fence.wide 0 abG a b f abK):ov abG abH abK abJ d e a b:=⟨c,g,by rw[am h];exact i _ (λ_ _ j k=>⟨j,k⟩)⟩
def QB{abK:bJ}{e:N}{d:bd}{f:Mo}{b:a'}{c:W}(h:abH[e]? =A d)(i:Region.wanted d (yielded abH b.tmps)=T) (j:∀g:a'->W->Prop,H (∀b c,abJ c->fK abG abH abK abJ f b c->g b c)->d.wpIn Fence.wide 0 abG b c g abK):fK abG abH abK abJ (.a e f) b c:=QA h i j
def k7(abG:cb)(abI:Region.Mode)(abH:Array bd)(abK:bJ)(abJ:W->Prop)(e:br):N->Array Bool->a'->W->Prop
 |0,a,c,b=>Region.ready abI abH a=[]/\abK .normal c b
 |fuel+1,a,c,b=>(Region.ready abI abH a=[]->abK .normal c b)/\∀d∈Region.ready abI abH a,wpOpIn Fence.wide 0 abG abH abK d (λg f=>(d∉e->abJ b->abJ f)/\k7 abG abI abH abK abJ e fuel (a.setIfInBounds d T) g f) c b
def ze{abK:bJ}{KE:br}:∀(fuel:N)(b:Array Bool)(c:a')(d:W),k7 abG abI abH abK abJ KE fuel b c d->wpAnyIn Fence.wide 0 abG abI abH abK fuel b c d
 |0,_,_,_,a=>a
 |fuel+1,_,_,_,a=>⟨a.1,λe f=>wpOpIn_mono (λg h i=>ze fuel _ g h i.2) (a.2 e f)⟩
def rK{abK:bJ}{Jj:W->Prop}{x:br}{d:N}{l:bd}{s:V}(y:abH[d]? =A l)(G:∀(a:N)(H:bd) o p,abH[a]? =A H->H.op≠.select o p)(U:∀t e X s c,abK (.panic t) (e.put X s) c->abK (.panic t) e c)(Y:∀(a:N)(b:Array Bool)(c q:W),he abI abH b->b.getD d T=F->a∈Region.ready abI abH b->Jj c->(a∉x->abJ c->abJ q)->Jj q):∀(fuel:N)(b:Array Bool)(e:a')(c:W),he abI abH b->(∀a i,abH[a]? =A i->a≠d->b.getD a T=F->(∀f∈i.after,Region.binds abI f=T->f.on≠d)->l.apart abH i=T)->d∈Region.ready abI abH b->YieldsIf abG abH Jj l s e->Jj c->k7 abG abI abH abK abJ x fuel (b.setIfInBounds d T) (e.put l.dst s) c->k7 abG abI abH abK abJ x (fuel+1) b e c:=by
 intro fuel;induction fuel with
  |zero=>intro b e c _ _ g u v r;refine⟨λj=>(by rw[j]at g;cases g),λa m=>?_⟩;by_cases h:a=d;subst h;exact zd y u v ⟨λ_ j=>j,r⟩;have:=ready_mono m h;rw[r.1]at this;cases this
  |succ fuel ad=>
   intro b e c K M g u v r;refine⟨λj=>(by rw[j]at g;cases g),λa m=>?_⟩;by_cases h:a=d;subst h;exact zd y u v ⟨λ_ j=>j,r⟩;have k:=r.2 a (ready_mono m h);have⟨O,i,z,ae⟩:=mem_ready.1 m;have ag:∀f∈i.after,Region.binds abI f=T->f.on≠d:=λf ah ai ak=>by have k:=ae f ah ai;have P:=(mem_ready.1 g).1;rw[ak]at k;rcases Nat.lt_or_ge d b.size with D|D;simp[D]at P k;rw[P]at k;cases k;simp[Array.getElem?_eq_none D]at k
   have al:∀n ok,abH[n]? =A ok->n≠d->(b.setIfInBounds a T).getD n T=F->(∀f∈ok.after,Region.binds abI f=T->f.on≠d)->l.apart abH ok=T:=λn ok am an Q ar=>by refine M n ok am an ?_ ar;by_cases R:a=n;subst R;exact O;rw[getD_set_ne T R]at Q;exact Q
   refine wpOpIn_mono (λav q w=>⟨w.2.1,ad (b.setIfInBounds a T) av q (K.set m) al (ready_mono g (Ne.symm h)) w.1 (Y a b c q K (mem_ready.1 g).1 m v w.2.1) ?_⟩) (Qz z (M a i z h O ag) (λo p=>G d l o p y) (λo p=>G a i o p z) (λt e c=>U t e _ _ c) u k);rw[Array.setIfInBounds_comm _ _ h];exact w.2.2
def rL{abK:bJ}{e:br}{g:W->Prop}{c j:N}{k:Array Bool}{l:a'->W->Prop}{h:a'}{f:W}(o:c∉e->∀a,g a->abJ a)(m:∀d a,(g a\/a=f)->l d a->k7 abG abI abH abK abJ e j (k.setIfInBounds c T) d a)(b:ov abG abH abK g c l h f):wpOpIn Fence.wide 0 abG abH abK c (λd a=>(c∉e->abJ f->abJ a)/\k7 abG abI abH abK abJ e j (k.setIfInBounds c T) d a) h f:=by obtain⟨p,q,b⟩:=b;unfold wpOpIn;simp only[q];by_cases n:Region.wanted p (yielded abH h.tmps)=T;rw[am n]at b⊢;exact(Oper.wpIn_mono (λd a i=>⟨λr _=>o r a i.1,m d a (.inl i.1) i.2⟩) b);rw[ak n]at b⊢;exact⟨λs _=>trivial,λ_ b=>b,m _ _ (.inr J) b⟩
def nm{abK:bJ}{x:br}(v:Region.noSelect abH=T)(M:hd abI abH x=T)(w:∀ar j aD ag c,abK (.panic ar) (j.put aD ag) c->abK (.panic ar) j c):∀(e:Mo)(h:Array Bool)(j:a')(c:W),he abI abH h->e.fq=T->dg abI abH x e h=T->(e.mH=F->abJ c)->fK abG abH abK abJ e j c->k7 abG abI abH abK abJ x e.len h j c
 | .d,_,_,_,_,_,k,_,b=>⟨by simpa[dg]using k,b⟩
 | .p o e,h,j,c,m,q,k,H,b=>by
  simp only[dg,cr]at k;obtain⟨⟨g,U⟩,O⟩:=k;obtain⟨ah,y,b⟩:=b;have P:o∈Region.ready abI abH h:=X g
  have Y:∀i,fK abG abH abK abJ e i c->k7 abG abI abH abK abJ x e.len (h.setIfInBounds o T) i c:=λi s=>nm v M w e _ i c (m.set P) q O H s;by_cases t:Region.wanted ah (yielded abH j.tmps)=T;rw[am t]at b;obtain⟨ag,Q,ai⟩:=b;exact rK (Jj:=λ_=>True) y (Region.noSelect_spec v) w (λ_ _ _ _ _ _ _ _ _=>trivial) e.len h j c m (Region.free_spec y U) P (.inl ⟨t,λl _=>qL (Q l (w6 l))⟩) trivial (Y _ ai);rw[ak t]at b;exact rK (Jj:=λ_=>True) y (Region.noSelect_spec v) w (λ_ _ _ _ _ _ _ _ _=>trivial) e.len h j c m (Region.free_spec y U) P (.inr ⟨X t,J⟩) trivial (Y _ b)
 | .r o e,h,j,c,m,q,k,H,b=>by
  simp only[dg,cr]at k;obtain⟨⟨⟨g,U⟩,n⟩,O⟩:=k;obtain⟨ah,y,b⟩:=b;have K:=H J;have P:o∈Region.ready abI abH h:=X g
  have Y:∀i,fK abG abH abK abJ e i c->k7 abG abI abH abK abJ x e.len (h.setIfInBounds o T) i c:=λi s=>nm v M w e _ i c (m.set P) q O (λ_=>K) s;have av:∀(u:N) (h:Array Bool) (c l:W),he abI abH h->h.getD o T=F->u∈Region.ready abI abH h->abJ c->(u∉x->abJ c->abJ l)->abJ l:=λu h c l ax ay G t aE=>aE (λae=>by
   rw[Bool.or_eq_true]at n;cases x with
    |nil=>cases ae
    |cons aF x=>rcases n with n|n;simp at n;have⟨aG,aI⟩:=s7 ax _ _ n (getD_both ay);rcases cK.1 ae with rfl|ae;exact aI G;exact(s8 ax aF x M aG u ae).2 G) t
  by_cases t:Region.wanted ah (yielded abH j.tmps)=T;rw[am t]at b;obtain⟨ag,Q,ai⟩:=b;exact rK (Jj:=abJ) y (Region.noSelect_spec v) w av e.len h j c m (Region.free_spec y U) P (.inl ⟨t,λl aJ=>qL (Q l aJ)⟩) K (Y _ ai);rw[ak t]at b;exact rK (Jj:=abJ) y (Region.noSelect_spec v) w av e.len h j c m (Region.free_spec y U) P (.inr ⟨X t,J⟩) K (Y _ b)
 | .a o e,h,j,c,m,q,k,H,b=>by
  simp only[dg,cr,ez]at k;obtain⟨⟨g,n⟩,O⟩:=k;have K:=H J;refine⟨λQ=>absurd (g.symm.trans Q) D,λu G=>?_⟩;have:u=o:=by rw[g]at G;simpa using G
  subst this;exact rL (λ_ _ b=>b) (λi l ad s=>nm v M w e _ i l (m.set (by rw[g];simp)) q O (λ_=>by rcases ad with b|rfl;exact b;exact K) s) b
 | .z o e,h,j,c,m,q,k,H,b=>by
  simp only[dg,cr,ez]at k;obtain⟨⟨g,n⟩,O⟩:=k;have aA:e.mH=T:=q;refine⟨λQ=>absurd (g.symm.trans Q) D,λu G=>?_⟩;have:u=o:=by rw[g]at G;simpa using G
  subst this;exact rL (λR=>absurd (X n) R) (λi l _ s=>nm v M w e _ i l (m.set (by rw[g];simp)) (Mo.w7 e aA) O (λR=>by rw[aA]at R;cases R) s) b
 | .f o e u aK,h,j,c,m,q,k,H,b=>by
  simp only[dg,cr,Bool.or_eq_true,ez]at k;obtain⟨⟨⟨⟨⟨g,ay⟩,G⟩,aL⟩,aN⟩,aO⟩:=k;simp only[Mo.fq,cr]at q;have K:=H J;have an:o∈Region.ready abI abH h:=by rcases g with g|g<;>rw[g]<;>simp
  have aP:u∈Region.ready abI abH h:=by rcases g with g|g<;>rw[g]<;>simp
  refine⟨λR=>(by rw[R]at an;cases an),λaC n=>?_⟩;have n:aC=o\/aC=u:=by rcases g with g|g<;>rw[g]at n<;>simp at n<;>omega
  rcases n with rfl|rfl;exact rL (λ_ _ b=>b) (λi l ad s=>nm v M w e _ i l (m.set an) q.1 aN (λ_=>by rcases ad with b|rfl;exact b;exact K) s) b.1;exact rL (λ_ _ b=>b) (λi l ad s=>by rw[aL];exact nm v M w aK _ i l (m.set aP) q.2 aO (λ_=>by rcases ad with b|rfl;exact b;exact K) s) b.2
def QC{id:N}{abK:bJ}{d:a'}{c:W}{a:E bd}(b:Mo)(abJ:W->Prop)(h:abG.follows .mixedOrders=T)(e:(Region.noSelect a.toArray&&decide (b.len=L a)&&hd .any a.toArray b.zs&&b.fq&&dg .any a.toArray b.zs b (Array.replicate (L a) F))=T)(i:∀f d j k c,abK (.panic f) (d.put j k) c->abK (.panic f) d c)(l:abJ c.drew)(m:fK abG a.toArray abK abJ b d c.drew):(Code.region id a.toArray T).wp abG abK d c:=by refine wpIn_wide (n:=0).1 ?_;simp only[cr,ez]at e;obtain⟨⟨⟨⟨n,o⟩,p⟩,q⟩,r⟩:=e;refine wpIn_region_any h (ze (abJ:=abJ) (KE:=b.zs) _ _ _ _ ?_);have:=nm (abG:=abG) (abI:=.any) n p i b (Array.replicate (L a) F) d c.drew ⟨D,λu v _ g=>by rw[getD_replicate_false]at g;cases g⟩ q r (λ_=>l) m;rw[o]at this;simpa using this
end
def QD{abJ:W->Prop}{a:a'}{b:W}{abG:cb}{abH:Array bd}{abK:bJ}(c:abK .normal a b):fK abG abH (lV abK) abJ .d a b:=c
def QE{abG:cb}{abK:bJ}{id:N}{d:a'}{c:W}{a:E bd}(b:Mo)(abJ:W->Prop)(g:abG.follows .mixedOrders=T) (h:(Region.noSelect a.toArray&&decide (b.len=L a)&&hd .any a.toArray b.zs&&b.fq&&dg .any a.toArray b.zs b (Array.replicate (L a) F))=T) (i:abJ c.drew) (e:fK abG a.toArray (lV abK) abJ b d c.drew):(Code.region id a.toArray T).wp abG abK d c:=wp_mono (QC b abJ g h (λ_ _ _ _ _ e=>e) i e) λj d c f=>by cases j<;>first|exact f|exact f.elim
end
section
attribute [local go_sem] Oper.semAt_some
def k8(b:ag)(a:N):I:=if 0<a then aB ((al b (a-1)).1+1)else 0
def kg(a:ag)(b:N):I:=if b<L a then aB ((al a b).1+1)else 0
def iL(c:ai)(a:ag)(d:I)(b:N):I:=aB (aB (bC c (k8 a b) (aB (d+1))+bC c (aB (d+1)) (kg a b))-bC c (k8 a b) (kg a b))
def fL(a:ai)(e:I)(f:N)(b:ag)(d:I):N->b7
 |0=>[]
 |c+1=>fL a e f b d c++if aB (b2 a b+iL a b d c)<=e then[((f:I),(c:I),iL a b d c)]else[]
def pO(b:N)(c:ai)(d e:I)(a:ar)(f:N):I:=(fh b c d e a (L a):I)-(if cf b c d e (ah a f)=13 then 1 else 0)
def jp(f:N)(c:ai)(d e:I)(b:ar)(g h:I)(a:N):b7:=if 0<pO f c d e b a\/d<aB (gf (ah b a)+h)then[]else fL c e a (ah b a) g ((ah b a).length+1)
def QF(c:N)(d:ai)(e f:I)(a:ar)(b:N)(g:b<L a):ae (j5 c d e f a (L a)) b=cf c d e f (ah a b):=by simp[j5,ae,ah,g]
def QG(a:ar)(b:N)(c:b<L a):ae (j6 a (L a)) b=gf (ah a b):=by simp[j6,ae,ah,c]
def QH(c:ai)(a:ar)(b:N)(d:b<L a):ae (j7 c a (L a)) b=b2 c (ah a b):=by simp[j7,ae,ah,d]
def QI(c:N)(d:ai)(e f:I)(b:ar)(a:N)(g:a<=L b):(j5 c d e f b a).length=a:=by simp[j5];omega
structure ia{d:Type}(g:E d->aD->W->Prop)(e h:aD)(i b:W)(f:aD)(k:E d)(wr:W):Prop where
 j:∃c,g k c wr/\(∀a,f a->¬c a)/\∀a,c a->e a\/(b:N)<=a
 aO:M e b wr
 bF:M h i wr
 gs:∀a,f a->(b:N)<=a/\a<(wr:N)
section
variable{abL:Type}{abM:cb}{abN:N}{abO:abL->Array V}{abP:N}{abQ:aD}{abR:E abL->aD->W->Prop}{abS abT:E abL}{abU abV:aD}{abW abX wr abY:W}{abZ:aD}
def ia.next(a:ia abR abU abV abW abX abZ abT wr)(f:dN abM abN abO abP abQ abR abS)(b:B wr wr abY):ia abR abU abV abW abX abZ abT abY:=by have⟨c,g,h,i⟩:=a.j;exact⟨⟨c,f.h3 _ _ _ _ g (M.bw b),h,i⟩,a.aO.trans (M.bw (I':=λ_=>False) b) I2 (λ_ _ k=>k.elim),a.bF.then b,λd e=>⟨(a.gs d e).1,cg (a.gs d e).2 b.size⟩⟩
def ia.part{j:E abL}{g h:aD}(e:ia abR abU abV abW abX abZ abT wr)(n:dN abM abN abO abP abQ abR abS)(hF:∀b,b<(abW:N)->¬abV b->abQ b)(o:abR abT g wr)(p:∀f,abZ f->¬g f)(k:∀f,g f->abU f\/(abX:N)<=f)(q:abR (abT++j) h abY)(i:M g wr abY)(l:∀b,h b->g b\/(wr:N)<=b):ia abR abU abV abW abX abZ (abT++j) abY:=by refine⟨⟨h,q,λc d r=>?_,λc d=>?_⟩,e.aO.trans i I2 (λb m a=>?_),e.bF.trans i I2 (λb m a=>Classical.byContradiction λs=>(n.own _ _ _ o b a).2 (hF b m s)),λc d=>⟨(e.gs c d).1,cg (e.gs c d).2 i.size⟩⟩;rcases l c r with a|a;exact p c d a;have:=(e.gs c d).2;omega;rcases l c d with a|a;exact k c a;exact .inr (a1 e.aO.size a);rcases k b a with a|a;exact a;omega
def ia.adI{KB:abL}{b Ja:aD}(c:ia abR abU abV abW abX abZ abT wr)(d:dN abM abN abO abP abQ abR abS)(hF:∀a,a<(abW:N)->¬abV a->abQ a)(e:abR abT b wr)(f:∀KB,abZ KB->¬b KB)(g:∀KB,b KB->abU KB\/(abX:N)<=KB)(h:abR (abT++[KB]) Ja abY)(i:M b wr abY)(j:∀a,Ja a->b a\/(wr:N)<=a):ia abR abU abV abW abX abZ (abT++[KB]) abY:=c.part d hF e f g h i j
end
def M.BI{abX abY:W}(a:M (λ_=>False) abX abY):B abX abX abY:=a.bg (aL _) (λ_ _ b=>b.elim)
def aX.nG{b:W}{c d e i:N}{f:ad}(j:aX b (S (A ⟨c,d,Z⟩) e i) f)(a:N)(m:a<e):C b ⟨c,d+a,Z⟩=A (aa ac (ae f a)):=by have⟨n,o,p,g,q,_,k⟩:=j.open;simp only[bf]at g;obtain⟨rfl,rfl,rfl⟩:=g;have⟨r,s,h,l⟩:=k a O;simp only[a2,bN]at h;obtain⟨rfl,rfl,_⟩:=h;exact l
def ba.BJ{c:W}{g:bz}{d i:N}{b:ag}(j:ba c (S g d i) b):L b=d/\∀a,a<d->∃e f,g=A ⟨e,f,Z⟩/\C c ⟨e,f+a*2,Z⟩=A (aa ac (al b a).1)/\C c ⟨e,f+a*2+1,Z⟩=A (aa ac (al b a).2):=by have⟨m,n,o,h,k,_,l⟩:=j.open;simp only[bf]at h;obtain⟨rfl,rfl,rfl⟩:=h;exact⟨k,l⟩
def bb.nG{e:W}{f g h l:N}{i:ar}(m:bb e (S (A ⟨f,g,Z⟩) h l) i)(a:N)(p:a<h):∃b c d,C e ⟨f,g+a,Z⟩=A (S b c d)/\ba e (S b c d) (ah i a):=by have⟨q,r,s,j,t,_,n⟩:=m.open;simp only[bf]at j;obtain⟨rfl,rfl,rfl⟩:=j;have⟨u,v,b,c,d,k,o,hp⟩:=n a O;simp only[a2,bN]at k;obtain⟨rfl,rfl,_⟩:=k;exact⟨b,c,d,o,hp⟩
def M.BK{abV:aD}{abX:W}(b:bQ)(d:V)(e:abV b.block):M abV abX (aj abX b d):=(M.grown (I':=λc=>c=b.block) (bn abX b d) (λc a=>X a.symm)).trans (M.refl (λ_=>False) _) (λc _ a=>by rw[a];exact e) (λ_ _ a=>a.elim)
def QJ(abN abP:N)(abQ:aD)(abR:b7->aD->W->Prop)(abS abT:b7)(bu:dN ab abN iC abP abQ abR abS)(abW abX:W)(bx bA n i:I)(bB:bz)(v bD:N)(cd ce bE cg ch ci:V)(bG:Bool)(x:I)(e:ai)(k:ar)(l ag:I)(b:N)(abU:aD)(abV:aD)(be:∀h,M abV abW h->j8 h v e n i k ce bE bG cg x ch ci)(d9:∃cj av d',bE=S cj av d')(ck:∀h,M abV abW h->bt h cd e)(c3:cx k)(cl:∀c,c<(abW:N)->¬abV c->abQ c)(cm:M abV abW abX)(eR:abP<=abX)(bH:b<L k)(cn:abR abT abU abX)(y:∀z,z<=(ah k b).length->aB (b2 e (ah k b)+iL e (ah k b) l z)<=i->¬(0<pO v e n i k b\/n<aB (gf (ah k b)+ag))->∃co,abS=(abT++fL e i b (ah k b) l z)++((b:I),(z:I),iL e (ah k b) l z)::co):ap ab 292 #[ao #[bx,bA,n,i,S bB v bD,cd,ce,bE,au bG,cg,x,ch,ci],b,ao #[l,ag],.func (.yield abN) #[] #[]] abX λD abY=>D=aq (au T)/\∃aK,abR (abT++jp v e n i k l ag b) aK abY/\M abU abX abY/\∀c,aK c->abU c\/(abX:N)<=c:=by
 have⟨eb,c4,c5,c6,c7⟩:=rr abX bx bA n i (S bB v bD) cd ce bE (au bG) cg x ch ci;have⟨c8,c9,cp,c',cq,aY⟩:=eU eb l ag;have da:=c7.bw cp;rw[c6]at cq aY c';have bI:=q c5 cp;have db:ia abR abU abV abW abX (λG=>G=(abX:N)\/G=(abX:N)+1) abT c8:=⟨⟨abU,bu.h3 _ _ _ _ cn (M.bw bI),λG cr ec=>Y ((bu.own _ _ _ cn G ec).1),λG cr=>.inl cr⟩,M.bw bI,cm.then bI,λG cr=>O⟩
 have eS:(abW:N)<=abX:=cm.size;obtain⟨ed,ee,ef,rfl⟩:=d9;have a0:=be abW (M.refl _ _);obtain⟨dc,dd,de,rfl,_,_,_⟩:=(ck abW (M.refl _ _)).open;obtain⟨eT,av,eg,rfl,cs,eV,df⟩:=a0.gS.open;obtain⟨eW,eh,ei,rfl,dg,_,dh⟩:=a0.fa.open;obtain⟨eX,eY,ej,rfl,di,_,dj⟩:=a0.lo.open;obtain⟨eZ,e0,ek,rfl,dk,_,dl⟩:=a0.le.open;rw[QI _ _ _ _ _ _ (aL _),cs]at dg;rw[ud _ _ (aL _),cs]at di;rw[ue _ _ _ (aL _),cs]at dk;subst dg;subst di;subst dk;have P:b<av:=O
 obtain⟨bJ,ct,dm,t,dn,rfl,bg,hp⟩:=df b P;obtain⟨dp,dq,rfl,cu⟩:=dh b P;obtain⟨dr,ds,rfl,bK⟩:=dj b P;obtain⟨ay,cv,rfl,aN⟩:=dl b P;have dt:ay<abW:=by have:=aR _ _ aN;simpa using this
 have du:¬abV ay:=λbL=>by have o:=(be _ (M.BK ⟨ay,cv+b,Z⟩ (au F) bL)).le.nG b P;rw[bP _ _ _ (by rw[aN];rfl)]at o;simp at o
 have dv:¬abV bJ:=λbL=>by have⟨_,_,_,o,_⟩:=(be _ (M.BK ⟨bJ,ct+b,Z⟩ (au F) bL)).gS.nG b P;rw[bP _ _ _ (by rw[bg];rfl)]at o;simp at o
 have R:∀h,M abV abW h->C h ⟨dp,dq+b,Z⟩=A (aa ac (cf v e n i (ah k b)))/\C h ⟨dr,ds+b,Z⟩=A (aa ac (gf (ah k b)))/\C h ⟨ay,cv+b,Z⟩=A (aa ac (b2 e (ah k b)))/\C h ⟨bJ,ct+b,Z⟩=A (S dm t dn)/\ba h (S dm t dn) (ah k b):=λh w=>by have bM:=be h w;have dw:=w.cell bg dv;have⟨e1,e2,e3,cw,el⟩:=bM.gS.nG b P;rw[dw]at cw;simp only[a2,bf]at cw;obtain⟨rfl,rfl,rfl⟩:=cw;refine⟨?_,?_,?_,dw,el⟩;rw[bM.fa.nG b P,QF _ _ _ _ _ _ bH];rw[bM.lo.nG b P,QG _ _ bH];rw[bM.le.nG b P,QH _ _ _ bH]
 clear cu bK aN bg;have dx:=a0.bad;have em:=yq v e n i k (L k);have⟨g,bh⟩:=K (ah k b);have cy:=c3 b;rw[<-bh]at R hp y cy;have⟨a1,cz⟩:=K (cf v e n i g);have⟨cA,bN⟩:=K (gf g);have⟨dy,cB⟩:=K (b2 e g);rw[<-cz]at R;rw[<-bN]at R y;rw[<-cB]at R y;have bO:pO v e n i k b=x-(if a1=13 then 1 else 0):=by unfold pO;rw[dx,cz,bh]
 have aA:jp v e n i k l ag b=if 0<x-(if a1=13 then 1 else 0)\/n<aB (cA+ag)then[]else fL e i b g l (L g+1):=by unfold jp;rw[bO,<-bh,<-bN]
 rw[bO]at y;have e4:0<=x/\x<=1000000:=O
 have dz:=aJ b;have dA:(b:I)<av:=O
 have cC:=Q (λh cj cD w=>lH bx bA n i (S bB v bD) (S dc dd de) e cj cD h (ck h w));have en:=Q (U bh (U bN cB));have aC:=Q bu;have eo:=Q hp;have bR:=Q db;have a4:=Q da;have cE:=Q (U cq aY);have dB:=Q (U dt du);change H _ at c4 c9 aA y cl;change H _ at cy R;clear be ck c3 cm cn c5 cp c6 c' c7 da db df dh dj dl bu hp bh bN cB cz dx em bO bI cq aY dt du dv a0 bH;go_in;go_upto_region 1 with fail;rw[c4,c9];have⟨gk,dC⟩:=K (abX:N);rw[<-dC]at bR a4 cE⊢;have cu:=(R _ bR.bF).1;have ep:=a4 9 _ J;have eq:=a4 10 _ J;have⟨ad,aE⟩:=K (x-(if a1=13 then 1 else 0));rw[<-aE]at aA y;change H _ at dC;go_upto_if 23 with fail;go_cut [9] (λbS aP=>bS=ad/\aP=c8);case first=>
  by_cases a5:a1=13
  ·have er:(a1==13)=T:=by simpa using a5
   rw[am a5]at aE;have cF:x-1=ad:=aE.symm;clear a5 aE;go_wp2;go_meet;exact⟨by first|rfl|(rw[cF]),J⟩
  have er:(a1==13)=F:=X a5
  rw[ak a5]at aE;have cF:ad=x:=O
  clear a5 aE;go_wp2;go_meet;exact⟨by rw[cF],J⟩
 obtain⟨rfl,bi⟩:=hcut;subst bi;obtain⟨dD,rfl⟩:=K wc;have bO: -1<=ad/\ad<=1000000:=by rw[aE];split<;>omega
 clear cu ep eq aE;have⟨bk,cG⟩:=K (aB (cA+ag));rw[<-cG]at aA y;have dE:aB (cA+ag)=bk:=cG.symm;have⟨dF,aQ⟩:=K (decide (0<ad\/n<bk));have bK:=(R _ bR.bF).2.1;have dG:=a4 11 _ J;have dH:=a4 2 _ J;have aY:=cE.2;change H _ at dE;clear cG;go_upto_region 4 with fail;go_cut [41] (λcD aP=>cD=au dF/\B dD dD aP);case first=>
  have e5:=dE.oo;by_cases aS:0<ad
  ·have es:decide (0<ad)=T:=by simpa using aS
   refine bv [0,1,2,3,5,8,11,12,104,6,107,109,10,113,14,15] ?_;iterate 13 refine mS ?_
   try simp only[dJ]
   iterate 3 refine mS ?_
   refine bc ?_;go_wp2;go_meet;exact⟨by rw[aQ];simp[aS],an _⟩
  have es:decide (0<ad)=F:=X aS
  by_cases bT:n<bk
  ·have et:decide (n<bk)=T:=by simpa using bT
   refine bv [0,1,2,3,5,8,11,12,104,6,107,109,10,113,14,15] ?_;iterate 13 refine mS ?_
   try simp only[dJ]
   iterate 3 refine mS ?_
   refine bc ?_;go_wp2;go_meet;exact⟨by rw[aQ];simp[aS,bT],an _⟩
  have et:decide (n<bk)=F:=X bT
  refine bv [0,1,2,3,5,8,11,12,104,6,107,109,10,113,14,15] ?_;iterate 13 refine mS ?_
  try simp only[dJ]
  iterate 3 refine mS ?_
  refine bc ?_;go_wp2;go_meet;exact⟨by rw[aQ];simp[aS,bT],an _⟩
 obtain⟨rfl,bm⟩:=hcut;obtain⟨cH,rfl⟩:=K wc;have bn:=bR.next aC bm;have bV:=a4.bw bm;have dI:=s bm cE.1;cases dF with
  |true=>have D:=of_decide_eq_true aQ.symm;have bW:=Q bn;clear bn;clear bm bV dI aQ bK dG dH aY;go_wp2;go_ret;rw[aA,am D,e'];have⟨u,aF,o,aG⟩:=bW.j;exact⟨J,u,aF,bW.aO,aG⟩
  |false=>
   have D:=of_decide_eq_false aQ.symm;have bX:=aA.oo;rw[ak D]at bX;have cI:=λz o aG=>y z o aG D;have cJ:=eo.BJ.1;have cK:=λh w=>(ba.BJ (R h w).2.2.2.2).2;have e6:t<=1000000:=Y cy.oo
   have bg:=(R _ bn.bF).2.2.2.1;have eu:=bV 6 _ J;have⟨bo,dK⟩:=K (aB (l+1));have dL:aB (l+1)=bo:=dK.symm;rw[cJ]at bX cI;have bW:=Q bn;have ew:=Q bV;have dM:H (L g=t):=Q cJ;change H _ at dK;clear bn bm bV aQ bK dG dH aY cJ D aA y;have aA:=Q bX;have y:=Q cI;change H _ at cK;clear bX cI;go_upto_region 6 with fail;refine bv [0,1,3,7,102,4,5,106,10,108,9,11] ?_;iterate 11 refine mS ?_
   try simp only[dJ]
   try rw[dL]
   refine mS ?_;refine bc ?_;clear eu bg dI;have⟨ex,cL⟩:=K cH.drew;try rw[<-cL]
   have cM:B cH cH ex:=by rw[cL];exact an _
   have dO:=bW.next aC cM;have dP:=ew.bw cM;change H _ at dO dP;clear cL cM;go_wp2;go_loopw [55] (λz wr=>∃c:N,z=(c:I)/\c<=t+1/\ia abR abU abV abW abX (λG=>G=gk\/G=gk+1) (abT++fL e i b g l c) wr/\ax wr gk [bx,bA,n,i,S bB v bD,S dc dd de,S (A ⟨bJ,ct,Z⟩) av eg,S ed ee ef,au bG,S (A ⟨dp,dq,Z⟩) av ei,x,S (A ⟨dr,ds,Z⟩) av ej,S (A ⟨ay,cv,Z⟩) av ek]) (λz _=>t+1-(aw z).toNat);exact⟨0,J,a3 _,by rw[show fL e i b g l 0=[]from J,e'];exact dO,dP⟩;obtain⟨c,rfl,bL,aI,bY⟩:=hrel;obtain⟨a6,rfl⟩:=K wr;by_cases bZ:c<t+1
   ·have ey:c<=t:=by omega
    go_upto_if 59 with fail;go_cut [13] (λcN aP=>cN=(k8 g c)/\aP=a6);case first=>
     cases c with
      |zero=>go_wp2;go_meet;exact⟨by simp[k8],J⟩
      |succ aT=>
       obtain⟨ez,eA,rfl,cO,cP⟩:=cK _ aI.bF aT O;have ae:k8 g (aT+1)=aB ((al g aT).1+1):=by simp[k8]
       have⟨abM,bq⟩:=K ((al g aT).1);rw[<-bq]at ae cO;have dz:=aJ aT;have dA:(aT:I)<t:=O
       have e7:(aT:I)<=1000000:=O
       change H _ at ae;clear bq cP;go_wp2;go_meet;exact⟨by rw[ae],J⟩
    case rest=>
    obtain⟨rfl,bi⟩:=hcut;subst bi;obtain⟨a6,rfl⟩:=K wc;go_upto_if 70 with fail;go_cut [14] (λcN aP=>cN=(kg g c)/\aP=a6);case first=>
     by_cases cQ:c<t
     ·obtain⟨ez,eA,rfl,cO,cP⟩:=cK _ aI.bF c cQ;have ae:kg g c=aB ((al g c).1+1):=by unfold kg;rw[am (by rw[dM];exact cQ)]
      have⟨abM,bq⟩:=K ((al g c).1);rw[<-bq]at ae cO;have dz:=aJ c;have dA:(c:I)<t:=O
      change H _ at ae;clear bq cP;go_wp2;go_meet;exact⟨by rw[ae],J⟩
     have a8:kg g c=0:=by unfold kg;rw[ak (by rw[dM];exact cQ)]
     have e8:¬(c:I)<t:=O
     have ae:=Q a8;clear a8;go_wp2;go_meet;exact⟨by rw[ae],J⟩
    case rest=>
    obtain⟨rfl,bi⟩:=hcut;subst bi;obtain⟨a6,rfl⟩:=K wc;have a9:fL e i b g l (c+1)=fL e i b g l c++(if aB (b2 e g+iL e g l c)<=i then[((b:I),(c:I),iL e g l c)]else[]):=J;have aV:iL e g l c=aB (aB (bC e (k8 g c) (aB (l+1))+bC e (aB (l+1)) (kg g c))-bC e (k8 g c) (kg g c)):=J;have b0:=y c ey;rw[<-en.2.2]at a9;have⟨b3,a8⟩:=K (k8 g c);have⟨b5,cR⟩:=K (kg g c);rw[<-a8,<-cR,dL]at aV;rw[<-a8,<-cR];have dQ:=Q (λh w=>cC h b3 bo w);have dR:=Q (λh w=>cC h bo b5 w);have dS:=Q (λh w=>cC h b3 b5 w);have⟨e9,dT⟩:=K (bC e b3 bo);have⟨fb,dV⟩:=K (bC e bo b5);have⟨fc,dW⟩:=K (bC e b3 b5);rw[<-dT]at dQ aV;rw[<-dV]at dR aV;rw[<-dW]at dS aV;have⟨cS,dX⟩:=K (iL e g l c);rw[<-dX]at aV a9 b0;have⟨eB,eC,eD,eE,eF,eG⟩:=bY.inst;have b6:=Q aI;have eH:=Q bY;have cT:=aV.symm;have cU:=aI.bF;have fd:=cU.size;have cV:=Q cU;change H _ at a9 b0;clear cU;change H _ at cT;clear dT dV dW dX a8 cR aV aI bY;go_upto_region 15 with fail;refine bv [0,2,3,5,7,8,11,13,14,101,106,112,204,209,10,215,16,17] ?_;iterate 12 refine mS ?_
    refine aU λm f=>?_;go_simp;refine mU (dQ _ (cV.then (an a6))) λfe dY=>?_;have b8:=q (an a6) dY;refine f _ _ (.mk b8) ?_;refine aU λm f=>?_;go_simp;refine mU (dR _ (cV.then b8)) λff d0=>?_;have b9:=q b8 d0;refine f _ _ (.mk b9) ?_;refine mS ?_;try simp only[dJ]
    refine aU λm f=>?_;go_simp;refine mU (dS _ (cV.then b9)) λaW d1=>?_;have b':=q b9 d1;refine f _ _ (.mk b') ?_;refine mS ?_;try simp only[dJ]
    try rw[cT]
    refine mS ?_;refine bc ?_;try rw[cT]
    clear eB eC eD eE eF eG dY d0 d1 b8 b9;have br:=b6.next aC b';have bb:=eH.bw b';clear b';have⟨ca,cW⟩:=K (aB (dy+cS));rw[<-cW]at a9 b0;have bs:aB (dy+cS)=ca:=cW.symm;have aN:=(R _ br.bF).2.2.1;have u3:=bb 3 _ J;have u12:=bb 12 _ J;change H _ at bs;clear cW;by_cases aX:ca<=i
    ·have aS:decide (ca<=i)=T:=by simpa using aX
     have cX:=a9.oo;rw[am aX]at cX;have⟨co,d2⟩:=b0 aX;have cY:=br.next aC (an aW);have d3:=bb.bw (an aW);have⟨u,aF,o,aG⟩:=cY.j;have cc:=aC.rf _ _ u aW.drew aF ⟨co,d2⟩;have eI:=Q (λ(aK:aD) (eJ:W) g1 g2 g3=>U (cY.adI (KB:=((b:I),(c:I),cS)) (Ja:=aK) (abY:=eJ) aC.oo cl.oo aF o aG g1 g2 g3) (d3.bl g2 (o gk (.inl J))));obtain⟨eh,fg,fh,fi,cc,d4⟩:=cc;have eK:=Q d4;simp only[iC]at cc;have eL:¬u ay:=λD=>(aC.own _ _ _ aF ay D).2 (cl ay dB.1 dB.2);have d5:¬u gk:=o gk (.inl J);have eM:=bU.cell (G:=u) aN eL;have eN:=bU.cell (G:=u) u3 d5;have eO:=bU.cell (G:=u) u12 d5;have cZ:=bs.oo;change H _ at cX;clear aX br bb cY d3 aF o aG d4 d2;go_upto_region 16 with fail;refine QE ((.p 0 (.p 2 (.p 5 (.p 7 (.p 8 (.r 1 (.p 3 (.r 4 (.p 6 (.r 9 (.p 10 (.p 11 (.p 12 (.p 13 (.p 14 (.p 15 (.p 16 (.a 17 (.p 18 (.p 19 .d))))))))))))))))))))) (dU u aW) (by kernel_rfl) (by kernel_rfl) (.mk ((M.refl _ _).drew)) ?_;iterate 5 (refine pN J (λm f=>?_);go_simp;refine f _ ?_;clear f m)
     iterate 1 (refine uf J (λm f=>?_);go_simp;refine f _ ?_;clear f m)
     iterate 1 (refine pN J (λm f=>?_);go_simp;refine f _ ?_;clear f m)
     iterate 1 (refine uf J (λm f=>?_);go_simp;refine f _ ?_;clear f m)
     iterate 1 (refine pN J (λm f=>?_);go_simp;refine f _ ?_;clear f m)
     try simp only[dJ]
     try rw[bs]
     iterate 1 (refine uf J (λm f=>?_);go_simp;refine f _ ?_;clear f m)
     iterate 7 (refine pN J (λm f=>?_);go_simp;refine f _ ?_;clear f m)
     refine QB J (by rfl) (λm f=>?_);refine⟨λfj _=>trivial,?_⟩;rw[show∀(bS:bd) (d6:Operand->V),bS.semAt Fence.wide.round d6=execOp d6 bS from λ_ _=>rfl];go_simp;refine⟨J,eK.mono ?_⟩;rintro D eP ⟨rfl,aK,g1,g2,g3⟩;have⟨c0,d7⟩:=eI aK eP g1 g2 g3;refine f _ _ (.mk ((M.bw (I':=u) (an aW)).trans g2 I2 I2)) ?_;clear eM eN eO cc;rw[ev,<-cX]at c0;change H _ at c0 d7;clear g1 g2 g3;iterate 2 (refine pN J (λm f=>?_);go_simp;refine f _ ?_;clear f m)
     refine QD ?_;clear aN u3 u12 cZ;go_wp2;go_roundw;case rel=>exact⟨c+1,by go_num,O,c0,d7⟩
     simp only[aw];first|exact dZ bZ|exact ea bZ O
    have aS:decide (ca<=i)=F:=X aX
    have c1:=a9.oo;rw[ak aX,e']at c1;have c2:=br.next aC (an aW);have d8:=bb.bw (an aW);rw[<-c1]at c2;have cZ:=bs.oo;change H _ at c2 d8;clear c1 aX br bb;go_upto_region 16 with fail;refine bv [0,2,5,7,8,101,3,104,6,109,10,11,12,13,14,15,16,217,18,19] ?_;iterate 9 refine mS ?_
    try simp only[dJ]
    try rw[bs]
    iterate 8 refine mS ?_
    refine qO ?_;go_simp;iterate 2 refine mS ?_
    refine bc ?_;clear aN u3 u12 cZ;go_wp2;go_roundw;case rel=>exact⟨c+1,by go_num,O,c2,d8⟩
    simp only[aw];first|exact dZ bZ|exact ea bZ O
   have eQ:c=t+1:=O
   subst eQ;rw[<-aA]at aI;have b6:=Q aI;clear aI;clear bY;go_wp2;go_ret;have⟨u,aF,o,aG⟩:=b6.j;exact⟨J,u,aF,b6.aO,aG⟩
end
section
attribute [local go_sem] Oper.semAt_some
def g4(a:N)(b:ai)(c d:I)(e:ar)(f g:I):N->b7
 |0=>[]
 |h+1=>g4 a b c d e f g h++jp a b c d e f g h
def kh(c:N)(b:ai)(h d e:I)(a:ar)(f g:I):b7:=if fh c b d e a (L a)=0/\cf c b d e [(f,g)]=0/\(L a:I)<h then[((L a:I),0,b2 b [(f,g)])]else[]
def nn(c:N)(d:ai)(e f g:I)(a:ar)(b h:I):Bool:=(cf c d f g [(b,h)]==1)||(gu a).contains b||kX (gu a)||decide (e<(L a:I))
def cU(b:N)(c:ai)(h d e:I)(a:ar)(f g:I):b7:=if nn b c h d e a f g then[]else g4 b c d e a f g (L a)++kh b c h d e a f g
def QL{d:ai}{c:ar}{h:I}(p:nn a d i j k c l h=F)(b:N)(z:b<L c)(g:N)(G:g<=(ah c b).length)(q:aB (b2 d (ah c b)+iL d (ah c b) l g)<=k)(r:¬(0<pO a d j k c b\/j<aB (gf (ah c b)+h))):∃s,cU a d i j k c l h=(g4 a d j k c l h b++fL d k b (ah c b) l g)++((b:I),(g:I),iL d (ah c b) l g)::s:=by have⟨t,u⟩:=nc (JB:=g4 a d j k c l h) (JG:=λb=>jp a d j k c l h b) (λ_=>rfl) (bh (b+1<=L c));have⟨x,y⟩:=nc (JB:=fL d k b (ah c b) l) (JG:=λg=>if aB (b2 d (ah c b)+iL d (ah c b) l g)<=k then[((b:I),(g:I),iL d (ah c b) l g)]else[]) (λ_=>rfl) (bh (g+1<=(ah c b).length+1));refine⟨x++t++kh a d i j k c l h,?_⟩;unfold cU;rw[p,ak D,u,g4,jp,ak r,y,fL,am q];simp[ev]
def QM(b:ad):(cF b).Pairwise (·<=·):=by unfold cF;have a:=List.pairwise_mergeSort (le:=λc d:I=>decide (c<=d)) (λe f h i j=>by simp at*;omega) (λe f=>aF) b;exact a.imp (λa=>X a)
def QN(e:V)(a:ad)(d:I)(b:W)(j:aX b e a)(k:a.Pairwise (·<=·))(t:L a<=1000000):ap ab 291 #[e,d] b λc f=>(∃l:I,c=aq (aZ #[(l:I),au (a.contains d)]))/\B b b f:=by obtain⟨m,g,h,rfl,n,_,i⟩:=j.open;by_cases o:g=0;subst o;have:a=[]:=dn.1 n;subst this;refine mR (slices_BinarySearch_int_empty m h d b) ?_;exact⟨⟨_,J⟩,aS _ _⟩;obtain⟨p,q,rfl,_⟩:=i 0 O;refine(slices_BinarySearch_int p q g h a d b O O (λr u=>?_) (by rw[cm O];exact k)).mono ?_;have⟨v,w,c,s⟩:=i r O;simp only[a2,bN,bT]at c;obtain⟨rfl,rfl⟩:=c;exact s;rintro c f ⟨rfl,x,rfl⟩;refine⟨⟨_,by rw[cm O]⟩,ip _ _⟩
def zf(b:W)(d:N)(e:aP)(f g:I)(h:bp)(a:W):Prop:=∃c gk,h=aq (.func (.func d) #[] #[aM (A ⟨c,0,Z⟩),aM (A ⟨gk,0,Z⟩)])/\ax a gk e/\ax a c [f,g]/\b<=c/\b<=gk/\c<a/\gk<a/\B b b a
def zg(e f1 f g:I)(h i j k l n o:bz)(p r s t u v w x y z D G K M:N)(P:Bool)(Q b c:I)(a:W):ap ab 274 #[ao #[e,f1,f,g,S h p r,S i s t,S j u v,S k w x,au P,S l y z,Q,S n D G,S o K M],ao #[b,c]] a (zf a 290 [e,f1,f,g,S h p r,S i s t,S j u v,S k w x,au P,S l y z,Q,S n D G,S o K M] b c):=by
 have⟨ah,R,ai,ak,al⟩:=rr a e f1 f g (S h p r) (S i s t) (S j u v) (S k w x) (au P) (S l y z) Q (S n D G) (S o K M);have⟨U,X,Y,am,ad,ae⟩:=eU ah b c;rw[ak]at ad ae am;have an:ax U (a.heap.size+1) [b,c]:=by
  intro ag ar d;match ag with
   |0=>simp at d;subst d;exact ad
   |1=>simp at d;subst d;exact ae
   |ag+2=>simp at d
 have m:zf a 290 [e,f1,f,g,S h p r,S i s t,S j u v,S k w x,au P,S l y z,Q,S n D G,S o K M] b c (aq (.func (.func 290) #[] #[aM (A ⟨a.heap.size+1,0,Z⟩),aM (A ⟨a.heap.size,0,Z⟩)])) U:=⟨_,_,J,al.bw Y,an,O,aL _,O,O,q ai Y⟩
 change H _ at R X m;go_in;go_upto_region 1 with fail;rw[R,X];exact mW
def zh(a:W):∃b,a.alloc (az #[S Z 0 0] 98)=b/\B a a b/\b.heap.size=(a:N)+1/\C b a=A (S Z 0 0)/\aH b a=F:=⟨_,J,aN _ _,D,aE,aE⟩
def zi{h:ag}(p:w<=a)(i:B w w x)(l:C x a=A u)(m:aW 89 x b v h)(o:∀f,af v=A f->f≠a):(aj x a v).cell? a=A v/\aW 89 (aj x a v) b v h/\B w w (aj x a v):=by have j:M (λf=>f=a) x (aj x a v):=M.grown (bn _ _ _) (λf k=>X k.symm);exact⟨bP _ _ _ (by rw[l];rfl),m.aO j o,i.trans (j.bg i.size λf r k=>O)⟩
def zj(ae gk:N)(be l i k:I)(bf:bz)(g bg:N)(bA cq bM cr cs ct:V)(bh:Bool)(aF:I)(h:ai)(e:ar)(b c:I)(y bB:W)(c9:g<=1000000)(P:aD)(bC:∀u,M P y u->j8 u g h i k e cq bM bh cr aF cs ct)(bi:∀u,M P y u->bt u bA h)(cu:a6 e<=1000000)(eh:L e<=1000000)(av:M P y bB)(cv:ax bB gk [be,l,i,k,S bf g bg,bA,cq,bM,au bh,cr,aF,cs,ct])(cw:ax bB ae [b,c]):pa ab 290 #[aM (A ae),aM (A gk)] (λm=>(m<y/\¬P m)\/m=ae\/m=gk) iC (cU g h l i k e b c) bB:=by
 intro cy aG n bD bE cz bN cA bO;have bP:dN ab cy iC n (λm=>(m<y/\¬P m)\/m=ae\/m=gk) aG (cU g h l i k e b c):=⟨cz,bN,cA⟩
 have cB:M P y n:=av.then bE;have aI:=bC y (M.refl _ _);have bR:=cv.bw bE;have bS:=cw.bw bE;have cC:=cx.of cu;have cD:=Q (λu bT aV hp=>pt be l i k bf g bg bA bT h [(b,c)] u (bi u aV) hp c9 D);have cE:(gu e).length<=1000000:=by
  unfold gu;rw[ol,de];have:e.flatten.length=a6 e:=by simp[a6,List.length_flatten]
  omega
 have cF:=Q (λu aV=>QN bM (gu e) b u (bC u aV).on (QM _) cE);have cG:=Q (λu bT aV hp=>o9 be l i k (S bf g bg) bA bT h [(b,c)] u ⟨_,_,_,J⟩ (bi u aV) hp D);obtain⟨c',da,db,rfl,_,_,_⟩:=(bi y (M.refl _ _)).open;obtain⟨dc,x,dd,rfl,a9,ei,_⟩:=aI.gS.open;obtain⟨df,dg,dh,rfl,_,_,_⟩:=aI.on.open;obtain⟨dj,cH,dk,rfl,_,_,_⟩:=aI.fa.open;obtain⟨dl,dm,dn,rfl,_,_,_⟩:=aI.lo.open;obtain⟨dq,dr,ds,rfl,_,_,_⟩:=aI.le.open;have dt:=Q (λ(o:N) (u:W) (cI:b7) (cJ:aD) (cK:o<L e) (aV:M P y u) (bk:(n:N)<=u.heap.size) (du:aG cI cJ u) (dv)=>QJ cy n (λm=>(m<y/\¬P m)\/m=ae\/m=gk) aG (cU g h l i k e b c) cI bP y u be l i k bf g bg _ _ _ _ _ _ bh aF h e b c o cJ P bC ⟨_,_,_,J⟩ bi cC (λm z bk=>.inl ⟨z,bk⟩) aV bk cK du dv);have HK:nn g h l i k e b c=((cf g h i k [(b,c)]==1)||(gu e).contains b||bh||decide (l<(x:I))):=by unfold nn;rw[aI.tw,a9]
 have aX:kh g h l i k e b c=if aF=0/\cf g h i k [(b,c)]=0/\(x:I)<l then[((x:I),0,b2 h [(b,c)])]else[]:=by unfold kh;rw[a9,aI.bad,a9];norm_cast
 have HJ:cU g h l i k e b c=if nn g h l i k e b c then[]else g4 g h i k e b c x++kh g h l i k e b c:=by unfold cU;rw[a9]
 have bU:=λ(z:nn g h l i k e b c=false)=>QL z;have dw:∀m,bD m->m<(n:N)/\¬((m<(y:N)/\¬P m)\/m=ae\/m=gk):=bN _ _ _ bO;have ej:ae<n/\gk<n:=⟨bS.lt,bR.lt⟩
 have⟨ba,cL⟩:=K (cf g h i k [(b,c)]);have⟨cM,cN⟩:=K (b2 h [(b,c)]);have⟨dx,cO⟩:=K ((gu e).contains b);rw[<-cL]at cD HK aX;rw[<-cN]at cG aX;rw[<-cO]at cF HK;have aN:=Q bP;have cP:=Q bR;have bV:=Q bS;have dy:=Q cB;change H _ at bO HK aX HJ bU;clear cB;change H _ at a9;clear cz bN cA bP bC aI bi cv cw av bE bR bS cL cN cO cE cC cu;have a0:=bV 0 _ J;have bm:=bV 1 _ J;have bW:=cP 6 _ J;go_in;go_upto_region 0 with fail;go_cut [4,5] (λdz dA bX=>∃aP ay aA aC bG,dz=aM (A ⟨aP,0,Z⟩)/\dA=x/\C bX ⟨aP,0,Z⟩=A (S ay aA aC)/\aW 89 bX bG (S ay aA aC) [(b,c)]/\(n:N)<=bG/\n<=aP/\B n n bX);case first=>
  refine i' ((.p 2 (.p 3 (.r 0 (.r 4 (.p 5 (.f 1 (.a 6 (.a 7 (.p 8 .d))) 6 (.a 1 (.a 7 (.p 8 .d)))))))))) (dp n) aT aT (.mk (an _)) ?_;iterate 5 refine mS ?_
  refine gN (λbn U=>?_) (λbn U=>?_)
  ·go_simp;refine mF (rp b c n.drew) λa1 ay aA aC ⟨aE,bH⟩=>?_;have a2:B n n a1:=q (an n) bH;refine U _ _ (.mk a2) ?_;have⟨ag,bZ,ad,bo,u0,u1⟩:=zh a1;have bq:=q a2 ad;refine aU λbn U=>?_;go_simp;try rw[bZ]
   refine U _ _ (.mk bq) ?_;have⟨b3,b5,br⟩:=zi a2.size bq u0 (aE.bw ad) (λv w ah=>Y ((aE.lt v w).2));refine aU λbn U=>?_;go_simp;refine U _ _ (.mk br) ?_;clear a0 bm bW;refine mS ?_;refine bc ?_;clear u0 u1;go_wp2;go_meet;exact⟨_,_,_,_,_,J,J,b3,b5,aL _,a2.size,br⟩
  have⟨ag,bZ,ad,bo,u0,u1⟩:=zh n;have bq:B n n ag.drew:=q ad (an _);go_simp;try rw[bZ]
  refine U _ _ (.mk bq) ?_;refine aU λbn U=>?_;go_simp;refine mF (rp b c ag.drew) λa1 ay aA aC ⟨aE,bH⟩=>?_;have a2:=q bq bH;have cQ:B ag ag a1:=q (an ag) bH;refine U _ _ (.mk a2) ?_;have u0:=s cQ u0;have u1:=aY cQ O u1;have Ch:(n:N)<ag.drew:=by show (n:N)<ag;omega
  have⟨b3,b5,br⟩:=zi (aL _) a2 u0 aE (λv w ah=>Y ((aE.lt v w).1));refine aU λbn U=>?_;go_simp;refine U _ _ (.mk br) ?_;clear a0 bm bW;refine mS ?_;refine bc ?_;clear u0 u1;go_wp2;go_meet;exact⟨_,_,_,_,_,J,J,b3,b5,iv Ch,aL _,br⟩
 obtain⟨aP,ay,aA,aC,bG,rfl,rfl,b6,G,ek,el,av⟩:=hcut;obtain⟨a1,rfl⟩:=K wc;have b8:ia aG bD P y n (λv=>v=aP\/(S ay aA aC).ownBlock=A v) [] a1:=
  ⟨⟨bD,aN.h3 _ _ _ _ bO (M.bw av),λv w aE=>by
   have a4:=(dw v aE).1;rcases w with w|w;omega;have:=(G.lt v w).1;omega,λv w=>.inl w⟩,M.bw av,dy.then av,λv w=>by
   rcases w with w|w;have:=aR _ _ b6;simp only at this;omega;have:=G.lt v w;omega⟩
 have b9:=cP.bw av;have cR:=bV.bw av;have⟨b',ca,cc,cd,ce,cg⟩:=b9.inst;have dB:=Q (cD.oo a1 _ b8.bF G.di);have dC:=Q b8;have dD:=Q b9;have dE:=Q cR;have dF:=Q G;clear b8 b9 cR G av a0 bm bW;go_wp2_with fail;refine mU dB λag ad=>?_;have ch:=dC.next aN ad;have ci:=dD.bw ad;have bo:=dE.bw ad;have dG:=ci 7 _ J;have a0:=bo 0 _ J;have dH:=Q (cF.oo ag ch.bF);have dI:=Q ch;have dJ:=Q ci;have dK:=Q bo;have dL:=Q (dF.oo.bw ad);have dM:=Q (s ad b6);change H _ at b6;clear ch ci bo ad b' ca cc cd ce cg;go_wp2_with fail;refine dH.mono ?_;rintro ah em ⟨⟨en,rfl⟩,bb⟩;have cS:=dI.next aN bb;have bI:=dJ.bw bb;have cT:=dK.bw bb;have dO:=bI 8 _ J;have dP:=bI 1 _ J;have HI:=Q cS;have dQ:=Q (dL.oo.bw bb);have dR:=Q (s bb dM);change H _ at bI cT;clear cS bb dG a0;by_cases cj:ba=1
 ·have ck:(ba==1)=T:=by simpa using cj
  go_wp2_with fail;(try simp only[Exit.inBlock,Exit.then]);refine b0 (results_none J _ _ _) J ?_;have⟨I',Gg,_,_⟩:=HI.j;refine⟨⟨_,J⟩,I',?_⟩;rw[HJ,HK];simp[ck];exact Gg
 have ck:(ba==1)=F:=X cj
 cases dx with
  |true=>exact v5
  |false=>
 cases bh with
  |true=>exact v5
  |false=>
 by_cases cl:l<(x:I)
 ·have cm:decide (l<(x:I))=T:=by simpa using cl
  go_wp2_with fail;(try simp only[Exit.inBlock,Exit.then]);refine b0 (results_none J _ _ _) J ?_;have⟨I',Gg,_,_⟩:=HI.j;refine⟨⟨_,J⟩,I',?_⟩;rw[HJ,HK];simp[cm];exact Gg
 have cm:decide (l<(x:I))=F:=X cl
 have cn:nn g h l i k e b c=F:=by rw[HK,ck,cm];rfl
 have bs:=HJ.oo;rw[cn]at bs;simp only[gL,if_false]at bs;have dS:=Q (bU.oo cn);change H _ at bs;clear cn cj cl HK bU;go_wp2_with fail;clear dO dP;go_loopw [45] (λbu wr=>∃o:N,bu=(o:I)/\o<=x/\ia aG bD P y n (λv=>v=aP\/(S ay aA aC).ownBlock=A v) (g4 g h i k e b c o) wr/\ax wr gk [be,l,i,k,S bf g bg,S c' da db,S dc x dd,S df dg dh,au F,S dj cH dk,aF,S dl dm dn,S dq dr ds]/\ax wr ae [b,c]/\C wr ⟨aP,0,Z⟩=A (S ay aA aC)/\aW 89 wr bG (S ay aA aC) [(b,c)]) (λbu _=>x-(aw bu).toNat);exact⟨0,J,a3 _,HI,bI,cT,dR,dQ⟩;obtain⟨o,rfl,cK,R,t,aQ,bv,G⟩:=hrel;obtain⟨bx,rfl⟩:=K wr;by_cases Ch:o<x
 ·have⟨I',Gg,a4,bJ⟩:=R.j;have cV:o<L e:=by rw[a9];exact Ch
  have dT:=Q (dt.oo o bx _ I' cV R.bF R.aO.size Gg (λbu dU dV aE=>dS o cV bu dU dV aE));have cW:¬I' gk:=λah=>(aN.own _ _ _ Gg gk ah).2 (.inr (.inr J));have cX:¬I' ae:=λah=>(aN.own _ _ _ Gg ae ah).2 (.inr (.inl J));have dW:=Q (λ(al:Nat->Prop) (cY:World) (g1:aG (g4 g h i k e b c o++jp g h i k e b c o) al cY) (g2:M I' bx cY) (g3:∀m,al m->I' m\/(bx:Nat)<=m)=>And.intro (R.part aN.oo (λm z bk=>.inl ⟨z,bk⟩) Gg a4 bJ g1 g2 g3) (And.intro (t.bl g2 cW) (And.intro (aQ.bl g2 cX) (And.intro (g2.cell bv (a4 aP (.inl rfl))) (G.aO g2 (λv w ah=>a4 v (.inr w) ah))))));have eo:=aJ o;have ep:(o:I)<x:=O
  have dX:=t 0 _ J;have cZ:=t 1 _ J;have dY:=t 2 _ J;have d0:=t 3 _ J;have d1:=t 4 _ J;have d2:=t 5 _ J;have d3:=t 6 _ J;have d4:=t 7 _ J;have d5:=t 8 _ J;have d6:=t 9 _ J;have c0:=t 10 _ J;have d7:=t 11 _ J;have d8:=t 12 _ J;have a0:=aQ 0 _ J;have bm:=aQ 1 _ J;clear Gg a4 bJ R t aQ bv G cW cX;go_wp2_with fail;refine mU dT λco ⟨al,g1,g2,g3⟩=>?_;have⟨c1,c2,c3,c4,c5⟩:=dW al co g1 g2 g3;change H _ at c1 c2 c3 c4 c5;clear g1 g2 g3 dX cZ dY d0 d1 d2 d3 d4 d5 d6 c0 d7 d8 a0 bm;go_wp2;go_roundw;case rel=>exact⟨o+1,aK,O,c1,c2,c3,c4,c5⟩
  exact bY
 have d9:o=x:=O
 subst d9;have c0:=t 10 _ J;have cZ:=t 1 _ J;have a5:kh g h l i k e b c=[]->∃al,aG (cU g h l i k e b c) al bx:=λz=>by have⟨I',Gg,_,_⟩:=R.j;exact⟨I',by rw[bs,z,e'];exact Gg⟩
 by_cases aS:aF=0;case neg=>
  have d':(aF==0)=F:=X aS
  have Du:=a5 (by rw[aX,ak (λz=>aS z.1)]);change H _ at Du;clear R t aQ bv G a5 aS;exact qy
 have d':(aF==0)=T:=X aS
 by_cases a8:ba=0;case neg=>
  have eb:(ba==0)=F:=X a8
  have Du:=a5 (by rw[aX,ak (λz=>a8 z.2.1)]);change H _ at Du;clear R t aQ bv G a5 aS a8;exact qy
 have eb:(ba==0)=T:=X a8
 by_cases bK:(o:I)<l;case neg=>
  have ec:decide ((o:I)<l)=F:=X bK
  have Du:=a5 (by rw[aX,ak (λz=>bK z.2.2)]);change H _ at Du;clear R t aQ bv G a5 aS a8;exact qy
 have ec:decide ((o:I)<l)=T:=X bK
 have cp:cU g h l i k e b c=g4 g h i k e b c o++[((o:I),0,cM)]:=by rw[bs,aX,am ⟨aS,a8,bK⟩]
 have ed:=Q (cG.oo bx _ R.bF G.di);have⟨b',ca,cc,cd,ce,cg⟩:=t.inst;have ee:=Q R;change H _ at cp;clear R t aQ G a5 aS a8;go_upto_region 10 with fail;refine wpIn_wide (n:=0).1 ?_;gi_wp2;refine⟨trivial,J,(callsIn_wide.2 ed).mono ?_⟩;rintro ah co ⟨rfl,c6⟩;have c7:=ee.next aN c6;have⟨I',Gg,a4,bJ⟩:=c7.j;have bL:=aN.rf _ ((o:I),0,cM) I' co Gg ⟨[],by rw[cp]⟩;obtain⟨cH,eq,er,es,bL,c8⟩:=bL;have ef:=Q c8;simp only[iC]at bL;clear c7 Gg a4 bJ c8 c6 b' ca cc cd ce cg;gi_wp2;refine⟨J,ef.mono ?_⟩;rintro ah eg ⟨rfl,al,g1,g2,g3⟩;have Du:∃al,aG (cU g h l i k e b c) al eg:=⟨al,by rw[cp];exact g1⟩
 change H _ at Du;clear bL g1 g2 g3;gi_wp2;exact qy
def jK(c:E I×I)(a:I×a4):E I×I:=let b:=if a.1=c.2 then c.1 else c.1++[a.2.2];(b.set (L b-1) (min (ae b (L b-1)) a.2.2),a.1)
def gb(a:b7):E I×I:=a.foldl jK ([],-1)
def kx(a:b7):ad:=cF (gb a).1
def QO(a:E I×I)(b:I×a4):(jK a b).1.length<=a.1.length+1:=by unfold jK;simp only[b'];split<;>simp
def zk(b:b7)(a:E I×I):(b.foldl jK a).1.length<=a.1.length+L b:=by
 induction b generalizing a with
  |nil=>simp
  |cons c b d=>rw[List.foldl_cons];have:=d (jK a c);have:=QO a c;simp;omega
def QP{f:ai}{g:ag}{d:I×a4}(c:d∈fL f i a g j b):0<=d.1:=by
 induction b with
  |zero=>cases c
  |succ b h=>rw[fL,eh]at c;rcases c with c|c;exact h c;split at c;simp at c;subst c;simp;cases c
def QQ{f:ai}{c:ar}{g:I}{d:I×a4}(b:d∈cU a f i j k c l g):0<=d.1:=by
 unfold cU at b;split at b;cases b;rcases eh.1 b with b|b;generalize (L c)=e at b;induction e with
  |zero=>cases b
  |succ e h=>rw[g4,eh]at b;rcases b with b|b;exact h b;unfold jp at b;split at b;cases b;exact QP b
 unfold kh at b;split at b;simp at b;subst b;simp;cases b
def QR(b:ai)(c:I)(d:N)(e:ag)(f:I)(a:N):(fL b c d e f a).length<=a:=by
 induction a with
  |zero=>simp[fL]
  |succ a g=>rw[fL,bL];split<;>simp<;>omega
def QS{I9:N}{I0:ai}{Kv Jv JV:I}{Jj:ar}{Jo Jp:I}:(cU I9 I0 Kv Jv JV Jj Jo Jp).length<=a6 Jj+L Jj+1:=by
 unfold cU;split;simp;have c:∀a,a<=L Jj->(g4 I9 I0 Jv JV Jj Jo Jp a).length<=a6 (Jj.take a)+a:=by
  intro a;induction a with
   |zero=>intro _;simp[g4]
   |succ a b=>
    intro e;have b:=b O;rw[g4,bL];have d:(jp I9 I0 Jv JV Jj Jo Jp a).length<=(ah Jj a).length+1:=by unfold jp;split;simp;exact QR I0 JV a (ah Jj a) Jo ((ah Jj a).length+1)
    have f:a6 (Jj.take (a+1))=a6 (Jj.take a)+(ah Jj a).length:=by rw[nd Jj a O];simp[a6]
    omega
 have d:(kh I9 I0 Kv Jv JV Jj Jo Jp).length<=1:=by unfold kh;split<;>simp
 have:=c (L Jj) (aL _);rw[List.take_length]at this;rw[bL];omega
structure fM(a b e:N)(h:aD)(g:E I×I)(c:V)(d:W):Prop where
 cl:C d a=A c
 ct:C d b=A (aa ac g.2)
 zl:aH d a=F
 zt:aH d b=F
 own:ay d e c g.1
 B1:e<=a/\e<=b/\a≠b
 ng:af c≠A a/\af c≠A b
 has:h=λf=>f=a\/f=b\/af c=A f
def fM.lt{g:aD}{h:E I×I}(d:fM a b c g h u w):∀e,g e->c<=e/\e<(w:N):=by intro e f;rw[d.has]at f;rcases f with rfl|rfl|f;exact⟨d.B1.1,aR _ _ d.cl⟩;exact⟨d.B1.2.1,aR _ _ d.ct⟩;exact d.own.lt e f
def fM.aO{IX:N}{I' h:aD}{i:E I×I}(c:fM a b IX I' i u w)(d:M h w x)(e:∀j,I' j->¬h j):fM a b IX I' i u x:=by have n:=c.has;subst n;exact⟨d.cell c.cl (e a (.inl J)),d.cell c.ct (e b (.inr (.inl J))),d.free c.zl (aR _ _ c.cl) (e a (.inl J)),d.free c.zt (aR _ _ c.ct) (e b (.inr (.inl J))),c.own.bl d (λo p=>e o (.inr (.inr p))),c.B1,c.ng,J⟩
def fM.bw{I':aD}{d:E I×I}(f:fM a b c I' d u w)(k:B w w x):fM a b c I' d u x:=f.aO (M.bw (I':=λ_=>False) k) λ_ _ m=>m
def fM.Bz{p:aD}{n:ad}(f:fM a b c p (n,i) (S (A d) e g) w)(j:N)(l:I)(G:j<L n):fM a b c p (n.set j l,i) (S (A d) e g) (aj w ⟨d,j,Z⟩ l):=by have m:M (λs=>s=d) w (aj w ⟨d,j,Z⟩ l):=M.grown (bn _ _ _) (λs k=>X k.symm);have t:a≠d:=λk=>f.ng.1 (by simp[af,k]);have u:b≠d:=λk=>f.ng.2 (by simp[af,k]);have v:=f.own.set j l G;rw[bX]at v;exact⟨m.cell f.cl t,m.cell f.ct u,m.free f.zl (aR _ _ f.cl) t,m.free f.zt (aR _ _ f.ct) u,v,f.B1,f.ng,f.has⟩
def fM.push{g c:N}{P:aD}{h:ad}{last':I}(e:fM a b d P (h,i) u w)(Q:ay x d (S (A g) (L h+1) c) (h++[j]))(U:w.grownBy x (af u))(D:af u=A g\/g=w):fM a b d (λq=>q=a\/q=b\/q=g) (h++[j],last') (S (A g) (L h+1) c) ((aj x a (S (A g) (L h+1) c)).setCell b last'):=by
 have r:=M.grown U λ_ f=>f;have G:=aR _ _ e.cl;have H:=aR _ _ e.ct;simp only at G H;have Y:g≠a:=λf=>by rcases D with p|p;exact e.ng.1 (f▸p);omega
 have ae:g≠b:=λf=>by rcases D with p|p;exact e.ng.2 (f▸p);omega
 have K:M (λl=>l=a) x (aj x a (S (A g) (L h+1) c)):=M.grown (bn _ _ _) (λl f=>X f.symm);have O:M (λl=>l=b) (aj x a (S (A g) (L h+1) c)) ((aj x a (S (A g) (L h+1) c)).setCell b last'):=M.grown (bn _ _ _) (λl f=>X f.symm);refine⟨O.cell (bP _ _ _ (by rw[r.cell e.cl e.ng.1];rfl)) e.B1.2.2,bP _ _ _ (by rw[K.cell (r.cell e.ct e.ng.2) (λf=>e.B1.2.2 f.symm)];rfl),by rw[bs,bs];exact r.free e.zl G e.ng.1,by rw[bs,bs];exact r.free e.zt H e.ng.2,(Q.bl K (λl s f=>by simp[af]at s;omega)).bl O (λl s f=>by simp[af]at s;omega),e.B1,⟨by simp[af,Y],by simp[af,ae]⟩,by funext q;simp[af,eq_comm]⟩
def zl(a:W)(c d e:I):∃b,a.alloc (az #[c,d,e] 358)=b/\B a a b/\b.heap.size=(a:N)+1/\C b a=A (aa ac c)/\C b ⟨a,1,Z⟩=A (aa ac d)/\C b ⟨a,2,Z⟩=A (aa ac e):=⟨_,J,aN _ _,D,aE,aE,aE⟩
def QT(a:W)(c:V):∃b,a.alloc (az #[c] 22)=b/\B a a b/\b.heap.size=(a:N)+1/\C b a=A c/\aH b a=F:=⟨_,J,aN _ _,D,aE,aE⟩
def QU(cm bm a1 a2:I)(cn:bz)(aL co:N)(cG cH cI cJ cK cL:V)(b3:Bool)(b5:I)(bo:ai)(a3:ar)(a4 a5:I)(e:W)(d3:aL<=1000000)(bq:j8 e aL bo a1 a2 a3 cH cI b3 cJ b5 cK cL)(cM:bt e cG bo)(d4:a6 a3<=1000000):ap ab 289 #[ao #[aa ac cm,aa ac bm,aa ac a1,aa ac a2,S cn aL co,cG,cH,cI,au b3,cJ,aa ac b5,cK,cL],ao #[aa ac a4,aa ac a5]] e (l1 e (kx (cU aL bo bm a1 a2 a3 a4 a5))):=by
 obtain⟨d5,cN,dd,de,df⟩:=rr e (aa ac cm) (aa ac bm) (aa ac a1) (aa ac a2) (S cn aL co) cG cH cI (au b3) cJ (aa ac b5) cK cL;obtain⟨b6,cO,a8,dg,cP,cQ⟩:=eU d5 a4 a5;obtain⟨b7,cR,bD,dh,di,m⟩:=QT b6 (S Z 0 0);obtain⟨cS,cT,cp,d6,a9,br⟩:=ye b7 (-1);rw[de]at cP cQ dg;have cq:=q bD cp;have cW:=q a8 cq;have dj:=q dd cW;have ad:=df.bw cW;have cX:=s cq cP;have cY:=s cq cQ;have dk:fM b6 b7 e (λb=>b=(b6:N)\/b=b7\/(S Z 0 0).ownBlock=A b) ([],-1) (S Z 0 0) cS:=⟨s cp di,a9,aY cp O m,br,ay.nil _ _,O,by simp[af],J⟩
 have d7:L a3<=1000000:=by obtain⟨_,_,_,rfl,ag,P,_⟩:=bq.gS.open;omega
 have d8:=QS (I9:=aL) (I0:=bo) (Kv:=bm) (Jv:=a1) (JV:=a2) (Jj:=a3) (Jo:=a4) (Jp:=a5);have cr:(cU aL bo bm a1 a2 a3 a4 a5).length<=3000000:=O
 have d9:=Q bq;have d':=Q cM;obtain⟨ea,eb,ec,rfl,_,_,_⟩:=cM.open;obtain⟨ed,ee,ef,rfl,_,_,_⟩:=bq.gS.open;obtain⟨eg,eh,ei,rfl,_,_,_⟩:=bq.on.open;obtain⟨ej,ek,el,rfl,_,_,_⟩:=bq.fa.open;obtain⟨em,en,eo,rfl,_,_,_⟩:=bq.lo.open;obtain⟨ep,eq,er,rfl,_,_,_⟩:=bq.le.open;have bE:(b6:N)=(e:N)+2:=O
 have bF:(b7:N)=(e:N)+3:=O
 have dl:(cS:N)=(e:N)+4:=O
 have dm:=Q (U bE (U bF dl));have dn:=Q dj;have dp:=Q dk;change H _ at cN cO cR cT ad cr;clear dj dk;have dq:=Q (U cX cY);clear bq cM dd a8 bD cp de dg dh d6 df cP cQ di m a9 br cq cW bE bF dl d8;refine m3 func289 J ?_;simp only[ntmps289,List.size_toArray,dx,et,Nat.reduceAdd,Nat.reduceSub,Array.replicate_succ,Array.replicate_zero,List.push_toArray,List.append_toArray,List.nil_append,List.cons_append];go_upto_region 1 with fail;rw[cN,cO];go_upto_region 2 with fail;rw[cR];go_upto_region 3 with fail;rw[cT];obtain⟨G,bE⟩:=K (b6:N);obtain⟨ah,bF⟩:=K (b7:N);rw[<-bE,<-bF]at dp;rw[<-bE,<-bF];rw[<-bE,<-bF]at dm;clear bE bF cN cO cR cT;have es:=ad 0 _ J;have ev:=ad 1 _ J;have ew:=ad 2 _ J;have ex:=ad 3 _ J;have ey:=ad 4 _ J;have ez:=ad 5 _ J;have eA:=ad 6 _ J;have eB:=ad 7 _ J;have eC:=ad 8 _ J;have eD:=ad 9 _ J;have eE:=ad 10 _ J;have eF:=ad 11 _ J;have eG:=ad 12 _ J;have cX:=dq.1;have cY:=dq.2;have eH:=Q (zg cm bm a1 a2 cn ea ed eg ej em ep aL co eb ec ee ef eh ei ek el en eo eq er b3 b5 a4 a5 cS);go_wp2_with fail;refine eH.mono ?_;rintro f aN ⟨eI,gk,rfl,dr,ds,g1,g2,g3,dt,cs⟩;have cZ:B e e aN:=dn.trans (cs.mono dn.size);have du:=Q (zj eI gk cm bm a1 a2 cn aL co _ _ _ _ _ _ b3 b5 bo a3 a4 a5 e aN d3 (λ_=>False) (λeJ c0=>d9.bw (M.BI c0)) (λeJ c0=>d'.bw (M.BI c0)) d4 d7 (M.bw cZ) dr ds);have dv:=dp.bw cs;have dw:=cs.size;have dy:=dm.oo;obtain⟨bV,cu⟩:=K (cU aL bo bm a1 a2 a3 a4 a5);have dz:∀dA∈bV,0<=dA.1:=λdA hp=>QQ (cu▸hp);rw[<-cu]at du cr⊢;have bG:=Q (U g1 (U g2 (U g3 dt)));have eK:=Q (U dw dy);have cv:=Q cZ;change H _ at dz;clear cZ;change H _ at cu dv;clear dr ds cs es ev ew ex ey ez eA eB eC eD eE eF eG cX cY g1 g2 g3 dt dw dy;go_wp2_with fail;refine nY J (enters_of func290 aT J) du (λ_=>rfl) (λal l cw=>(∃aA,fM G ah e l (gb al) aA cw)/\B e e cw/\(∀b,l b->b=G\/b=ah\/(aN:N)<=b)/\((gb al).1=[]->(gb al).2= -1)) _ (λal l cw e4 ⟨⟨aA,R⟩,aP,b8,dB⟩ dC=>⟨⟨aA,R.aO dC (λb f h=>h.2 f)⟩,aP.trans (dC.bg aP.size (λb bW f=>by have:=f.1;have:=cv.size;omega)),b8,dB⟩) (λal l cw ⟨⟨aA,R⟩,aP,b8,dB⟩ b f=>⟨(R.lt b f).2,λe5=>by have ag:=(R.lt b f).1;have P:=b8 b f;have c1:=bG.oo;have dD:=eK.oo;omega⟩) ⟨⟨_,dv⟩,cv,λb f=>(by rcases f with f|f|f;exact .inl f;exact .inr (.inl f);cases f),λ_=>rfl⟩ ?round ?done;case round=>
  intro e6 al i l u c2 aG dE cx;obtain⟨⟨aA,R⟩,aP,dF,b9⟩:=c2;obtain⟨e7,c3⟩:=aG;obtain⟨m,aX,g⟩:=i;have e8:0<=m:=dz (m,aX,g) (by rw[c3];simp);have bY:(gb al).1.length<=3000000:=by have:=zk al ([],-1);have P:=cr.oo;rw[c3,bL]at P;unfold gb;simp only[et]at this;omega
  have GB:gb (al++[(m,aX,g)])=jK (gb al) (m,aX,g):=by unfold gb;rw[List.foldl_append];rfl
  obtain⟨⟨k,bs⟩,ca⟩:=K (gb al);rw[<-ca]at R b9 bY GB;simp only at b9 bY;obtain⟨ba,bu⟩:=K ((aN:N)+1);rw[<-bu]at dE cx;obtain⟨eL,dG,cy,eM,a9,br,bb⟩:=zl u m aX g;have dH:=R.bw cy;have bH:=R.lt;change H _ at dG cy bu;change H _ at GB cx dF;clear R c3 ca;simp only[iC,List.zip_toArray,List.zip_cons_cons,List.zip_nil_left];gi_wp2;rw[dG];refine⟨cy,λj be=>?_⟩;rw[<-bu]at be;have c4:(u:N)≠ba:=O
  have a9:=be.cell a9 c4;have br:=be.cell br c4;have bb:=be.cell bb c4;have c5:=dH.aO be (λb f eN=>cx b f eN);have cc:M (λb=>b=ba) u j:=(M.bw (I':=λ_=>False) cy).trans be (λ_ _ f=>f.elim) I2;have e9:e<=ba:=by have:=bu.oo;have:=cv.size;omega
  have a8:B e e j:=aP.trans (cc.bg aP.size λb bW f=>O);have dK:ba<j.heap.size:=cg dE cc.size;have c6:=Q (λ(bI:aD) (bZ:E I×I) (dL:V) (D8:W) (ag:fM G ah e bI bZ dL D8) (P:M l j D8) (c1:∀b,bI b->l b\/(u:N)<=b) (dD:bZ.1=[]->bZ.2= -1)=>(by
   have e':(aN:N)<=u:=by have:=bu.oo;omega
   refine⟨bI,⟨⟨dL,ag⟩,a8.trans (P.bg a8.size λb bW f=>by have:=(bH b f).1;omega),λb f=>?_,dD⟩,cc.trans P (λ_ _ f=>.inr f) (λ_ _ f=>.inl f),P.block ba dK (λf=>cx ba f J),c1⟩;rcases c1 b f with h|h;exact dF b h;exact .inr (.inr O):∃bI,((∃aA,fM G ah e bI bZ aA D8)/\B e e D8/\(∀b,bI b->b=G\/b=ah\/(aN:N)<=b)/\(bZ.1=[]->bZ.2= -1))/\M (λb=>l b\/b=ba) u D8/\D8.heap[ba]? =j.heap[ba]?/\∀b,bI b->l b\/(u:N)<=b))
  have bv:=c5.cl;have bf:=c5.ct;have n:=Q c5;have fb:(u:N)+1=(eL:N):=eM.symm;have fc:=cc.size;clear be dH aP a8 cc;by_cases cd:m=bs
  ·have eO:(m !=bs)=F:=by simpa using cd
   have a0:=bb;have aI:=n;gi_upto_region 5 with fail;refine jY jI dI ?_;go_wp2_with fail;have ce:0<L k:=by cases k with|nil=>exact absurd (b9 J) O|cons=>simp
   have aC:ay j e aA k:=aI.own;obtain⟨aQ,cA,cf,dM,dN,dO,bx⟩:=aC.out ce;subst cf;obtain⟨v,am⟩:=K (L k);obtain⟨c,aS⟩:=K (v-1);have dP:c<v:=O
   have dQ:v<=3000000000000:=by rw[am];omega
   obtain⟨X,aK⟩:=bx c O;rw[bX]at X aK;obtain⟨av,ax⟩:=K (ae k c);try simp only at X
   rw[<-ax]at X;have aV:((v:I)-1)=(c:I):=O
   have bA:H (aB (c:I)=c):=Q (cV O O);have Y:=aI.cl;try simp only at Y
   rw[<-am]at Y;have dR:=aJ c;have dS:(c:I)<v:=O
   have DH:=aI.Bz c (min av g) O;have eP:=i3.cell Y;have cB:=i3.cell a0;have cC:=i3.cell X;have dT:=Q (U aS ax);have DI:jK (k,bs) (m,aX,g)=(k.set c (min av g),bs):=by unfold jK;simp only[cd,if_true];rw[ax,aS,am]
   have bB:M (λb=>b=aQ) j (aj j ⟨aQ,c,Z⟩ (aa ac (min av g))):=M.grown (bn _ _ _) (λi f=>by simpa using f.symm);have bC:=c6 _ (gb (al++[(m,aX,g)])) _ ((aj j ⟨aQ,c,Z⟩ (aa ac (min av g))).drew) vK (bB.drew.mono λb _ f=>by subst f;have h:=aI.has;rw[h];exact .inr (.inr J)) (λb f=>.inl f) (λh=>vp);change H _ at bC;change H _ at aV am;clear aS ax bx DH DI bB aC;gi_upto_region 7 with fail;refine vO [10,100,101,2,3,104,105,6,7,8,109,111,12,13,314] ?_;iterate 5 refine mS ?_
   try simp only[dJ]
   try rw[aV]
   try rw[bA]
   iterate 4 refine mS ?_
   try simp only[dJ]
   try rw[aV]
   try rw[bA]
   iterate 6 refine mS ?_
   clear eP cB cC;refine bc ?_;clear Y a0 X aK bv bf a9 br bb;gi_wp2;have h:=bC.oo;rw[bu]at h;exact h
  have eO:(m !=bs)=T:=by simpa using cd
  obtain⟨w,x,y,eQ⟩:∃eR v cA,aA=S eR v cA:=gM n.own;subst eQ;have Dg:∀i,(S w x y).ownBlock=A i->l i:=λi aG=>by rw[n.has];exact .inr (.inr aG)
  have CG:l G/\l ah:=by rw[n.has];exact⟨.inl J,.inr (.inl J)⟩
  have b0:¬(S w x y).ownBlock=A (u:N):=λf=>by have:=(bH _ (Dg _ f)).2;omega
  obtain⟨D8,c7,bD,dh,u0⟩:=iz j g;have c8:=(n.bw bD).bw (an D8);have bJ:B j.heap.size j D8.drew:=q bD (an D8);have fd:=(bH _ CG.1).2;have cB:=bU.cell (G:=λb=>(S w x y).ownBlock=A b\/b=G) a9 (λf=>by rcases f with f|f;exact b0 f;omega);have cC:=bU.cell (G:=λb=>(S w x y).ownBlock=A b\/b=G) bb (λf=>by rcases f with f|f;exact b0 f;omega);have fe:=bD.size;have dV:(e:N)<=D8.drew:=by show (e:N)<=D8;have:=dK;omega
  have cD:ay D8.drew e (S w x y) k:=c8.own;have dW:=Q c8;change H _ at c7 bJ;clear bD c8;gi_upto_region 5 with fail;refine jY jI dI ?_;go_wp2_with fail;gi_upto_region 6 with fail;refine xH ((.p 1 (.p 5 (.r 2 (.r 6 (.f 0 (.a 3 (.a 4 (.a 7 (.z 8 .d)))) 3 (.a 0 (.a 4 (.a 7 (.z 8 .d)))))))))) (dU (λb=>(S w x y).ownBlock=A b\/b=G) j) dI aT aT (.mk (M.refl _ _).drew) ?_;iterate 4 refine mS ?_
  refine gN (λbh o=>?_) (λbh o=>?_)
  ·go_simp;refine o _ _ (.mk (M.refl _ _).drew) ?_;refine aU λbh o=>?_;go_simp;try rw[c7]
   refine o _ _ (.mk (M.bw bJ)) ?_;clear cB cC;refine aU λbh o=>?_;refine kB (.tmp 16) (.tmp 19) J D8.drew e (S w x y) k g j.heap.size J J u0 cD O dV ?_;intro g1 ch bK ag bN CB c9;have aW:=dW.push (last':=m) ag bN CB;have t:M (λb=>(S w x y).ownBlock=A b) j bK:=(M.bw (I':=λ_=>False) bJ).trans (M.grown (I':=λb=>(S w x y).ownBlock=A b) bN (λ_ f=>f)) (λ_ _ f=>f.elim) I2;have c':=t.cell bv n.ng.1;have bO:=t.cell bf n.ng.2;have aK:=t.free n.zl (aR _ _ bv) n.ng.1;have bP:=t.free n.zt (aR _ _ bf) n.ng.2;have a0:=t.cell bb b0;refine o _ _ (.mk (t.mono λ_ _ f=>.inl f)) ?_;clear c9 ag;obtain⟨bR,bi⟩:=K (aj bK G (S (A g1) (L k+1) ch));rw[<-bi]at aW;have aE:M (λb=>b=G) bK bR:=by rw[bi];exact M.grown (bn _ _ _) (λi f=>by simpa using f.symm)
   have bO:=aE.cell bO (λf=>n.B1.2.2 f.symm);have bP:=aE.free bP (aR _ _ (t.cell bf n.ng.2)) (λf=>n.B1.2.2 f.symm);obtain⟨aF,bk⟩:=K (aj bR ah (aa ac m));rw[<-bk]at aW;have bS:M (λb=>b=ah) bR aF:=by rw[bk];exact M.grown (bn _ _ _) (λi f=>by simpa using f.symm)
   have da:G<u/\ah<u:=⟨(bH _ CG.1).2,(bH _ CG.2).2⟩
   have a0:=bS.cell (aE.cell a0 O) O;have db:M l j aF:=((t.mono (λi _ f=>Dg i f)).trans aE I2 (λi _ f=>f▸CG.1)).trans bS I2 (λi _ f=>f▸CG.2);have ci:∀b,(b=G\/b=ah\/b=g1)->l b\/(u:N)<=b:=λb f=>KJ
   have bG:∀b,b<j.heap.size->b=g1->l b:=λb bW f=>by rcases CB with h|h;exact f▸Dg _ h;have:g1=D8:=h;omega
   obtain⟨cj,bT⟩:=K (S (A g1) (L k+1) ch);have ck:∀b,af cj=A b->b=g1:=λb f=>by rw[bT]at f;simpa[af]using f.symm
   rw[<-bT]at aW;have aI:=Q aW;have eV:=Q Dg;change H _ at ck bG ci;clear Dg CG b0 da;refine aU λbh o=>?_;go_simp;try rw[<-bi]
   refine o _ _ (.mk ((t.mono λ_ _ f=>.inl f).trans aE I2 (λ_ _ f=>.inr f))) ?_;change H _ at bi bk bT;clear aW CB bN aE bS t cD u0;refine b4 λbh o=>?_;go_simp;try rw[<-bk]
   refine o _ _ ?_;refine bc ?_;clear c' bO aK bP;have ce:0<(k++[g]).length:=D
   have aC:ay aF e cj (k++[g]):=aI.own;obtain⟨aQ,cA,cf,dM,dN,dO,bx⟩:=aC.out ce;subst cf;obtain⟨v,am⟩:=K ((k++[g]).length);obtain⟨c,aS⟩:=K (v-1);have dP:c<v:=O
   have dQ:v<=3000000000000:=by rw[am];rw[bL,eu];omega
   obtain⟨X,aK⟩:=bx c O;rw[bX]at X aK;obtain⟨av,ax⟩:=K (ae (k++[g]) c);try simp only at X
   rw[<-ax]at X;have aV:((v:I)-1)=(c:I):=O
   have bA:H (aB (c:I)=c):=Q (cV O O);have Y:=aI.cl;try simp only at Y
   rw[<-am]at Y;have dR:=aJ c;have dS:(c:I)<v:=O
   have DH:=aI.Bz c (min av g) O;have dT:=Q (U aS ax);have DI:jK (k,bs) (m,aX,g)=((k++[g]).set c (min av g),m):=by unfold jK;simp only[ak cd];rw[ax,aS,am]
   have bB:M (λb=>b=aQ) aF (aF.setCell ⟨aQ,c,none⟩ (.int .i64 (min av g))):=M.grown (bn _ _ _) (λi f=>by simpa using f.symm);have bC:=c6 _ (gb (al++[(m,aX,g)])) _ ((aj aF ⟨aQ,c,Z⟩ (aa ac (min av g))).drew) vK (db.trans bB.drew I2 (λi aG f=>bG i aG (ck i (by rw[f];rfl)))) (λb f=>ci b f) (λh=>vp);change H _ at bC;change H _ at aV am;clear aS ax bx DH DI bB aC;gi_upto_region 7 with fail;refine vO [10,100,101,2,3,104,105,6,7,8,109,111,12,13,314] ?_;iterate 5 refine mS ?_
   try simp only[dJ]
   try rw[aV]
   try rw[bA]
   iterate 4 refine mS ?_
   try simp only[dJ]
   try rw[aV]
   try rw[bA]
   iterate 6 refine mS ?_
   refine bc ?_;clear Y a0 X aK bv bf a9 br bb;gi_wp2;have h:=bC.oo;rw[bu]at h;exact h
  go_simp;try rw[c7]
  refine o _ _ (.mk (M.bw bJ)) ?_;have eW:=s bJ bv;refine aU λbh o=>?_;go_simp;refine o _ _ (.mk (M.bw bJ)) ?_;clear cB cC eW;refine aU λbh o=>?_;refine kB (.tmp 16) (.tmp 19) J D8.drew e (S w x y) k g j.heap.size J J u0 cD O dV ?_;intro g1 ch bK ag bN CB c9;have aW:=dW.push (last':=m) ag bN CB;have t:M (λb=>(S w x y).ownBlock=A b) j bK:=(M.bw (I':=λ_=>False) bJ).trans (M.grown (I':=λb=>(S w x y).ownBlock=A b) bN (λ_ f=>f)) (λ_ _ f=>f.elim) I2;have c':=t.cell bv n.ng.1;have bO:=t.cell bf n.ng.2;have aK:=t.free n.zl (aR _ _ bv) n.ng.1;have bP:=t.free n.zt (aR _ _ bf) n.ng.2;have a0:=t.cell bb b0;refine o _ _ (.mk (t.mono λ_ _ f=>.inl f)) ?_;clear c9 ag;obtain⟨bR,bi⟩:=K (aj bK G (S (A g1) (L k+1) ch));rw[<-bi]at aW;have aE:M (λb=>b=G) bK bR:=by rw[bi];exact M.grown (bn _ _ _) (λi f=>by simpa using f.symm)
  have bO:=aE.cell bO (λf=>n.B1.2.2 f.symm);have bP:=aE.free bP (aR _ _ (t.cell bf n.ng.2)) (λf=>n.B1.2.2 f.symm);obtain⟨aF,bk⟩:=K (aj bR ah (aa ac m));rw[<-bk]at aW;have bS:M (λb=>b=ah) bR aF:=by rw[bk];exact M.grown (bn _ _ _) (λi f=>by simpa using f.symm)
  have da:G<u/\ah<u:=⟨(bH _ CG.1).2,(bH _ CG.2).2⟩
  have a0:=bS.cell (aE.cell a0 O) O;have db:M l j aF:=((t.mono (λi _ f=>Dg i f)).trans aE I2 (λi _ f=>f▸CG.1)).trans bS I2 (λi _ f=>f▸CG.2);have ci:∀b,(b=G\/b=ah\/b=g1)->l b\/(u:N)<=b:=λb f=>KJ
  have bG:∀b,b<j.heap.size->b=g1->l b:=λb bW f=>by rcases CB with h|h;exact f▸Dg _ h;have:g1=D8:=h;omega
  obtain⟨cj,bT⟩:=K (S (A g1) (L k+1) ch);have ck:∀b,af cj=A b->b=g1:=λb f=>by rw[bT]at f;simpa[af]using f.symm
  rw[<-bT]at aW;have aI:=Q aW;have eV:=Q Dg;change H _ at ck bG ci;clear Dg CG b0 da;refine aU λbh o=>?_;go_simp;try rw[<-bi]
  refine o _ _ (.mk ((t.mono λ_ _ f=>.inl f).trans aE I2 (λ_ _ f=>.inr f))) ?_;change H _ at bi bk bT;clear aW CB bN aE bS t cD u0;refine b4 λbh o=>?_;go_simp;try rw[<-bk]
  refine o _ _ ?_;refine bc ?_;clear c' bO aK bP;have ce:0<(k++[g]).length:=D
  have aC:ay aF e cj (k++[g]):=aI.own;obtain⟨aQ,cA,cf,dM,dN,dO,bx⟩:=aC.out ce;subst cf;obtain⟨v,am⟩:=K ((k++[g]).length);obtain⟨c,aS⟩:=K (v-1);have dP:c<v:=O
  have dQ:v<=3000000000000:=by rw[am];rw[bL,eu];omega
  obtain⟨X,aK⟩:=bx c O;rw[bX]at X aK;obtain⟨av,ax⟩:=K (ae (k++[g]) c);try simp only at X
  rw[<-ax]at X;have aV:((v:I)-1)=(c:I):=O
  have bA:H (aB (c:I)=c):=Q (cV O O);have Y:=aI.cl;try simp only at Y
  rw[<-am]at Y;have dR:=aJ c;have dS:(c:I)<v:=O
  have DH:=aI.Bz c (min av g) O;have dT:=Q (U aS ax);have DI:jK (k,bs) (m,aX,g)=((k++[g]).set c (min av g),m):=by unfold jK;simp only[ak cd];rw[ax,aS,am]
  have bB:M (λb=>b=aQ) aF (aF.setCell ⟨aQ,c,none⟩ (.int .i64 (min av g))):=M.grown (bn _ _ _) (λi f=>by simpa using f.symm);have bC:=c6 _ (gb (al++[(m,aX,g)])) _ ((aj aF ⟨aQ,c,Z⟩ (aa ac (min av g))).drew) vK (db.trans bB.drew I2 (λi aG f=>bG i aG (ck i (by rw[f];rfl)))) (λb f=>ci b f) (λh=>vp);change H _ at bC;change H _ at aV am;clear aS ax bx DH DI bB aC;gi_upto_region 7 with fail;refine vO [10,100,101,2,3,104,105,6,7,8,109,111,12,13,314] ?_;iterate 5 refine mS ?_
  try simp only[dJ]
  try rw[aV]
  try rw[bA]
  iterate 4 refine mS ?_
  try simp only[dJ]
  try rw[aV]
  try rw[bA]
  iterate 6 refine mS ?_
  refine bc ?_;clear Y a0 X aK bv bf a9 br bb;gi_wp2;have h:=bC.oo;rw[bu]at h;exact h
 case done=>
  intro l u c2 o dc;obtain⟨⟨aA,R⟩,aP,b8,b9⟩:=c2;have bY:(gb bV).1.length<=3000000:=by have:=zk bV ([],-1);have P:=cr.oo;unfold gb;simp only[et]at this;omega
  have cE:kx bV=cF (gb bV).1:=J;obtain⟨⟨k,bs⟩,ca⟩:=K (gb bV);rw[<-ca]at R bY cE;simp only at bY cE;have aC:ay u e aA k:=R.own;have eX:=Q (rg aA k e u aC O);obtain⟨w,x,y,eY⟩:=gM aC;subst eY;have Y:=R.cl;have Dg:∀i,(S w x y).ownBlock=A i->l i:=λi aG=>by rw[R.has];exact .inr (.inr aG)
  have dX:=aC.lt;have dY:=R.ng.1;have eZ:=(bM.1 o).1;have e0:=Q (λ(j:W) (ag:ay j e (S w x y) (cF k)) (b2:u.grownBy j (S w x y).ownBlock)=>(by have be:j.heap[(aN:N)]? =A (.deferred (A [])):=(b2.block _ eZ (λf=>dc _ (Dg _ f.symm) J)).trans o;have dZ:=hc j aN (.deferred Z);refine⟨be,b2.cell Y (λf=>dY f.symm),ag.bl dZ (λi aG f=>dc i (Dg i aG) f),?_⟩;have a8:=aP.grown b2 aP.size (λb bW=>(dX b bW).1);exact a8.trans (dZ.bg a8.size λi aG f=>by have:=cv.size;omega):j.heap[(aN:N)]? =A (.deferred (A []))/\C j G=A (S w x y)/\ay (j.putObj aN (.deferred Z)) e (S w x y) (cF k)/\B e e (j.putObj aN (.deferred Z))));change H _ at cE;clear R aP b8 b9 ca aC o dc Dg dX dY bY;go_wp2_with fail;refine mU eX λj ⟨ag,b2⟩=>?_;obtain⟨d0,ff,d1,d2⟩:=e0 j ag b2;change H _ at d0 d1 d2;clear ag b2 Y;go_wp2_with fail;exact kK (Kl:=S w x y) d0 (by simp[results,results289,go_sem]) ⟨_,J,by rw[<-cu,cE];exact d1,d2⟩
def no(a:ad):I:=if 1<L a then aB (ae a 1-ae a 0)else 1099511627776
def f3(b:N->ad):N->a4
 |0=>(-1,0)
 |a+1=>if(f3 b a).1<0\/(f3 b a).2<no (b a)then((a:I),no (b a))else f3 b a
def ib(b:N->ad)(c:N):I:=match(List.range c).find? (λa=>decide (b a=[]))with
 |some a=>(a:I)
 |none=>(f3 b c).1
def QV(c:N->ad)(d a:N)(e:a<d)(f:∀b,b<a->c b≠[])(g:c a=[]):ib c d=(a:I):=by unfold ib;rw[yp (List.range d) a (X e) (λb h=>by simp;exact f b h) (by simp;exact g)];simp
def QW(b:N->ad)(c:N)(e:∀a,a<c->b a≠[]):ib b c=(f3 b c).1:=by
 unfold ib;have:(List.range c).find? (λa=>decide (b a=[]))=Z:=List.find?_eq_none.2 λa d=>by simp at d;simp;exact e a d
 rw[this]
def zm(b:N->ad)(a:N)(f:0<a):0<=(f3 b a).1/\(f3 b a).1<a:=by
 induction a with
  |zero=>omega
  |succ a c=>
   unfold f3;split;simp only;omega;rename_i d;by_cases e:0<a;have:=c e;omega;have:a=0:=O
   subst this;exact absurd (.inl (by simp[f3])) d
def KF(b:N->ad)(a:N)(c:0<a):0<=ib b a/\ib b a<a:=by unfold ib;split;rename_i e d;have:=List.mem_of_find?_eq_some d;simp at this;omega;exact zm b a c
def QX(aO l i j:I)(aP:bz)(g aQ:N)(P R Y ah av ax bb:V)(ay:Bool)(aA:I)(m:ai)(n:ar)(d:ag)(q:W)(bR:g<=1000000)(o:j8 q g m i j n R Y ay ah aA av ax)(aT:bt q P m)(be:a6 n<=1000000)(bf:ba q bb d)(bS:L d<=1000000):ap ab 272 #[ao #[aO,l,i,j,S aP g aQ,P,R,Y,au ay,ah,aA,av,ax],bb] q (fW q (ib (λb=>kx (cU g m l i j n (al d b).1 (al d b).2)) (L d))):=by
 have⟨bg,bh,aU,bU,bi⟩:=rr q aO l i j (S aP g aQ) P R Y (au ay) ah aA av ax;have bV:=Q (λbl aC aD x=>QU aO l i j aP g aQ P R Y ah av ax ay aA m n aC aD bl bR (o.bw x) (aT.bw x) be);obtain⟨cw,cx,cy,rfl,_,_,_⟩:=aT.open;obtain⟨cz,cA,cB,rfl,_,_,_⟩:=o.gS.open;obtain⟨cC,cD,cE,rfl,_,_,_⟩:=o.on.open;obtain⟨cF,cG,cH,rfl,_,_,_⟩:=o.fa.open;obtain⟨cI,cJ,cK,rfl,_,_,_⟩:=o.lo.open;obtain⟨cL,cM,cN,rfl,_,_,_⟩:=o.le.open;obtain⟨cO,e,cP,rfl,bm,_,bn⟩:=bf.open;have cQ:e<=1000000:=O
 obtain⟨a,aV⟩:∃a:N->ad,a=λb=>kx (cU g m l i j n (al d b).1 (al d b).2):=⟨_,J⟩
 have bW:=Q (λb=>congrFun aV b);have bX:=Q (λJN (h:JN<e)=>QV a e JN h);have bZ:=Q (QW a e);have bo:H (ib (λb=>kx (cU g m l i j n (al d b).1 (al d b).2)) (L d)=ib a e):=Q (by rw[aV,bm]);have b0:H (∀JN,f3 a (JN+1)=if(f3 a JN).1<0\/(f3 a JN).2<no (a JN)then((JN:I),no (a JN))else f3 a JN):=Q (λ_=>rfl);have cR:=Q (λJN (h:0<JN)=>zm a JN h);have bq:=aU.size;have br:=Q aU;have b2:=Q bi;change H _ at bh;clear aU bi;change H _ at bn;clear o aT bf bS bU bm aV be;go_in;go_upto_region 1 with fail;rw[bh];go_wp2;go_loopw [5,6,13] (λy z b wr=>∃JN:N,b=(JN:I)/\JN<=e/\y=aa ac (f3 a JN).1/\z=aa ac (f3 a JN).2/\(∀f,f<JN->a f≠[])/\B bg bg wr) (λ_ _ b _=>e-(aw b).toNat);exact⟨0,J,a3 _,J,J,λf bs=>absurd bs (fx _),aS _ _⟩;obtain⟨JN,rfl,cS,rfl,rfl,D,s⟩:=hrel;obtain⟨b3,rfl⟩:=K wr;by_cases Ch:JN<e
 ·obtain⟨cT,cV,rfl,t,f1⟩:=bn JN Ch;have G:=br.trans (s.mono bq);have t:=bk G (aR _ _ t) t;have f1:=bk G (aR _ _ f1) f1;have cW:=aJ JN;have cX:(JN:I)<e:=by omega
  have aW:a JN=kx (cU g m l i j n (al d JN).1 (al d JN).2):=bW JN;have⟨⟨aC,aD⟩,bu⟩:=K (al d JN);rw[<-bu]at t f1 aW;simp only at t f1;have⟨b5,bx,aX,b6,b7,b8⟩:=eU b3 aC aD;have aY:=G.trans (aX.mono G.size);have a0:=s.trans (aX.mono s.size);have c:=b2.bw a0;have a1:=Q (bV.oo b5 aC aD aY);rw[<-aW]at a1;have b9:=c 0 _ J;have b':=c 1 _ J;have ca:=c 2 _ J;have cc:=c 3 _ J;have cd:=c 4 _ J;have ce:=c 5 _ J;have cf:=c 6 _ J;have cg:=c 7 _ J;have ch:=c 8 _ J;have ci:=c 9 _ J;have cj:=c 10 _ J;have ck:=c 11 _ J;have cl:=c 12 _ J;have u:=b0 JN;have a4:=bX JN Ch D;have⟨y,hp⟩:=K ((f3 a JN).1);have⟨z,aE⟩:=K ((f3 a JN).2);have⟨M,aG⟩:=K (a JN);rw[<-hp,<-aE,<-aG]at u;rw[<-aG]at a1 a4;have cm:=Q D;have a5:=Q (U hp (U aE aG));rw[<-hp,<-aE];have bA:=Q a0;have bB:=Q aY;change H _ at bx u a4;clear a0 aY;clear s G aX b6 c bu aW hp aE aG D;go_upto_region 5 with fail;rw[bx];clear t f1;go_wp2_with fail;refine mE a1 λbC cY ⟨bD,a8⟩=>?_;obtain⟨cZ,k,c0,rfl,bE,c1,v⟩:=bD.ints.open;have bF:=bA.trans (a8.mono bA.size);have bG:=bB.trans (a8.mono bB.size);have bH:=Q bF;change H _ at bG;clear bF;clear bD a8 b9 b' ca cc cd ce cf cg ch ci cj ck cl b7 b8;by_cases c2:k=0
  ·have cn:((k:I)==0)=T:=by simp;omega
   have Du:ib a e=(JN:I):=a4 (dn.1 O);change H _ at Du;clear v;go_wp2;go_ret;rw[bo,Du];exact⟨J,bG⟩
  have cn:((k:I)==0)=F:=aF
  have bI:a JN≠[]:=λbJ=>by rw[<-a5.2.2]at bJ;rw[bJ]at bE;simp at bE;omega
  have⟨w,aI⟩:=K (no M);rw[<-aI]at u;change H _ at aI bI;go_upto_if 27 with fail;go_cut [10] (λco cp=>co=w/\B bC bC cp);case first=>
   by_cases cq:1<k
   ·obtain⟨c3,c4,rfl,a9⟩:=v 0 O;have⟨_,_,bK,g1⟩:=v 1 cq;simp only[a2,bN,bT]at bK;obtain⟨rfl,rfl⟩:=bK;simp only[eX]at a9;have p:w=aB (ae M 1-ae M 0):=by rw[aI,no,am O]
    have⟨c5,bL⟩:=K (ae M 1);have⟨bl,x⟩:=K (ae M 0);rw[<-bL]at g1 p;rw[<-x]at a9 p;have cr:(1:I)<k:=O
    have c6:(0:I)<k:=O
    have c7:0<k:=O
    change H _ at p;clear bL x v;go_upto_region 9 with fail;refine bv [0,1,3,4,102,105,6,7] ?_;iterate 7 refine mS ?_
    try simp only[dJ]
    refine mS ?_;refine bc ?_;clear a9 g1;go_wp2;go_meet;exact⟨by rw[p],an _⟩
   have cr:¬(1:I)<k:=O
   have p:w=1099511627776:=by rw[aI,no,ak O]
   change H _ at p;clear v;go_wp2;go_meet;exact⟨by rw[p],aS _ _⟩
  case rest=>
  obtain⟨rfl,bM⟩:=hcut;have Is:=bH.trans (bM.mono bH.size);have F6:∀f,f<JN+1->a f≠[]:=λf bs=>by
   by_cases cs:f<JN;exact cm f cs;have:f=JN:=O
   subst this;exact bI
  change H _ at Is F6;clear bM v;by_cases aL:y<0
  ·have ct:decide (y<0)=T:=by simpa using aL
   have Du:=u.oo;rw[am (.inl aL)]at Du;exact wE
  have ct:decide (y<0)=F:=X aL
  by_cases aN:z<w
  ·have cu:decide (z<w)=T:=by simpa using aN
   have Du:=u.oo;rw[am (.inr aN)]at Du;exact wE
  have cu:decide (z<w)=F:=X aN
  have Du:=u.oo;rw[ak (λh=>by rcases h with h|h;exact aL h;exact aN h)]at Du;change H _ at Du;go_wp2;go_roundw;case rel=>exact⟨JN+1,aK,O,by rw[Du,<-a5.1],by rw[Du,<-a5.2.1],F6,Is⟩
  exact bY
 have cv:JN=e:=O
 subst cv;have bO:=bZ D;have bP:=br.trans (s.mono bq);change H _ at bO bP;clear D s;go_wp2;go_ret;rw[bo,bO];exact⟨J,bP⟩
end
def ic(a:I)(b:ag):ag:=b.filter λc=>c.1 !=a
def mh(c:I)(a:I)(d:ag):I:=d.foldl (λa b=>if b.1=c then aB (a+b.2)else a) a
def fN(a:I)(b:ar)(c:N):ar:=((b.take c).map (ic a)).filter λd=>decide (d≠[])
def mi(a:I)(b:ar)(c:N):I:=(b.take c).foldl (mh a) 0
def QY(c:I)(a:ar)(b:N)(d:b<L a):fN c a (b+1)=fN c a b++if ic c (ah a b)=[]then[]else[ic c (ah a b)]:=by unfold fN;rw[nd a b d,ck,h1];by_cases e:ic c (ah a b)=[]<;>simp[e]
def QZ(c:I)(a:ar)(b:N)(d:b<L a):mi c a (b+1)=mh c (mi c a b) (ah a b):=by unfold mi;rw[nd a b d,List.foldl_append];rfl
def Q0(c:I)(a:ag)(b:N)(d:b<L a):ic c (a.take (b+1))=ic c (a.take b)++if(al a b).1=c then[]else[al a b]:=by unfold ic;rw[iq a b d,h1];by_cases e:(al a b).1=c<;>simp[e]
def Q1(c d:I)(a:ag)(b:N)(e:b<L a):mh c d (a.take (b+1))=if(al a b).1=c then aB (mh c d (a.take b)+(al a b).2)else mh c d (a.take b):=by unfold mh;rw[iq a b e,List.foldl_append];rfl
def zn(b:I)(a:ag):(ic b a).length<=L a:=List.length_filter_le _ _
def Q2(b:I)(a:ar)(c:N):(fN b a c).length<=L a:=a1 (List.length_filter_le _ _) qk
def Q3(a:W)(f:ar)(g:I)(h:bp)(b:W):Prop:=∃c d e,h=aq (aZ #[ao #[S c d e],g])/\aI bb (λi=>i<(a:N)) b (S c d e) f/\B a a b
def Q4(aV:V)(d:ar)(b:I)(e:W)(aI:bb e aV d)(bG:cx d):ap ab 259 #[ao #[aV],(b:I)] e (Q3 e (fN b d (L d)) (mi b d (L d))):=by
 have⟨co,bH,bI,bJ,aL⟩:=c8 e aV;have⟨ai,bK,u,an,aN,aX⟩:=cP co (S Z 0 0);have⟨a0,bL,ax,bM,a2,a4⟩:=cP ai (S Z 0 0);rw[bJ]at aN aX an;rw[an]at a2 a4 bM;have bN:=q bI (q u ax);have cp:=s (q u ax) aL;have bO:=s ax aN;have bP:=aY ax (aR _ _ aN) aX;have a5:bS 98 ba (·<(ai:N)) a0 ai (S Z 0 0) [] (fN b d 0) a0:=bS.start (by rw[an];exact a2) (by rw[an];exact a4) (aS _ _);obtain⟨da,G,db,rfl,aO,dc,bR⟩:=aI.open;have a6:H ((ai:N)=(e:N)+2):=Q O;have cq:=Q (λa (aI:a<G)=>U (QY b d a O) (QZ b d a O));have bT:=Q (λa=>Q2 b d a);rw[aO];have bU:=Q bN;change H _ at bH bK bL bO bP a5 aO bR;clear bN;change H _ at bG;clear aI bI u ax bJ an bM aL aN aX a2 a4;go_in;go_upto_region 1 with fail;rw[bH,bK];go_upto_region 2 with fail;rw[bL];have⟨M,bV⟩:=K (ai:N);rw[<-bV]at a6 a5⊢;change H _ at bV;go_wp2_with fail;clear cp;go_loopw [7,16] (λaQ v wr=>∃(a:N) (a8:V) (a9:aP),v=(a:I)/\a<=G/\aQ=(mi b d a)/\bS 98 ba (·<M) a0 M a8 a9 (fN b d a) wr) (λ_ v _=>G-(aw v).toNat);exact⟨0,_,_,J,a3 _,J,a5⟩;obtain⟨a,a8,a9,rfl,cr,rfl,h⟩:=hrel;obtain⟨bc,rfl⟩:=K wr;have be:B e e bc:=bU.trans (h.bw.mono (Y a6.oo));by_cases Ch:a<G
 ·have⟨f,aT⟩:=cq a Ch;have⟨bX,bg⟩:=K (fN b d a);have cs:H (L bX+1<=1000000000000):=Q (by rw[bg];have:=bT a;have:=aO.oo;omega);rw[<-bg]at h f;obtain⟨aQ,de,ct,i,cu,rfl,j,hp⟩:=bR a Ch;have j:=s be j;have df:=aJ a;have dg:(a:I)<G:=by omega
  have⟨bh,bZ,bl,cv,cw⟩:=d0 bc (S ct i cu);have b2:=h.next bl;have bm:=hp.bw (q be bl);have cy:=bG a;have⟨g,b3⟩:=K (ah d a);rw[<-b3]at bm cy f aT;have⟨_,_,_,aU,cz,_,b4⟩:=bm.open;simp only[bf]at aU;obtain⟨rfl,rfl,rfl⟩:=aU;have b5:=Q (λc (aI:c<i)=>U (Q0 b g c O) (Q1 b (mi b d a) g c O));have dh:=Q (λc=>zn b (g.take c));have bn:g.take i=g:=cm O;have di:i<=1000000:=O
  have⟨b6,bo⟩:=K (mi b d a);rw[<-bo]at aT b5;rw[<-bo];have cA:H (∀c,(ic b (g.take c)).length<=i):=Q (λc=>a1 (zn b _) oZ);have b7:=Q b2;have ay:=Q f;have cB:=Q aT;change H _ at bZ b4 bn;clear f aT;clear h hp cv bl be bm b3 bg bo cz b2;go_upto_region 6 with fail;rw[bZ];clear j;go_wp2_with fail;clear cw;have⟨aA,b8⟩:=K (bh:N);have P:=Q b8;clear b8;go_loopw [7,10,23] (λaQ cC v wr=>∃(c:N) (aC:V),v=(c:I)/\c<=i/\aC=cC/\aQ=(mh b b6 (g.take c))/\aW 89 wr aA aC (ic b (g.take c))/\B aA bh wr) (λ_ _ v _=>i-(aw v).toNat);exact⟨0,_,J,a3 _,J,J,aW.nil _ _ _,aS _ _⟩;obtain⟨c,aC,rfl,dj,rfl,rfl,m,n⟩:=hrel;obtain⟨bq,rfl⟩:=K wr;by_cases R:c<i
  ·obtain⟨dk,dl,rfl,j,f1⟩:=b4 c R;have j:=bk (P.oo▸n) (aR _ _ j) j;have f1:=bk (P.oo▸n) (aR _ _ f1) f1;have dm:=aJ c;have dp:(c:I)<i:=by omega
   have⟨k,l⟩:=b5 c R;have⟨⟨ad,br⟩,b9⟩:=K (al g c);rw[<-b9]at j f1 k l;simp only at j f1 k l;have⟨dq,bs⟩:=K (mh b b6 (g.take c));rw[<-bs]at l;rw[<-bs];have⟨w,x,y,bt,cD,cE⟩:=eU bq ad br;have aD:=m.bw y;have bu:B aA bh w:=n.trans (y.mono (bi P.oo n.size));have cF:=cA c;have cG:aA<=(w:N):=bi P.oo bu.size
   have b':=Q bu;clear bu;replace x:=Q x;replace aD:=Q aD;clear bt y n m b9 bs;go_upto_region 10 with fail;rw[x];clear j f1;by_cases z:ad=b
   ·have cH:(ad==b)=T:=by simpa using z
    rw[am z,e']at k;rw[am z]at l;have bv:=aD.oo;rw[<-k]at bv;have bx:=Q k;have bz:=Q l;change H _ at bv;clear k l;clear z;go_wp2;go_roundw;case rel=>exact⟨c+1,_,aK,O,J,by rw[bz],bv,b'⟩
    simp only[aw];first|exact dZ R|exact ea R O
   have cH:(ad==b)=F:=X z
   rw[ak z]at k l;have⟨bA,cI,cJ,cK,u0,u1⟩:=eU w ad br;have bx:=Q k;have bz:=Q l;clear k l;have⟨bB,ae⟩:=K (ic b (g.take c));rw[<-ae]at aD bx cF;change H _ at cI;clear z cJ cK u0 u1 ae;go_wp2_with (at_builtin;refine wU J _ _ 96 89 _ underlying96 fv J J w aA aC bB ad br J J aD O cG ?_);intro cL dr ds bC cM ca bD cN;have cc:=b'.trans ca;rw[<-bx]at bC;change H _ at bC cc;clear cM ca bD cN cD cE;go_wp2;go_roundw;case rel=>exact⟨c+1,_,aK,O,J,by rw[bz],bC,cc⟩
   simp only[aw];first|exact dZ R|exact ea R O
  have cO:c=i:=O
  subst cO;rw[bn]at m;rw[bn,<-cB];have o:=b7.next (P.oo▸n);have⟨bB,ae⟩:=K (ic b g);rw[<-ae]at m ay;have⟨aE,ag⟩:=K (L bB);obtain⟨cd,ce,aU⟩:∃cQ b,aC=S cQ aE b:=by rcases bW m with⟨rfl,cR⟩|⟨cL,cS,rfl,_⟩;exact⟨Z,0,by rw[ag,cR]⟩;exact⟨_,_,by rw[ag]⟩
  subst aU;by_cases cf:aE=0
  ·subst cf;have f:=ay.oo;rw[am (dn.1 ag.symm),e']at f;rw[<-f]at o;have cT:=Q o;clear o;clear m n ae ag f;go_wp2;go_roundw;case rel=>exact⟨a+1,_,_,aK,O,J,cT⟩
   exact bY
  have f:=ay.oo;rw[ak (λcU=>cf (by rw[ag,cU];rfl))]at f;have dt:(0:I)<aE:=O
  obtain⟨p,r,t,rfl,cV,cW⟩:=o.form;have⟨w,x,y,bt,cg⟩:=d0 bq (S cd aE ce);have aG:=o.next y;have ch:=(b7.qd m (Nat.le_of_eq P.symm)).bw y;have cX:=Q (d2 cg);have aL:=o.cell;have cY:=o.free;have cZ:M+1<=(w:N):=aG.lt;have c0:=Q aG.cell;have c1:=Q aG.free;have ay:=Q f;have ci:=Q aG;replace x:=Q x;change H _ at ch cV cW;clear f aG;clear m n ae ag o y bt cg;go_wp2_with (at_builtin;rw[x];refine fr J _ _ 93 98 (ao #[S Z 0 0]) 1 24 underlying93 lI J av av J w (M+1) (S p r t) (L bX) a9 [S cd aE ce] bq J J cX J eP ci.own cs cZ ?_);intro g2 cS bA cj ck u cl bD c2;have bE:=ci.push ch cj ck cl;rw[<-ay]at bE;have du:C bA M=A (S p r t):=bk u (fD _) c0;have dv:aH bA M=F:=ex u (fD _) c1;change H _ at bE;clear cj ck u cl bD c2 aL cY;go_wp2;go_roundw;case rel=>exact⟨a+1,_,_,aK,O,J,bE⟩
  exact bY
 have c3:a=G:=O
 subst c3;obtain⟨p,r,t,rfl,c4,c5⟩:=h.form;have c6:=bT a;have c7:=a6.oo;have c9:=bk h.bw O bO;have dw:=ex h.bw O bP;have bF:=U ((h.qc (Y aO.oo)).set ⟨(e:N)+1,0,Z⟩ (S p r t) (G':=λa=>a<(e:N)) aF (λa cr=>O)) ((bU.trans (h.bw.mono O)).setCell (p:=⟨(e:N)+1,0,Z⟩) D (S p r t));have cn:(bc.setCell ⟨(e:Nat)+1,0,none⟩ (.slice p r t)).cell? ⟨(e:Nat)+1,0,none⟩=some (.slice p r t):=World.cell?_setCell_same' _ _ _ (by rw[c9];rfl);have dz:=h.cell;change H _ at bF cn;clear h c4 c5 c7 c6;go_wp2_with fail;have c':=cn.oo;exact b0 (v:=aZ #[ao #[S p r t],(mi b d a)]) (by simp[results,results259,go_sem,c']) J ⟨_,_,_,J,bF.1,bF.2⟩
def ug(a:W)(b:Option N):a.grownBy a.drew b:=⟨J,J,J,aL _,λ_ _ _=>rfl⟩
def uh(a c b d:aP)(e:L b=L c):splice (a++(c++d)) (L a) b=a++(b++d):=by simp[splice,<-e]
def Q5(a:aP)(b c d:N)(i:b+c+d<=L a):∃e f g h,a=e++(f++(g++h))/\e=a.take b/\L e=b/\L f=c/\L g=d/\L h+(b+c+d)=L a:=by refine⟨a.take b,(a.drop b).take c,((a.drop b).drop c).take d,((a.drop b).drop c).drop d,by rw[g',g',g'],J,?_,?_,?_,?_⟩;all_goals simp only[dd,ga];omega
def aW.raw{h:bj}{f:ag}(l:aW h w a (S (A b) c d) f):∃e:aP,w.heap[b]? =A (az e.toArray h (0,0))/\L e=d*2/\e.take (L f*2)=be f/\a<=b/\c=L f/\c<=d/\d<=maxLen:=by rcases l.2 with⟨o,_⟩|⟨v,x,e,k,p,q,r,s,t,u⟩;cases o;simp only[bf,a2,bN,bT]at k;obtain⟨rfl,rfl,rfl⟩:=k;exact⟨e.toList,X q,X t,u,p,J,r,s⟩
def aW.ofRaw{h:bj}{e:ag}{cur:aP}(j:w.heap[b]? =A (az cur.toArray h (0,0)))(l:L cur=d*2)(m:cur.take (L e*2)=be e)(n:a<=b)(p:c=L e)(q:c<=d)(r:d<=maxLen):aW h w a (S (A b) c d) e:=by subst p;exact⟨by rw[g7];omega,.inr ⟨b,d,cur.toArray,J,n,j,q,r,X l,X m⟩⟩
def zo(b:W)(n:bj)(c d i o:N)(g:bQ)(j p:N)(e a:aP)(h:N)(q:b.heap[c]? =A (az e.toArray 89 (0,0)))(r:Nat.min j i=h)(s:L a=h*2)(t:∀k f,a[k]? =A f->C b (g.add k)=A f)(u:d+L a<=L e)(v:∀f∈a,f.oneCell'=T):(Builtin.copy_ #[96,96] n #[S (A ⟨c,d,Z⟩) i o,S (A g) j p]).run ab b= .ok (goInt h) (b.setRow c (splice e d a).toArray):=by have⟨y,w,_,x,_⟩:=ew fv;have l:=run_loadCells_list (P:=ab) b g a t;have m:=run_storeCells_at ab c d _ a 0 e.toArray b q (X u) v;rw[s]at l;simp only[eX,ev]at m;simp[Builtin.copy_,run_underlying underlying96,Builtin.lenOf,Builtin.firstCells,sizeOf,typeInfo,w,x,r,l,m,splice]
def zp(a:W)(l:bj)(b d h m:N)(i:bQ)(j n:N)(e c:aP)(f:N)(o:a.heap[b]? =A (az e.toArray 89 (0,0)))(q:Nat.min j h=f)(r:L c=f*2) (s:∀p g,c[p]? =A g->C a (i.add p)=A g) (t:d+L c<=L e) (u:∀g∈c,g.oneCell'=T):∃k,(Builtin.copy_ #[96,96] l #[S (A ⟨b,d,Z⟩) h m,S (A i) j n]).run ab a= .ok (goInt f) k/\k.heap[b]? =A (az (splice e d c).toArray 89 (0,0))/\a.grownBy k (A b):=⟨_,zo a l b d h m i j n e c f o q r s t u,setRow_heap a b _ _ _ _ o,⟨J,J,J,D,λv _ w=>setRow_other a b v _ (λx=>w (by simp[x]))⟩⟩
def zq{d:bd}{e:a'}{o:a'->W->Prop}{v:bJ}(p q:Operand)(w:d.op= .call {callee:=.builtin .copy,args:=#[p,q],argTypes:=#[96,96]})(a:W)(b:N)(f c:aP)(i g:N)(r:a.heap[b]? =A (az f.toArray 89 (0,0)))(j k s l t:N)(m:bQ)(x:e.eval p=S (A ⟨b,j,Z⟩) k s)(y:e.eval q=S (A m) l t)(z:j=i)(G:Nat.min l k=g)(K:L c=g*2)(M:∀u h,c[u]? =A h->C a (m.add u)=A h)(O:i+L c<=L f)(P:∀h∈c,h.oneCell'=T)(R:∀n,H (n.heap[b]? =A (az (splice f i c).toArray 89 (0,0)))->a.grownBy n (A b)->o (e.put d.dst (goInt g)) n):d.wp ab e a o v:=by subst z;have U:=zo a d.type b j k s m l t f c g r G K M O P;unfold Oper.wp execOp;simp only[w,resolve,invoke,builtin,Sem.run_bind,Sem.run_pure,Result.andThen_ok,List.map_toArray,dE,List.map_nil,x,y,U];exact R _ (Q (setRow_heap a b _ _ _ _ r)) ⟨J,J,J,D,λX _ Y=>setRow_other a b X _ (λad=>Y (by simp[ad]))⟩
def dV(a:ag)(b:N)(c:a4):ag:=a.take b++c::a.drop b
def pP(a:ag)(b:N)(c:a4):(dV a b c).length=L a+1:=by simp[dV,dd,ga];omega
def KR(a:ag)(b:a4):dV a (L a) b=a++[b]:=by simp[dV]
def nT(a b:ag):be (a++b)=be a++be b:=lC
def Q6(a:ag)(b:N)(c d:I):be (dV a b (c,d))=be (a.take b)++([aa ac c,aa ac d]++be (a.drop b)):=by simp[dV,be]
def Q7(c:aP)(a:ag)(b:N)(f:b<=L a)(d:c.take (L a*2)=be a):c.take (b*2)=be (a.take b):=by
 have e:c.take (b*2)=(be a).take (b*2):=by rw[<-d,List.take_take,Nat.min_eq_left O]
 rw[e];conv=>lhs;rw[<-g' b a,nT]
 rw[List.take_append_of_le_length oU,cm oU]
def Q8(d b c:aP)(a g w:N)(q:L b=2)(x:L c=g)(y:a+2+g<=L d):splice (splice d (a+2) c) a b=d.take a++(b++(c++d.drop (a+2+g)))/\splice (splice d a b) (a+2) c=d.take a++(b++(c++d.drop (a+2+g))):=by
 have⟨e,j,h,f,l,r,i,m,n,z⟩:=Q5 d a 2 g O;have o:L c=L h:=O
 have s:d.drop (a+2+g)=f:=by rw[l,<-ev,<-ev,List.drop_append_of_le_length (by simp[i,m,n];omega),List.drop_of_length_le (by simp[i,m,n];omega)];rfl
 have t:splice d (a+2) c=e++(j++(c++f)):=by have:=uh (e++j) h c f o;rw[bL,i,m]at this;rw[l];simpa using this
 have p:∀k,splice (e++(j++k)) a b=e++(b++k):=λk=>by have:=uh e j b k O;rwa [i]at this
 have u:splice (e++(b++(h++f))) (a+2) c=e++(b++(c++f)):=by have:=uh (e++b) h c f o;rw[bL,i,q]at this;simpa using this
 have v:splice d a b=e++(b++(h++f)):=by rw[l];exact p _
 rw[t,p,v,u,s,<-r];exact⟨J,J⟩
def zr(c:aP)(b:ag)(a:N)(d e:I)(m:a<L b)(n:(L b+1)*2<=L c)(i:c.take (a*2)=be (b.take a)):(splice (splice c (a*2+2) (be (b.drop a))) (a*2) [d,e]).take ((L b+1)*2)=be (dV b a (d,e))/\(splice (splice c (a*2+2) (be (b.drop a))) (a*2) [d,e]).length=L c/\(splice (splice c (a*2) [d,e]) (a*2+2) (be (b.drop a))).take ((L b+1)*2)=be (dV b a (d,e))/\(splice (splice c (a*2) [d,e]) (a*2+2) (be (b.drop a))).length=L c:=by
 have f:(be (b.drop a)).length=(L b-a)*2:=sz
 have⟨j,k⟩:=Q8 c [d,e] (be (b.drop a)) (a*2) ((L b-a)*2) (L b) J f O;rw[j,k];have g:(c.take (a*2)++([aa ac d,aa ac e]++(be (b.drop a)++c.drop (a*2+2+(L b-a)*2)))).take ((L b+1)*2)=be (dV b a (d,e)):=by
  have l:(be (b.take a)).length=a*2:=oU
  rw[Q6,i,<-ev [aa ac d,aa ac e],<-ev (be (b.take a))];have o:(be (b.take a)++([aa ac d,aa ac e]++be (b.drop a))).length=(L b+1)*2:=by simp only[bL,l,f,dx,et];omega
  rw[List.take_append_of_le_length O,cm O]
 have h:(c.take (a*2)++([aa ac d,aa ac e]++(be (b.drop a)++c.drop (a*2+2+(L b-a)*2)))).length=L c:=by simp only[bL,dd,ga,f,dx,et];omega
 exact⟨g,h,g,h⟩
def ki(f:N)(b:V)(c:W)(g:ag)(h:bp)(d:W):Prop:=∃a,h=aq a/\aW 89 d f a g/\c.grownBy d (af b)/\(af a=af b\/∀e,af a=A e->(c:N)<=e)
def Q9(c:N)(g:bz)(a:N)(d:ag)(j:N)(h i:I)(b:W)(e:a=L d)(u:a=a)(k:aW 89 b c (S g a a) d)(v:a<=1000000)(l:ax b j [h,i])(n:c<=(b:N)):ap ab 276 #[S g a a,a,S (A j) 1 1] b (ki c (S g a a) b (dV d a (h,i))):=by
 replace e:=Q e;replace l:=Q l;replace k:=Q k;go_in;go_wp2_with (at_builtin;refine fr J _ _ 96 89 _ 2 16 underlying96 fv J av av J b c (S _ a _) a (be d) [h,i] j J J l J kA (by have:=k.oo;unfold aW at this;rw[<-e]at this;exact this) O n ?_);intro o p q r s w t _ x;have m:ki c (S g a a) b (dV d a (h,i)) (aq (S (A o) (a+1) p)) q:=by refine⟨_,J,?_,s,?_⟩;rw[e,KR];unfold aW;rw[bL,nT,<-e];exact r;rcases t with f|rfl;exact .inl f.symm;exact .inr λy f=>vC
 change H _ at m;exact mW
def Q'(c:N)(h:bz)(a d:N)(e:ag)(k:N)(i j:I)(b:W)(g:a=L e)(v:a<d)(l:aW 89 b c (S h a d) e)(w:a<=1000000)(n:ax b k [i,j])(o:c<=(b:N)):ap ab 276 #[S h a d,a,S (A k) 1 1] b (ki c (S h a d) b (dV e a (i,j))):=by
 replace l:=Q l;replace g:=Q g;replace n:=Q n;go_in;go_wp2_with (at_builtin;refine fr J _ _ 96 89 _ 2 16 underlying96 fv J av av J b c (S _ a _) a (be e) [i,j] k J J n J kA (by have:=l.oo;unfold aW at this;rw[<-g]at this;exact this) O o ?_);intro p q r s t x u _ y;have m:ki c (S h a d) b (dV e a (i,j)) (aq (S (A p) (a+1) q)) r:=by refine⟨_,J,?_,t,?_⟩;rw[g,KR];unfold aW;rw[bL,nT,<-g];exact s;rcases u with f|rfl;exact .inl f.symm;exact .inr λz f=>vC
 change H _ at m;exact mW
def Ra(c:N)(d:V)(a:ag)(e:N)(f g:I)(b:W)(h:aW 89 b c d a)(j:L a<=1000000)(k:ax b e [f,g])(l:c<=(b:N)):ap ab 276 #[d,L a,S (A e) 1 1] b (ki c d b (dV a (L a) (f,g))):=by
 obtain⟨m,o,rfl,p⟩:∃q n,d=S q (L a) n/\L a<=n:=by rcases bW h with⟨rfl,r⟩|⟨s,t,rfl,u,_⟩;exact⟨Z,0,by rw[r],O⟩;exact⟨_,_,J,O⟩
 rcases Nat.eq_or_lt_of_le p with i|i;subst i;exact Q9 c m _ a e f g b J J h j k l;exact Q' c m _ o a e f g b J i h j k l
def Rb(k b a d JJ:N)(J8:ag)(f:N)(g h:I)(c:W)(v:a=L J8)(w:JJ<a)(ae:a+1<=d)(x:aW 89 c k (S (A b) a d) J8)(aG:a<=1000000)(o:ax c f [g,h])(p:c.heap[f]? =A (az #[g,h] 89 (0,0)))(y:f≠b)(aI:k<=(c:N)):ap ab 276 #[S (A b) a d,JJ,S (A f) 1 1] c (ki k (S (A b) a d) c (dV J8 JJ (g,h))):=by
 have⟨l,n,i,ah,ai,ak,aJ,al⟩:=x.raw;clear ak;have z:∀q r,(callFunc 293 #[S (A f) 1 1,S (A ⟨b,(JJ+1)*2,Z⟩) q r]).run ab c= .ok (.value (au F)) c:=λq r=>by
  rw[run_callFunc_extern func293 aT aT aT (e:=Extern.SlicesOverlaps.overlaps #[96,96] #[4]) aT];have am:∀s,(Go.sizeOf 89).run ab s= .ok 2 s:=λs=>by have⟨JJ,w,_,an,_⟩:=ew fv;simp[sizeOf,typeInfo,w,an]
  rw[Lib.run_overlaps_apart c 96 4 89 underlying96 2 am ⟨f,0,Z⟩ ⟨b,(JJ+1)*2,Z⟩ 1 1 q r y 89 89 2 (d*2) (by simp[World.shape?,p]) (by simp[World.shape?,n,i]) O (by simp[aH,p]) (by simp[aH,p])];rfl
 have aL:=(bM.1 n).1;have D:=Q (zr l J8 JJ g h O O (Q7 l J8 JJ O ah));have j:(be (J8.drop JJ)).length=(a-JJ)*2:=sz
 have G:H (∀JL e,(be (J8.drop JJ))[JL]? =A e->C c ⟨b,JJ*2+JL,Z⟩=A e):=Q λJL e Cs=>by
  have ar:(be J8)[JJ*2+JL]? =A e:=by
   exact wd
  have:=(nW x.di) _ _ ar;rwa [show(⟨b,0,Z⟩:bQ).add (JJ*2+JL)=⟨b,JJ*2+JL,Z⟩ by unfold Addr.add;split<;>simp_all]at this
 have aN:¬((1:I)=0):=O
 have aO:¬((JJ:I)=a):=O
 have aP:IntKind.i64.wrap ((JJ:I)+1)=(JJ:I)+1:=by rw[IntKind.wrap_i64];omega
 have aQ:(0:I)<=JJ+1:=O
 have aR:JJ<=a:=O
 have aS:((JJ:I)+1).toNat=JJ+1:=O
 have aU:¬(d=JJ+1):=O
 have aV:(JJ:I)<=a+1:=O
 have aX:¬(d=JJ):=O
 have⟨t,M⟩:=K (be (J8.drop JJ));rw[<-M]at G D j;have P:∀e∈t,e.oneCell'=T:=by rw[M];exact o' _
 have aY:=Q o;change H _ at o n j i v z;change H _ at P;go_in;go_wp2_with (simp only[z.oo]);refine bv [0,1,2,3,4,5,6,7,308] ?_;iterate 8 refine mS ?_
 refine b4 λa0 av=>?_;refine zq (.tmp 73) (.tmp 76) J c.drew b l t (JJ*2+2) (a-JJ) n _ _ _ _ _ _ J J O qh (Y j.oo) (λJL e Cs=>by rw[Addr.add_lit];exact G JL e Cs) (bi j.oo i.oo) P ?_;intro R ay aA;have u:=c2 (ug c _) aA;have U:ax R f [g,h]:=λJL Kk Cs=>u.cell (o JL Kk Cs) (X y);change H _ at u;change H _ at U;refine av _ _ ?_;refine bc ?_;have aC:JJ*2+2<=(splice l (JJ*2+2) t).length:=by have:=j.oo;have:=i.oo;rw[length_splice _ _ _ O];omega
 have⟨aD,a1,aE,aF⟩:=zp R 3 b (JJ*2) (a+1-JJ) (d-JJ) ⟨f,0,Z⟩ 1 1 _ [g,h] 1 ay.out qh J (λJL e Cs=>by rw[Addr.add_lit,bX];exact U JL e Cs) aC kA;have m:ki k (S (A b) a d) c (dV J8 JJ (g,h)) (aq (S (A b) (a+1) d)) aD:=by have ad:=D.oo;refine⟨_,J,aW.ofRaw aE (by rw[ad.2.1,i]) ?_ ai (by rw[pP,v]) ae al,c2 u aF,.inl J⟩;rw[pP];exact ad.1
 change H _ at m;exact mW
def Rc(c:W)(n e a b:N)(d:ag)(z:a=L d)(D:b<a)(G:a<=1000000)(o:aW 89 c n (S (A e) a a) d):∃f g h,(∀i,(Builtin.append_ #[96,3] i #[S (A e) b a,((a:I)+1-(b:I))]).run ab c= .ok (S (A (c:N)) (a+1) f) g)/\a+1<=f/\f<=maxLen/\g.heap[(c:N)]? =A (az (List.toArray h) 89 (0,0))/\L h=f*2/\h.take (b*2)=be (d.take b)/\B c c g:=by
 have⟨k,p,r,s,IC⟩:=ew fv;have t:=grownCap_ge c (a+1) a 89;have u:(ao #[(0:I),(0:I)]).cells.size=2:=J;have v:((a+1-b:N):I)=(a:I)+1-(b:I):=O
 have l:(be (d.take b)).length=b*2:=oU
 have w:(Builtin.firstCells k.size b (S (A e) b a)).run ab c.drew= .ok (be (d.take b)).toArray c.drew:=run_firstCells_some _ _ _ _ _ _ _ (by rw[s];exact l) (λx y m=>by
  refine(nW o.di) x y ?_;conv=>lhs;rw[<-g' b d,nT]
  rw[jO (mX.1 m).1];exact m)
 have j:=λi=>Lib.run_append_grow_zeros (P:=ab) c 96 3 i 89 k _ ac ac underlying96 underlying3 p r (A ⟨e,0,Z⟩) b a _ w (a+1-b) O O O O jJ (by rw[IC];exact growslice_fits O O);rw[v]at j;rw[show b+(a+1-b)=a+1 by omega]at j;refine⟨_,_,be (d.take b)++((Builtin.zeroCells (ao #[(0:I),(0:I)]).cells (a+1-b)).toList++(Builtin.zeroCells (ao #[(0:I),(0:I)]).cells (grownCap c (a+1) a 89-(a+1))).toList),j,t,(grownCap_le_maxLen c (a+1) a 89 eQ),?_,?_,?_,?_⟩;refine(heap_alloc_last c.drew _).trans ?_;simp[Array.append_assoc];simp only[bL,l,Array.length_toList,tr,u];omega;rw[List.take_append_of_le_length O,cm O];exact q (an c) (aN c.drew _)
def Rd(h c a JJ:N)(J8:ag)(t:N)(e g:I)(d:W)(u:a=L J8)(aA:JJ<a)(k:aW 89 d h (S (A c) a a) J8)(aC:a<=1000000)(D:ax d t [e,g])(aN:h<=(d:N)):ap ab 276 #[S (A c) a a,JJ,S (A t) 1 1] d (ki h (S (A c) a a) d (dV J8 JJ (e,g))):=by
 have⟨i,v,w,l,aD,aE,n,x,G,o⟩:=Rc d h c a JJ J8 u aA aC k;have M:=x;have⟨p,j⟩:=K (d:N);rw[<-j]at l n;have aO:=(bM.1 n).1;have P:=D.bw o;have r:(be (J8.drop JJ)).length=(a-JJ)*2:=sz
 have R:∀JL b,(be (J8.drop JJ))[JL]? =A b->C v ⟨c,JJ*2+JL,Z⟩=A b:=λJL b Cs=>by
  have aG:(be J8)[JJ*2+JL]? =A b:=by
   exact wd
  have:=nW k.di _ _ aG;rw[show(⟨c,0,Z⟩:bQ).add (JJ*2+JL)=⟨c,JJ*2+JL,Z⟩ by unfold Addr.add;split<;>simp_all]at this;exact s o this
 have aP:c<p:=by rw[j];exact(k.lt c J).2
 have⟨U,aQ,X,y⟩:=zp v 3 p (JJ*2) (a+1-JJ) (i-JJ) ⟨t,0,Z⟩ 1 1 w [e,g] 1 n qh J (λJL b Cs=>by rw[Addr.add_lit,bX];exact P JL b Cs) (by simp only[dx,et];omega) kA;have ad:=Q λJL b Cs=>y.cell (R JL b Cs) aF;have ae:=Q (zr w J8 JJ e g O O G);have ah:(splice w (JJ*2) [e,g]).length=i*2:=by rw[length_splice _ _ _ (by simp only[dx,et];omega),M]
 have ai:=Q (o.trans ((aS _ v).grown y O (λak f=>by cases f;omega)));have aR:¬((1:I)=0):=O
 have aT:¬((JJ:I)=a):=O
 have aU:IntKind.i64.wrap ((JJ:I)+1)=(JJ:I)+1:=by rw[IntKind.wrap_i64];omega
 have aV:(0:I)<=JJ+1:=O
 have aX:JJ<=a:=O
 have aY:((JJ:I)+1).toNat=JJ+1:=O
 have a0:¬(i=JJ+1):=O
 have al:(JJ:I)<=a+1:=O
 have a1:¬(i=JJ):=O
 have a2:¬(a=JJ):=O
 have a3:(0:I)<=a+1-(JJ:I):=O
 have a4:(a:I)<a+1:=O
 have⟨am,z⟩:=K (be (J8.drop JJ));rw[<-z]at ad ae r;have ar:∀b∈am,b.oneCell'=T:=by rw[z];exact o' _
 replace l:=Q l;change H _ at X r u ah x;have av:=Q (Nat.le_of_eq j.symm);change H _ at ar;clear k z G D P R y j n M o;go_in;go_wp2_with (at_builtin;refine Lib.wpList_append_run _ J _ _ _ _ J _ _ J J _ _ (l _) ?_);go_wp2_with fail;refine bv [0,1,2,3,4,5,6,7,308] ?_;iterate 8 refine mS ?_
 refine b4 λa5 aI=>?_;refine zq (.tmp 50) (.tmp 53) J U.drew p _ am (JJ*2+2) (a-JJ) X _ _ _ _ _ _ J J O qh (Y r.oo) (λJL b Cs=>by rw[Addr.add_lit];exact ad JL b Cs) (bi r.oo ah.oo) ar ?_;intro aJ aK aL;have m:ki h (S (A c) a a) d (dV J8 JJ (e,g)) (aq (S (A p) (a+1) i)) aJ:=by have ay:=ae.oo;have al:=(q ai (an U)).trans ((aS _ _).grown aL (by have:=ai.size;exact this) (λak f=>by cases f;exact av));have j:=av.oo;refine⟨_,J,aW.ofRaw aK.out (by rw[ay.2.2.2,x]) ?_ O (by rw[pP,u]) aD aE,dS al,.inr λak f=>vC⟩;rw[pP];exact ay.2.2.1
 change H _ at m;refine aI _ _ ?_;refine bc ?_;exact mW
def Re(d h:N)(e:V)(a:ag)(b:N)(f g:I)(c:W)(s:h<=L a)(k:aW 89 c d e a)(m:L a<=1000000)(q:c.heap[b]? =A (az #[f,g] 89 (0,0)))(t:af e≠A b)(n:d<=(c:N)):ap ab 276 #[e,h,S (A b) 1 1] c (ki d e c (dV a h (f,g))):=by
 have o:ax c b [f,g]:=λp u v=>by have:=World.news_of_block q p u (X v);rwa [show(⟨b,0,Z⟩:bQ).add p=⟨b,p,Z⟩ by unfold Addr.add;split<;>simp_all]at this
 rcases Nat.eq_or_lt_of_le s with rfl|r;exact Ra d e a b f g c k m o n;obtain⟨i,l,rfl,w,_⟩:∃i l,e=S (A ⟨i,0,Z⟩) (L a) l/\L a<=l/\True:=by rcases bW k with⟨rfl,y⟩|⟨i,z,rfl,x,_⟩;omega;exact⟨_,_,J,x,trivial⟩
 rcases Nat.eq_or_lt_of_le w with j|j;subst j;exact Rd d i _ h a b f g c J r k m o n;exact Rb d i _ l h a b f g c J r j k m o q (λj=>t (by rw[j];rfl)) n
def KQ{a:bd}{b:a'}{c:a'->W->Prop}{j:bJ}(d e:Operand)(f g:bj)(k:a.op= .call {callee:=.builtin .append,args:=#[d,e],argTypes:=#[f,g]})(h i:V)(l:b.eval d=h)(m:b.eval e=i)(n:(Builtin.append_ #[f,g] a.type #[h,i]).run ab w= .ok u x)(r:c (b.put a.dst u) x):a.wp ab b w c j:=by unfold Oper.wp execOp;simp only[k,resolve,invoke,builtin,Sem.run_bind,Sem.run_pure,Result.andThen_ok,List.map_toArray,dE,List.map_nil,l,m,n];exact r
def zs(a:ag)(b:N)(c:b<L a):(a.take b++a.drop (b+1)).length=L a-1:=by simp[dd,ga];omega
def ui(a:ag)(b:N):a.eraseIdx b=a.take b++a.drop (b+1):=List.eraseIdx_eq_take_drop_succ a b
def Rf(f:W)(l c h i a:N)(b:ag)(v:h=L b)(w:a<h)(n:aW 89 f l (S (A c) h i) b)(p:bz)(d q:N)(R:d=h-(a+1))(x:0<d->p=A ⟨c,(a+1)*2,Z⟩):∃k,(∀j,(Builtin.append_ #[96,96] j #[S (A c) a i,S p d q]).run ab f= .ok (S (A c) (h-1) i) k)/\aW 89 k l (S (A c) (h-1) i) (b.eraseIdx a)/\f.grownBy k (A c):=by
 have⟨r,s,U,y,X⟩:=ew fv;subst v;have hcut:=n.cut a O;have t:(b.take a).length=a:=oZ
 rcases Nat.eq_zero_or_pos d with o|o;have z:a+1=L b:=O
 have g:=hcut;unfold aW at g;rw[t]at g;subst o;refine⟨f,λj=>?_,?_,World.grownBy.refl f _⟩;rw[s2 l _ j _ r 2 underlying96 s _ a _ g];rw[show (L b)-1=a by omega];rw[ui,z,List.drop_length,e',show (L b)-1=a by omega];exact hcut;have D:=x o;subst D;have G:(be (b.drop (a+1))).length=d*2:=sz
 have H:∀e m,(be (b.drop (a+1)))[e]? =A m->C f ((⟨c,(a+1)*2,Z⟩:bQ).add e)=A m:=λe m K=>by
  have u:(be b)[(a+1)*2+e]? =A m:=by
   conv=>lhs;rw[<-g' (a+1) b,nT]
   rw[i1 oU,show(a+1)*2+e-(be (b.take (a+1))).length=e by rw[g7,dd];omega];exact K
  have:=nW n.di _ _ u;rw[show(⟨c,0,Z⟩:bQ).add ((a+1)*2+e)=⟨c,(a+1)*2+e,Z⟩ by unfold Addr.add;split<;>simp_all]at this;rw[Addr.add_lit];exact this
 have Y:L b<=i:=by have⟨ad,_,_,_,_,_,u,_⟩:=n.raw;omega
 have g:=hcut;unfold aW at g;rw[t]at g;have⟨k,M,P,Q⟩:=(λj=>run_append_fits (P:=ab) f l 96 j 89 r 2 underlying96 s y c a i _ g ⟨c,(a+1)*2,Z⟩ d q (be (b.drop (a+1))) G H (o' _) O) 0;refine⟨k,λj=>?_,?_,Q⟩;rw[show (L b)-1=a+d by omega,<-M];rfl;unfold aW;rw[ui,zs _ _ w,nT,show (L b)-1=a+d by omega];exact P
def Rg(c:W)(h b a d:N)(e:ag)(i:a-1=L e)(y:0<a)(z:a<=d)(m:aW 89 c h (S (A b) (a-1) d) e)(n:N):∃f,(∀j,(Builtin.clear_ #[96] j #[S (A ⟨b,(a-1)*2,Z⟩) 1 n]).run ab c= .ok (aZ #[]) f)/\aW 89 f h (S (A b) (a-1) d) e/\c.grownBy f (A b):=by
 have⟨G,o,p,H,K⟩:=ew fv;have⟨g,k,q,r,s,_,_,t⟩:=m.raw;have l:=run_storeCells_at ab b ((a-1)*2) _ [aa ac 0,aa ac 0] 0 g.toArray c k aF kA;simp only[eX,ev]at l;refine⟨_,λj=>?_,aW.ofRaw (cur:=splice g ((a-1)*2) [aa ac 0,aa ac 0]) (setRow_heap c b _ _ _ _ k) ?_ ?_ s i O t,⟨J,J,J,D,λu _ v=>setRow_other c b u _ (λw=>v (by simp[w]))⟩⟩;have x:(Builtin.zeroCells (ao #[aa ac 0,aa ac 0]).cells 1).toList=[aa ac 0,aa ac 0]:=aT
 simp[Builtin.clear_,run_underlying underlying96,zeroValue,typeInfo,o,p,x,l,splice];rw[length_splice _ _ _ aF,q];rw[<-r];unfold splice;rw[<-i,List.take_append_of_le_length oZ,List.take_take,Nat.min_self]
def rM(e a b c:N)(f:W)(g:ag)(h:bp)(d:W):Prop:=h=aq (S (A a) (b-1) c)/\aW 89 d e (S (A a) (b-1) c) g/\f.grownBy d (A a)
def Rh(g d b c a:N)(f:ag)(e:W)(j:b=L f)(y:a<b)(ad:b<=1000000)(h:aW 89 e g (S (A d) b c) f):ap ab 273 #[S (A d) b c,aa ac a,aa ac ((a:I)+1)] e (rM g d b c e (f.eraseIdx a)):=by
 have z:b<=c:=by have⟨ae,_,_,_,_,_,ah,_⟩:=h.raw;omega
 have t:(f.eraseIdx a).length=b-1:=by rw[ui,zs _ _ O,j]
 have u:=Q (λD G k K M=>Rf e.drew g d b c a f j y (h.bw (an e)) D G k K M);have v:=Q (λ(w:W) (P:aW 89 w g (S (A d) (b-1) c) (f.eraseIdx a)) k=>Rg w g d b c _ t.symm O z P k);have ai:¬((a:I)=a+1):=O
 have ak:(0:I)<=a+1:=O
 have al:((a:I)+1).toNat=a+1:=O
 have am:(a:I)+1<=(b:I):=O
 have ar:¬(c=a):=O
 have av:a<=c:=O
 have ax:a<=b:=O
 have ay:¬(c=b-1):=O
 have aA:b-(b-1)=1:=O
 have aC:((b-1:N):I)<=(b:I):=O
 clear h j t;by_cases R:c=a+1
 ·have U:b=a+1:=by omega
  subst R;subst U;have⟨l,i,n,o⟩:=u (A ⟨d,0,Z⟩) 0 0 O (λh=>absurd h O);have⟨p,x,q,r⟩:=v l n (a+1-(a+1-1));have m:rM g d (a+1) (a+1) e (f.eraseIdx a) (aq (S (A d) (a+1-1) (a+1))) p:=⟨J,q,c2 (ug e _) (c2 o r)⟩
  have aD:(a:I)<=a+1:=O
  simp only[Nat.add_sub_cancel,show a+1-a=1 by omega]at i x m;replace m:=Q m;change H _ at i;go_in;go_wp2_with fail;refine bv [0,1,2,3,4,5,306,7] ?_;iterate 6 refine mS ?_
  refine b4 λX s=>?_;refine KQ (.tmp 22) (.tmp 25) _ _ J _ _ J J (i _) ?_;refine s _ _ ?_;refine mS ?_;refine bc ?_;exact mW
 have⟨l,Y,n,o⟩:=u (A ⟨d,(a+1)*2,Z⟩) (b-(a+1)) (c-(a+1)) J (λ_=>rfl);have⟨p,x,q,r⟩:=v l n (c-(b-1));have m:rM g d b c e (f.eraseIdx a) (aq (S (A d) (b-1) c)) p:=⟨J,q,c2 (ug e _) (c2 o r)⟩
 have i:=Q Y;replace m:=Q m;go_in;go_wp2_with fail;refine bv [0,1,2,3,4,5,306,7] ?_;iterate 6 refine mS ?_
 refine b4 λX s=>?_;refine KQ (.tmp 22) (.tmp 25) _ _ J _ _ J J (i _) ?_;refine s _ _ ?_;refine mS ?_;refine bc ?_;exact mW
def iM(e:N)(f:W)(g:V)(b:aP)(h:ar)(i:N):Prop:=∀a,a<i->aW 89 f e (b.getD a undef) (ah h a)/\∀c,(b.getD a undef).ownBlock=A c->af g≠A c/\∀d,d<a->(b.getD d undef).ownBlock≠A c
def iM.bw{Kx:W}{c:aP}{d:ar}(e:iM a w u c d b)(l:B w w Kx):iM a Kx u c d b:=λg h=>⟨(e g h).1.bw l,(e g h).2⟩
def iM.aO{IX:N}{f:aP}{g:ar}{I':aD}(c:iM IX w u f g a)(m:M I' w x)(o:∀b,I' b->b<IX\/af u=A b):iM IX x u f g a:=λd e=>⟨(c d e).1.aO m (λb i p=>by
 rcases o b p with j|j
 ·have:=((c d e).1.lt b i).1;omega
 ·exact((c d e).2 b i).1 j),(c d e).2⟩
def uj(a:aP)(c:V)(b:N)(d:b<L a):(a++[c]).getD b undef=a.getD b undef:=by simp[List.getD,jO d]
def Ri(a:aP)(b:V):(a++[b]).getD (L a) undef=b:=by simp[List.getD]
def iM.push{g n c:N}{r:W}{p:aP}{s:ar}(H:iM a w u p s d)(X:L p=d)(P:B w w x)(l:aW 89 x w v (ah s d))(Y:a<=(w:N))(Q:∀b,af u=A b->b<(w:N))(ad:x.grownBy r (af u))(ae:af u=A g\/g=x):iM a r (S (A g) n c) (p++[v]) s (d+1):=by
 intro q ai;have R:M (λag=>af u=A ag) x r:=M.grown ad λ_ e=>e;have U:∀b,(S (A g) n c).ownBlock=A b->af u=A b\/b=(x:N):=λb e=>by simp only[af,a2]at e;subst e;exact ae
 by_cases z:q<d;rw[uj _ _ _ O];have m:=H q z;refine⟨(m.1.bw P).aO R (λb f e=>(m.2 b f).1 e),λb f=>⟨λe=>?_,λD G=>?_⟩⟩;rcases U b e with o|o;exact(m.2 b f).1 o;have:=(m.1.lt b f).2;have:=P.size;omega;rw[uj _ _ _ O];exact(m.2 b f).2 D G;have z:q=d:=O
 subst z;rw[show(p++[v]).getD q undef=v by rw[<-X];exact Ri _ _];refine⟨(l.aO R (λb f e=>bi ((l.lt b f).1) (Q b e))).mono Y,λb f=>⟨λe=>?_,λD G=>?_⟩⟩;rcases U b e with o|o;have:=(l.lt b f).1;have:=Q b o;omega;have:=(l.lt b f).2;omega;rw[uj _ _ _ O];intro e;have:=((H D G).1.lt b e).2;have:=(l.lt b f).1;omega
def dW(b:N)(c:W)(d:V)(e:aP)(a:ar):Prop:=c.ownsRow b 98 1 d (L a) e/\iM b c d e a (L a)
def Rj(a:W)(f:ar)(g:bp)(b:W):Prop:=∃c d e h,g=aq (ao #[S c d e])/\dW a b (S c d e) h f/\B a a b
def Rk(ak:V)(c:ar)(b:W)(a4:bb b ak c)(a5:cx c):ap ab 275 #[ao #[ak]] b (Rj b c):=by
 have⟨bP,a6,a8,a9,be⟩:=c8 b ak;have⟨r,bf,al,t,y,am⟩:=cP bP (S Z 0 0);have⟨ax,bg,u,bh,z,ay⟩:=cP r (S Z 0 0);rw[a9]at y am t;rw[t]at z ay bh;have bi:=q a8 (q al u);have bR:=s (q al u) be;have bl:=s u y;have bm:=aY u (aR _ _ y) am;have aA:bS 98 ba (·<r.heap.size) ax r.heap.size (S Z 0 0) [] (c.take 0) ax:=bS.start (by rw[t];exact z) (by rw[t];exact ay) (aS _ _);obtain⟨ct,m,cu,rfl,Da,cv,bo⟩:=a4.open;have aC:H (r.heap.size=b.heap.size+2):=Q O;have bq:=Q bi;change H _ at a6 bf bg bl bm aA Da bo;clear bi;change H _ at a5;clear a4 a8 al u a9 t bh be y am z ay;go_in;go_upto_region 1 with fail;rw[a6,bf];go_upto_region 2 with fail;rw[bg];have⟨e,br⟩:=K r.heap.size;rw[<-br]at aC aA⊢;change H _ at br;go_wp2_with fail;clear bR;go_loopw [9] (λj wr=>∃(a:N) (G:V) (n:aP),j=a/\a<=m/\bS 98 ba (·<e) ax e G n (c.take a) wr/\iM (e+1) wr G n c a) (λj _=>m-(aw j).toNat);exact⟨0,_,_,J,a3 _,aA,λj bs=>absurd bs (fx _)⟩;obtain⟨a,G,n,rfl,cw,d,bt⟩:=hrel;have P:=Q bt;clear bt;obtain⟨o,rfl⟩:=K wr;have aD:B b.heap.size b o:=bq.trans (d.bw.mono (Y aC.oo));by_cases Ch:a<m
 ·have⟨R,ad⟩:=K (c.take a);have bu:=Q (tQ c a c1);have bT:H (L R+1<=1000000000000):=Q (by rw[ad,dd];omega);rw[<-ad]at d bu;have bU:H (L R=a):=Q (by rw[ad,dd];have:=Da.oo;omega);clear ad;obtain⟨v,cy,bx,bz,bA,rfl,aE,hp⟩:=bo a Ch;have aE:=s aD aE;have cz:=aJ a;have cA:(a:I)<(m:I):=by omega
  have⟨aF,bB,ae,bV,cB⟩:=d0 o (S bx bz bA);have p:=d.next ae;have bW:=Q (λbX bZ=>qZ (S bx bz bA) (ah c a) bX ((hp.bw (q aD ae)).bw bZ) (a5 a));obtain⟨f,g,h,rfl,b2,b3⟩:=d.form;have z:=p.cell;have b5:H (e+1<=aF.heap.size):=Q p.lt;have b6:=Q (λv i=>(bI p.own v i).2);have b7:H (L n=a):=Q (by have:=p.own.1;rw[Nat.mul_one,bU]at this;exact this);have bC:=Q p;change H _ at bB;clear p;change H _ at ae;clear d hp bV aD b2 b3;go_upto_region 5 with fail;rw[bB];clear aE;refine bv [0,2,101,103,204,5,206,307,8,309] ?_;iterate 4 refine mS ?_
  refine aU λbD w=>?_;go_simp;refine mF (bW _ (an _)) λaG aI aN aQ ⟨aT,bE⟩=>?_;have aV:=q (an aF) bE;have b8:H (aW 89 aG aF.heap.size (S aI aN aQ) (ah c a)):=Q aT;refine w _ _ (.mk aV) ?_;refine mS ?_;have⟨bF,bG,ag,b9,bH⟩:=d0 aG (S aI aN aQ);have ai:=q aV ag;have k:=bC.next ai;have b':=Q ((bC.qd aT (by exact aL _)).bw ag);have ca:=Q (d2 bH);have cc:H (e+1<=bF.heap.size):=Q k.lt;refine aU λbD w=>?_;go_simp;try rw[bG]
  refine w _ _ (.mk ai) ?_;refine b4 λbD w=>?_;refine iy (.tmp 14) (.tmp 19) 93 98 _ 1 24 underlying93 lI J av av J bF (e+1) (S f g h) (L R) n [S aI aN aQ] aG.heap.size J J ca J eP k.own bT cc ?_;intro cC cd cD bJ x aX ce;have a0:=k.push b' bJ x aX;have bK:=(P.bw ae).push (n:=L R+1) (c:=cd) b7 ai (b8.bw ag) b5 b6 x aX;rw[<-bu]at a0;have a1:A e≠(S f g h).ownBlock:=λi=>Y ((bI k.own e i.symm).1)
  have cf:=x.cell k.cell a1;have cg:=eS x k.lt a1 k.free;have ch:=Q bK;change H _ at a0;clear bK;refine w _ _ ?_;clear bJ x aX ce k aT bG ag b9 bH aV ai bE a1;iterate 2 refine mS ?_
  refine bc ?_;clear cf cg;go_wp2;go_roundw;case rel=>exact⟨a+1,_,_,aK,kL Ch,a0,ch.aO (M.grown (I':=λl=>l=e) (bn _ _ _) (λl i=>X i.symm)) (λv i=>.inl O)⟩
  exact bY
 have ci:a=m:=O
 subst ci;have bL:c.take a=c:=cm ly;rw[bL]at d;obtain⟨f,g,h,rfl,cj,ck⟩:=d.form;have cl:=aC.oo;have cn:=bk d.bw O bl;have cG:=ex d.bw O bm;have bM:M (λl=>l=b.heap.size+1) o (o.setCell ⟨b.heap.size+1,0,none⟩ (.slice f g h)):=M.grown (bn _ _ _) (λl i=>X i.symm);have bN:=d.own;have co:b.heap.size+1<e+1:=O
 have cp:=o5 bN (iv (Nat.lt_of_succ_lt co));have a2:=U (U (c3 cp bM (λl cq i=>Y ((bI bN l cq).1))) (λj bs=>⟨((P j (Y Da.oo)).1.aO bM (λv cr i=>Y (((P j (Y Da.oo)).1.lt v cr).1))).mono (B':=b.heap.size) O,(P j (Y Da.oo)).2⟩):dW b.heap.size (aj o ⟨b.heap.size+1,0,Z⟩ (S f g h)) (S f g h) n c) ((bq.trans (d.bw.mono O)).setCell (p:=⟨b.heap.size+1,0,Z⟩) D (S f g h));have bO:(o.setCell ⟨b.heap.size+1,0,none⟩ (.slice f g h)).cell? ⟨b.heap.size+1,0,none⟩=some (.slice f g h):=World.cell?_setCell_same' _ _ _ (by rw[cn];rfl);have cJ:=d.cell;change H _ at a2 bO;clear d bL cj ck cl;go_wp2_with fail;have cs:=bO.oo;exact b0 (v:=ao #[S f g h]) (by simp[results,results275,go_sem,cs]) J ⟨_,_,_,_,J,a2.1,a2.2⟩
section
attribute [local go_sem] Oper.semAt_some
def pQ(a:Bool×I×a4)(b:I×a4):Bool×I×a4:=if a.1=F\/b.2.2<a.2.2.2 then(T,b)else a
def eG(a:b7):Bool×I×a4:=a.foldl pQ (F,0,0,0)
def dF(a:ar)(c d:I)(b:Bool×I×a4):ar:=if b.1=F then a else if b.2.1=L a then a++[[(c,d)]]else a.set b.2.1.toNat (dV (ah a b.2.1.toNat) b.2.2.1.toNat (c,d))
def Rl(a:b7)(b:I×a4):eG (a++[b])=pQ (eG a) b:=by unfold eG;rw[List.foldl_append];rfl
def zt(a:b7)(h:(eG a).1=T):(eG a).2∈a:=by
 unfold eG at h⊢;have:∀(b:b7) (c:Bool×I×a4),(c.1=T->c.2∈a)->(∀d∈b,d∈a)->(b.foldl pQ c).1=T->(b.foldl pQ c).2∈a:=by
  intro b;induction b with
   |nil=>intro c f _ e;exact f e
   |cons d b j=>intro c f e i;rw[List.foldl_cons]at i⊢;refine j _ ?_ (λk l=>e k (by simp[l])) i;intro g;unfold pQ at g⊢;split;exact e d D;rename_i m;rw[ak m]at g;exact f g
 exact this a (F,0,0,0) D (λd n=>n) h
def Rm{g:ai}{h:ag}{f:I×a4}(c:f∈fL g i a h j b):∃e:N,e<b/\f.1=(a:I)/\f.2.1=(e:I):=by
 induction b with
  |zero=>cases c
  |succ b l=>rw[fL,eh]at c;rcases c with c|c;have⟨e,p,m⟩:=l c;exact⟨e,O,m⟩;split at c;simp at c;subst c;exact⟨b,O,J,J⟩;cases c
def zu{h:ai}{c:ar}{m:I}{d:I×a4}(b:d∈cU a h i j k c l m):d.1=(L c:I)\/∃e f:N,e<L c/\f<=(ah c e).length/\d.1=(e:I)/\d.2.1=(f:I):=by
 unfold cU at b;split at b;cases b;rcases eh.1 b with b|b;right;have:∀g,g<=L c->d∈g4 a h j k c l m g->∃e f:N,e<L c/\f<=(ah c e).length/\d.1=(e:I)/\d.2.1=(f:I):=by
  intro g;induction g with
   |zero=>intro _ b;cases b
   |succ g r=>intro v b;rw[g4,eh]at b;rcases b with b|b;exact r O b;unfold jp at b;split at b;cases b;have⟨f,w,s,t⟩:=Rm b;exact⟨g,f,O,O,s,t⟩
 exact this _ (aL _) b;left;unfold kh at b;split at b;simp at b;subst b;rfl;cases b
structure gA(a c:N)(i:aD)(d:Bool×I×a4)(e:W):Prop where
 b:ax e a [d.2.1,d.2.2.1,d.2.2.2]
 f:C e c=A (au d.1)
 zb:∀g,g<3->aH e ⟨a,g,Z⟩=F
 zf:aH e c=F
 ne:a≠c
 has:i=λh=>h=a\/h=c
def gA.lt{g:aD}{i:Bool×I×a4}(d:gA a c g i w):∀e,g e->e<(w:N):=by intro e h;rw[d.has]at h;rcases h with rfl|rfl;exact d.b.lt;exact aR _ _ d.f
def gA.aO{I' j:aD}{k:Bool×I×a4}(d:gA a c I' k w)(e:M j w x)(g:∀l,I' l->¬j l):gA a c I' k x:=by have o:=d.has;subst o;exact⟨d.b.bl e (g a (.inl J)),e.cell d.f (g c (.inr J)),λp q=>e.free (d.zb p q) d.b.lt (g a (.inl J)),e.free d.zf (aR _ _ d.f) (g c (.inr J)),d.ne,J⟩
def gA.bw{I':aD}{c:Bool×I×a4}(e:gA a b I' c w)(h:B w w x):gA a b I' c x:=e.aO (M.bw (I':=λ_=>False) h) λ_ _ j=>j
def pR(b:W)(a c:N)(d e f:I):W:=(((aj b a d).setCell ⟨a,1,Z⟩ e).setCell ⟨a,2,Z⟩ f).setCell c (au T)
def gA.store{s:aD}{z:Bool×I×a4}(g:gA a c s z w)(k l m:I):gA a c s (T,k,l,m) (pR w a c k l m)/\M s w (pR w a c k l m):=by
 have G:=g.has;subst G;have t:∀(i:W) (h:N) (n:V),M (λo=>o=a) i (aj i ⟨a,h,Z⟩ n):=λi h n=>M.grown (bn i ⟨a,h,Z⟩ n) λo e=>X e.symm
 have y:∀(i:W) (n:V),M (λo=>o=c) i (aj i c n):=λi n=>M.grown (bn i ⟨c,0,Z⟩ n) λo e=>X e.symm
 have⟨q,r⟩:=K (((aj w a k).setCell ⟨a,1,Z⟩ l).setCell ⟨a,2,Z⟩ m);have u:M (λo=>o=a) w q:=by rw[r];exact((t _ _ _).trans (t _ _ _) I2 I2).trans (t _ _ _) I2 I2
 have H:ax q a [k,l,m]:=by rw[r];exact((g.b.set 0 k D).set 1 l D).set 2 m D
 have O:∀h,h<3->aH q ⟨a,h,Z⟩=F:=λh x=>by rw[r,bs,bs,bs];exact g.zb h x
 have P:=u.cell g.f (λe=>g.ne e.symm);have Q:=u.free g.zf (aR _ _ g.f) (λe=>g.ne e.symm);have e:pR w a c k l m=aj q c (au T):=by rw[r];rfl
 rw[e];exact⟨⟨H.bl (y _ _) g.ne,bP _ _ _ (by rw[P];rfl),λh x=>by rw[bs];exact O h x,by rw[bs];exact Q,g.ne,J⟩,(u.mono λ_ _ e=>.inl e).trans (y _ _) I2 (λ_ _ e=>.inr e)⟩
def zv(a:W)(c:Bool):∃b,a.alloc (az #[au c] 4)=b/\B a a b/\b.heap.size=(a:N)+1/\C b a=A (au c)/\aH b a=F:=⟨_,J,aN _ _,D,aE,aE⟩
def Rn(a:W)(d e f:I):∃b,a.alloc (az #[d,e,f] 358)=b/\B a a b/\b.heap.size=(a:N)+1/\ax b a [d,e,f]/\∀c,c<3->aH b ⟨a,c,Z⟩=F:=⟨_,J,aN _ _,D,ax.new a _ _,λc _=>aE⟩
def hs(a:W)(f:ar)(g:Bool)(h:bp)(b:W):Prop:=∃c d e,h=aq (aZ #[ao #[S c d e],au g])/\aI bb (λi=>i<(a:N)) b (S c d e) f/\B a a b
def Ro(c:ar)(a b:N)(f:ag)(d:a<L c):ah (c.set a f) b=if b=a then f else ah c b:=by unfold ah;by_cases e:b=a;subst e;simp[List.getD,d];rw[ak e];simp[List.getD,List.getElem?_set_ne (λd=>e d.symm)]
def uk{g:bj}{h:aP}(i:w.ownsRow a g b (S (A d) c e) c h)(m:N):aH w ⟨d,m,Z⟩=F:=by rcases i.2 with⟨n,_⟩|⟨s,t,u,f,v,o,_⟩;simp at n;simp only[bf,a2,bN,bT]at f;obtain⟨rfl,_⟩:=f;simp[aH,o]
def dW.len{b:aP}{c:ar}(d:dW a w u b c):L b=L c:=by have:=d.1.1;rw[Nat.mul_one]at this;exact this
def dW.bw{Kx:W}{b:aP}{c:ar}(d:dW a w u b c)(f:B w w Kx):dW a Kx u b c:=⟨c3 d.1 (M.bw (I':=λ_=>False) f) I2,d.2.bw f⟩
def dW.cell{g:aP}{h:ar}(i:dW a w (S (A b) c d) g h)(r:e<L h):C w ⟨b,e,Z⟩=A (g.getD e undef):=by have⟨s,j,m⟩:=hb i.1 e (g.getD e undef) (by have:=i.len;simp[List.getD,show e<L g by omega]);simp only[af,a2]at j;subst j;exact m
def dW.gS{f:aP}{b:ar}(c:dW a w u f b)(h:L b<=1000000):bb w u b:=by rcases bW c.1 with⟨rfl,i⟩|⟨j,k,rfl,_,_,n,_⟩;rw[dn.1 i];exact jQ w;exact⟨_,k,J,h,λl e=>⟨j,0,_,J,by rw[bX];exact c.cell e,(c.2 l e).1.di⟩⟩
def dW.off{g:aP}{c:ar}(b:dW a w u g c)(k:L c<=1000000):aI bb (λd=>d<a) w u c:=by rcases bW b.1 with⟨rfl,l⟩|⟨p,q,rfl,_,_,r,_⟩;rw[dn.1 l];exact λm _ _=>jQ m;refine qI (b.gS k) O λn s e f=>?_;rw[b.cell e]at f;cases f;exact qH (b.2 n e).1 λd o=>o
def dW.aO{IX:N}{d:aP}{e:ar}{I':aD}(b:dW IX w u d e)(f:M I' w x)(g:∀a,I' a->a<IX):dW IX x u d e:=⟨c3 b.1 f (λh l c=>bi ((bI b.1 h l).1) (g h c)),b.2.aO f (λa c=>.inl (g a c))⟩
def dW.push{g n c:N}{l:W}{i:aP}{d:ar}{f:ag}(m:dW a w u i d)(p:B w w x)(s:aW 89 x w v f)(y:a<=(w:N))(z:x.grownBy l (af u))(D:af u=A g\/g=x)(G:l.ownsRow a 98 1 (S (A g) n c) (L d+1) (i++[v])):dW a l (S (A g) n c) (i++[v]) (d++[f]):=by
 have H:∀e,e<L d->ah (d++[f]) e=ah d e:=λe k=>by simp[ah,List.getD,jO k]
 have K:ah (d++[f]) (L d)=f:=by simp[ah,List.getD]
 have M:iM a w u i (d++[f]) (L d):=λe k=>by rw[H e k];exact m.2 e k
 have O:=M.push (g:=g) (n:=n) (c:=c) m.len p (by rw[K];exact s) y (λb p=>(bI m.1 b p).2) z D;exact⟨X G,X O⟩
def dW.put{q:aP}{l:ar}{s:ag}(h:dW a w (S (A b) c d) q l)(ae:L l<=1000000)(D:e<L l)(ai:aW 89 x a u s)(al:w.grownBy x (q.getD e undef).ownBlock)(an:af u=(q.getD e undef).ownBlock\/∀p,af u=A p->(w:N)<=p):aI bb (λp=>p<a) (aj x ⟨b,e,Z⟩ u) (S (A b) c d) (l.set e s):=by
 have av:=bI h.1 b J;have P:M (λp=>p=b) x (aj x ⟨b,e,Z⟩ u):=M.grown (bn _ _ _) (λp f=>X f.symm);have G:=M.grown al λ_ f=>f;have H:(q.getD e undef).ownBlock≠A b:=λf=>((h.2 e D).2 b f).1 J;have ax:aW 89 (aj x ⟨b,e,Z⟩ u) a u s:=ai.aO P λv r f=>by subst f;rcases an with f|f;exact H (f▸r);have:=f _ r;omega
 have ay:∀g,g<L l->g≠e->aW 89 (aj x ⟨b,e,Z⟩ u) a (q.getD g undef) (ah l g):=λg j aA=>((h.2 g j).1.aO G λv r f=>by rcases Nat.lt_or_gt_of_ne aA with K|K;exact((h.2 e D).2 v f).2 g K r;exact((h.2 g j).2 v r).2 e K f).aO P λv r f=>by subst f;exact((h.2 g j).2 _ r).1 J
 have Q:∀g,g<L l->(aj x ⟨b,e,Z⟩ u).cell? ⟨b,g,Z⟩=A (if g=e then u else q.getD g undef):=λg j=>by by_cases f:g=e;subst f;rw[am J];exact bP _ _ _ (by rw[G.cell (h.cell j) H];rfl);rw[ak f,cq _ _ _ _ (by intro aC;exact f (cz Addr.off aC).symm)];exact G.cell (h.cell j) H
 have R:∀g,g<L l->aW 89 (aj x ⟨b,e,Z⟩ u) a (if g=e then u else q.getD g undef) (ah (l.set e s) g):=λg j=>by rw[Ro l e g s D];by_cases f:g=e;rw[am f,am f];exact ax;rw[ak f,ak f];exact ay g j f
 have U:c=L l:=vw
 have aD:bb (aj x ⟨b,e,Z⟩ u) (S (A b) c d) (l.set e s):=by refine⟨_,d,by rw[U,b'],by rw[b'];exact ae,λg j=>?_⟩;rw[b']at j;exact⟨b,0,_,J,by rw[bX];exact Q g j,(R g j).di⟩
 refine qI aD (Y av.1) λg aF j ad=>?_;rw[U]at j;rw[Q g j]at ad;cases ad;exact qH (R g j) λp aE=>aE
def ul(b6 a5 a8 a9:I)(b7:bz)(aV b8:N)(cy cz:V)(bE:ai)(e:ar)(i j:I)(g:W)(d7:aV<=1000000)(cA:bt g cy bE)(b9:bb g cz e)(bN:a6 e<=1000000)(gv:L e+1<=1000000):ap ab 261 #[ao #[aa ac b6,aa ac a5,aa ac a8,aa ac a9,S b7 aV b8,cy],ao #[cz],ao #[aa ac i,aa ac j]] g (hs g (dF e i j (eG (cU aV bE a5 a8 a9 e i j))) (eG (cU aV bE a5 a8 a9 e i j)).1):=by
 obtain⟨d8,dn,b',d9,d'⟩:=bR g (aa ac b6) (aa ac a5) (aa ac a8) (aa ac a9) (S b7 aV b8) cy;obtain⟨ea,dp,ca,fu,cc,cd⟩:=cP d8 cz;obtain⟨eb,dq,ce,fv,cf,ch⟩:=eU ea i j;obtain⟨ec,dr,ed,fw,ci,cj⟩:=cP eb (S Z 0 0);obtain⟨ee,ds,ef,fx,dt,P⟩:=Rn ec 0 0 0;obtain⟨bF,du,cB,fy,Dk,bk⟩:=zv ee F;have eg:(d8:N)=(g:N)+1:=d9;have eh:(ea:N)=(g:N)+2:=O
 have ei:(eb:N)=(g:N)+3:=O
 have ej:(ec:N)=(g:N)+4:=O
 have ek:(ee:N)=(g:N)+5:=O
 have fz:(bF:N)=(g:N)+6:=O
 have cC:=q ef cB;have cD:=q ed cC;have cE:=q ce cD;have dv:=q ca cE;have el:=q b' dv;have fA:=d'.bw dv;have cF:=s cE cc;have cG:=aY cE O cd;have cH:=s cD cf;have cI:=s cD ch;have dw:=s cC ci;have dy:=aY cC O cj;rw[eg]at cF cG;rw[eh]at cH cI;rw[ei]at dw dy;have em:gA ((g:N)+4) ((g:N)+5) (λc=>c=(g:N)+4\/c=(g:N)+5) (F,0,0,0) bF:=by rw[ej]at dt P;rw[ek]at Dk bk;exact⟨dt.bw cB,Dk,λfB fC=>aY cB O (P fB fC),bk,O,J⟩
 have cJ:L e<=1000000:=by obtain⟨_,_,_,rfl,aX,cK,_⟩:=b9.open;omega
 have dz:=Q (λ(k:W) (o:B (g:N) g k)=>zc b6 a5 a8 a9 b7 aV b8 cy cz bE e k d7 (cA.bw o) (b9.bw o) bN);have dA:=Q (λ(k:W) (o:B (g:N) g k)=>b9.bw o);have en:=Q (λ(k:W) (o:B (g:N) g k)=>cA.bw o);have eo:=Q (cx.of bN);obtain⟨fD,fE,fF,rfl,_,_,_⟩:=cA.open;obtain⟨ep,dB,eq,rfl,a0,_,_⟩:=b9.open;change H _ at a0;have cL:=cF;have cM:=cH;have cN:=cI;obtain⟨er,es,eu,ev,ew,ex⟩:=fA;have ey:=er;have ez:=es;have eA:=eu;have eB:=ev;have eC:=ew;have eD:=ex;have dC:=Q (U dw dy);have dD:=Q (U cH cI);have eE:=Q cF;have cO:=Q el;have eF:=Q em;change H _ at dn dp dq dr ds du;clear el em;change H _ at cA b9 cG;clear b' ca ce ed ef cB d9 fu fv fw fx fy cc cd cf ch ci cj dt P Dk bk cC cD cE dv dw dy d';refine m3 func261 J ?_;simp only[ntmps261,List.size_toArray,dx,et,Nat.reduceAdd,Nat.reduceSub,Array.replicate_succ,Array.replicate_zero,List.push_toArray,List.append_toArray,List.nil_append,List.cons_append];go_upto_region 1 with fail;rw[dn.oo,dp.oo,dq.oo,dr.oo];go_upto_region 2 with fail;rw[ds.oo,du.oo];simp only[Nat.add_assoc,Nat.reduceAdd];obtain⟨d,bO⟩:=K (g:N);have eH:(bF:N)=d+6:=O
 rw[<-bO]at eE cG dC dD eF cO dz dA en cL cM cN ey ez eA eB eC eD;rw[<-bO];have cQ:=Q (U bO eH);clear bO eH eg eh ei ej ek fz dn dp dq dr ds du cF cH cI er es eu ev ew ex;refine bv [100,101,103,202,204] ?_;iterate 3 refine mS ?_
 refine aU λbl r=>?_;go_simp;refine(dz.oo _ (cO.oo.trans ((an bF).mono (Y cQ.oo)))).mono ?_;rintro a dE ⟨fG,fH,fI,eI,fJ,fK,fL,eJ,fM,fN,fO,fP,fQ,fR,rfl,_,eK,eL⟩;have bS:=q (an bF) eK;refine r.oo _ _ (.mk bS) ?_;refine aU λbl r=>?_;go_simp;refine(zg b6 a5 a8 a9 b7 fD ep fG fJ fM fP aV b8 fE fF dB eq fH fI fK fL fN fO fQ fR eI eJ i j dE).mono ?_;rintro a x ⟨fS,gk,rfl,eM,eN,g1,g2,g3,fT,dG⟩;have aG:=q bS dG;refine r.oo _ _ (.mk aG) ?_;clear cL cM cN ey ez eA eB eC eD;refine bc ?_;have bO:=cQ.oo;have eO:=aG.size;have eQ:=bS.size;have eR:=Q (λ(k:W) (o:M (λc=>c=d+4\/c=d+5) dE k)=>((cO.oo.trans (bS.mono O)).trans (o.bg O (λc aC a=>O)):B d g k));have eT:=Q (zj fS gk b6 a5 a8 a9 b7 aV b8 _ _ _ _ _ _ eI eJ bE e i j dE x d7 (λc=>c=d+4\/c=d+5) (λk o=>eL k (o.mono λc _ a=>by rcases a with a|a<;>(have:=bS.size;have:(bF.drew:N)=bF:=J;omega)) (dA.oo k (eR.oo k o))) (λk o=>en.oo k (eR.oo k o)) bN cJ (M.bw dG) eM eN);have fU:=Q (eF.oo.bw aG);have fV:=Q (cO.oo.trans (aG.mono O));have eV:=Q (U g1 (U g2 (U eQ eO)));obtain⟨cR,cS⟩:=K (cU aV bE a5 a8 a9 e i j);have fW:H (∀cT∈cR,cT.1=(L e:I)\/∃m bm:N,m<L e/\bm<=(ah e m).length/\cT.1=(m:I)/\cT.2.1=(bm:I)):=Q λcT hp=>zu (by rw[<-cS];exact hp);rw[<-cS]at eT;change H _ at aG cS;clear bS dG eM eN g1 g2 g3 fT eL eK bO eO eQ dz;go_wp2_with fail;refine nY J (enters_of func290 aT J) eT.oo (λ_=>rfl) (λa1 t cV=>gA (d+4) (d+5) t (eG a1) cV/\M t x cV) _ (λa1 t cV gw ⟨R,y⟩ eW=>⟨R.aO eW (λc a v=>v.2 a),y.trans eW I2 (λc aC a=>Y a.1)⟩) (λa1 t cV ⟨R,y⟩ c a=>⟨R.lt c a,λG=>by have aX:=R.has;rw[aX]at a;have gx:=eV.oo;have dH:=cQ.oo;rcases G with G|G|G;exact G.2 a;omega;omega⟩) ⟨fU.oo,M.refl _ _⟩ ?round ?done;case round=>
  intro gy a1 fX t n dI fY eX cW;obtain⟨R,y⟩:=dI;obtain⟨P,ba,ad⟩:=fX;have cX:=Rl a1 (P,ba,ad);obtain⟨⟨bo,bq,bT,aK⟩,bV⟩:=K (eG a1);rw[<-bV]at R cX;obtain⟨br,bG⟩:=K ((x:N)+1);rw[<-bG]at eX cW;obtain⟨gz,eY,bX,gB,Dk,bk,eZ⟩:=zl n P ba ad;have e0:=R.bw bX;change H _ at eY bX bG;change H _ at cX cW;clear R bV fY;simp only[iC,List.zip_toArray,List.zip_cons_cons,List.zip_nil_left];gi_wp2;rw[eY.oo];refine⟨bX.oo,λbY bH=>?_⟩;rw[<-bG.oo]at bH;have cY:(n:N)≠br:=O
  have Dk:=bH.cell Dk cY;have bk:=bH.cell bk cY;have eZ:=bH.cell eZ cY;have aP:=e0.aO bH (λc a e1=>cW.oo c a e1);have cZ:M (λc=>c=br) n bY:=(M.bw (I':=λ_=>False) bX.oo).trans bH (λ_ _ a=>a.elim) I2;have ck:br<bY.heap.size:=cg eX cZ.size;have e2:=Q (λ(u:W) (aX:gA (d+4) (d+5) t (eG (a1++[(P,ba,ad)])) u) (cK:M t bY u)=>(⟨t,⟨aX,(y.trans cZ I2 (λc aC a=>Y bG.oo)).trans cK I2 I2⟩,cZ.trans cK (λ_ _ a=>.inr a) (λ_ _ a=>.inl a),cK.block br ck (λa=>cW.oo br a J),λc a=>.inl a⟩:∃dJ,(gA (d+4) (d+5) dJ (eG (a1++[(P,ba,ad)])) u/\M dJ x u)/\M (λc=>t c\/c=br) n u/\u.heap[br]? =bY.heap[br]?/\∀c,dJ c->t c\/(n:N)<=c));have e3:=Q aP;have u0:=aP.b 0 _ J;have u1:=aP.b 1 _ J;have u2:=aP.b 2 _ J;have u3:=aP.f;have gC:=aP.zb 0 O;have g1:=aP.zb 1 O;have g2:=aP.zb 2 O;have g3:=aP.zf;have gD:=Q aP.ne;simp only at u0 u1 u2 u3;clear bH e0 aP y cZ ck cY;by_cases bu:bo=F\/ad<aK
  ·have cl:eG (a1++[(P,ba,ad)])=(T,P,ba,ad):=by rw[cX.oo];exact am bu
   have dK:=e3.oo.store P ba ad;have c0:=e2.oo (pR bY (d+4) (d+5) P ba ad) (by rw[cl];exact dK.1) dK.2;unfold pR at c0;change H _ at c0;clear dK cl;cases bo with
    |false=>clear bu;gi_wp2;have G:=c0.oo;rw[bG.oo]at G;exact G
    |true=>
     have fZ:ad<aK:=by rcases bu with v|v;cases v;exact v
     have f0:decide (ad<aK)=T:=X fZ
     clear bu;gi_wp2;have G:=c0.oo;rw[bG.oo]at G;exact G
  have cl:eG (a1++[(P,ba,ad)])=(bo,bq,bT,aK):=by rw[cX.oo];exact ak bu
  have f1:=Q cl;cases bo with
   |false=>exact absurd (.inl J) bu
   |true=>
    have f0:decide (ad<aK)=F:=by simpa using λv=>bu (.inr v)
    clear bu cl;gi_wp2;have G:=e2.oo bY (by rw[f1.oo];exact e3.oo) (M.refl _ _);rw[bG.oo]at G;exact G
 case done=>
  intro t n dI c1 gE;obtain⟨R,y⟩:=dI;have dH:=cQ.oo;have f2:=eV.oo;have bx:∀c,t c->c=d+4\/c=d+5:=λc a=>by have v:=R.has;rw[v]at a;exact a
  have gF:=y.size;have cc:=y.cell (s aG.oo eE.oo) (λa=>Y (bx _ a));have cd:=y.free (aY aG.oo O cG.oo) O (λa=>Y (bx _ a));have ci:=y.cell (s aG.oo dC.oo.1) (λa=>Y (bx _ a));have cj:=y.free (aY aG.oo O dC.oo.2) O (λa=>Y (bx _ a));have cf:=y.cell (s aG.oo dD.oo.1) (λa=>Y (bx _ a));have ch:=y.cell (s aG.oo dD.oo.2) (λa=>Y (bx _ a));have dL:B d g n:=fV.oo.trans (y.bg O (λc aC a=>Y (bx _ a)));have f3:=Q (Rk (S ep dB eq) e n (dA.oo n dL) eo.oo);have dM:=λ(v:(eG cR).1=T)=>fW.oo _ (zt cR v);obtain⟨⟨bo,bq,bT,aK⟩,bV⟩:=K (eG cR);rw[<-bV]at R dM;have dN:H (eG (cU aV bE a5 a8 a9 e i j)=(bo,bq,bT,aK)):=Q (by rw[<-cS.oo,bV]);have gG:d+6<=(n:N):=O
  have gH:d+6<=(x:N):=O
  have gI:=cJ;have c2:=Q (U ci (U cj (U cf ch)));have e4:=Q R;have bX:=Q dL;have e5:=dH.1;have dO:=Q (λ(u:W) (ae:bz) (ag al:N) (c3:Bool) (e6:ar) (f4:aI bb (λc=>c<(n:N)) u (S ae ag al) e6) (ce:B d g u) (e7:u.heap[(x:N)]? =A (.deferred (A []))) (f5:C u ⟨d+3,0,Z⟩=A (S Z 0 0))=>(by have f6:=(bM.1 e7).1;have gJ:=(bM.1 c1).1;have e8:M (λc=>c=d+3) u (aj u ⟨d+3,0,Z⟩ (S ae ag al)):=M.grown (bn _ _ _) (λc a=>X a.symm);have c4:=hc (aj u ⟨d+3,0,Z⟩ (S ae ag al)) (x:N) (.deferred Z);refine⟨(e8.block _ f6 O).trans e7,c4.cell (bP _ _ _ (by rw[f5];rfl)) O,ae,ag,al,J,?_,?_⟩;exact(f4.set (G':=λc=>c<(n:N)) _ _ aF (λc aC=>aC)).step c4.size (λc aC f7=>c4.block c aC (λa=>f7 O)) (λc _ aC=>O);rw[<-e5];have aX:=ce.trans (e8.bg (Y ce.size) λc aC a=>O);exact aX.trans (c4.bg (Y aX.size) λc aC a=>O):(aj u ⟨d+3,0,Z⟩ (S ae ag al)).heap[(x:N)]? =A (.deferred (A []))/\((aj u ⟨d+3,0,Z⟩ (S ae ag al)).putObj (x:N) (.deferred Z)).cell? ⟨d+3,0,Z⟩=A (S ae ag al)/\hs g e6 c3 (aq (aZ #[ao #[S ae ag al],au c3])) ((aj u ⟨d+3,0,Z⟩ (S ae ag al)).putObj (x:N) (.deferred Z))));change H _ at c1 dM;clear R y bx dL bV dH f2 e5;go_wp2_with fail;refine f3.oo.mono ?_;rintro a e9 ⟨be,l,aQ,cm,rfl,dP,aR⟩;have f8:l=dB:=by have gL:=a0.oo;rcases bW dP.1 with⟨a,f9⟩|⟨_,_,a,_⟩<;>simp only[bf]at a;omega;omega
  subst f8;have gM:=(bM.1 c1.oo).1;have f':=s aR cc;have ga:=aY aR O cd;have gN:=aR.size;obtain⟨h,bZ⟩:=K (aj e9 ⟨d+1,0,Z⟩ (S be l aQ));have a2:M (λc=>c=d+1) e9 h:=by rw[bZ];exact M.grown (bn _ _ _) (λc a=>X a.symm)
  have e':dW (n:N) h (S be l aQ) cm e:=dP.aO a2 (λc3 a=>O);have Dk:C h ⟨d+1,0,Z⟩=A (S be l aQ):=by rw[bZ];exact bP _ _ _ (by rw[f'];rfl)
  have bk:aH h ⟨d+1,0,Z⟩=F:=by rw[bZ,bs];exact ga
  have gb:=a2.cell (s aR c2.oo.1) O;have fa:=a2.free (aY aR O c2.oo.2.1) O O;have cn:=a2.cell (s aR c2.oo.2.2.1) O;have co:=a2.cell (s aR c2.oo.2.2.2) O;have c5:gA (d+4) (d+5) t (bo,bq,bT,aK) h:=(e4.oo.bw aR).aO a2 (λc a e1=>by have v:=e4.oo.has;rw[v]at a;omega);have c6:h.heap[(x:N)]? =A (.deferred (A [])):=(a2.block _ O O).trans ((aR.block _ O).trans c1.oo);have fb:B d g h:=(bX.oo.trans (aR.mono O)).trans (a2.bg O λc aC a=>O);have u0:=c5.b 0 _ J;have u1:=c5.b 1 _ J;have u3:=c5.f;simp only at u0 u1 u3;have gO:=a2.size;have bh:=Q e';have dQ:=Q fb;have c7:=Q (U cn co);have dR:=Q gb;change H _ at bZ c6;clear dP e' c5 fb a2 aR cc cd ci cj cf ch cn co;cases bo with
   |false=>have z:=dO.oo h be l aQ F e (bh.oo.off cJ) dQ.oo c6.oo dR.oo;have bN:dF e i j (F,bq,bT,aK)=e:=J;rw[<-bN]at z;have bA:=z.1;have bB:=z.2.1;have bC:=z.2.2;change H _ at bA bB bC;clear z bN;go_upto_region 9 with fail;rw[<-bZ.oo];go_wp2_with fail;have Dk:=bB.oo;rw[dN.oo];exact kK (Kl:=aZ #[ao #[S be l aQ],au F]) bA.oo sr bC.oo
   |true=>
    have c8:=dM.oo J;try simp only at c8
    go_upto_region 9 with fail;rw[<-bZ.oo];by_cases b0:bq=(l:I)
    ·have gc:(bq==(l:I))=T:=by simpa using b0
     have cp:dF e i j (T,bq,bT,aK)=e++[[(i,j)]]:=by unfold dF;rw[ak D,am (by rw[a0.oo];exact b0)]
     have cn:=c7.oo.1;have co:=c7.oo.2;change H _ at cp;clear c8 b0;go_upto_region 12 with fail;refine bv [0,101,102,203,204,305,6,307] ?_;iterate 3 refine mS ?_
     refine aU λbl r=>?_;go_simp;refine mF (rp i j _) λaD c9 c' da ⟨fd,bJ⟩=>?_;have dS:B (h:N) h aD:=q (an h) bJ;refine r.oo _ _ (.mk dS) ?_;obtain⟨a3,fe,dT,gd,ff⟩:=d0 aD (S c9 c' da);have aE:=q dS dT;have db:=(bh.oo.bw aE).1;have ge:=Q (d2 ff);have gf:H ((n:N)<=a3):=Q (Y aE.size);refine aU λbl r=>?_;go_simp;try rw[fe]
     refine r.oo _ _ (.mk aE) ?_;have fg:aW 89 a3 (h:N) (S c9 c' da) [(i,j)]:=fd.bw dT;have cq:=s aE Dk;have fh:=aY aE O bk;have cr:=s aE dR.oo;have cs:=aY aE O fa;have ct:a3.heap[(x:N)]? =A (.deferred (A [])):=(aE.block _ O).trans c6.oo;have cu:=dQ.oo.trans (aE.mono O);have gg:=aE.size;refine b4 λbl r=>?_;refine iy (.tmp 60) (.tmp 63) 93 98 _ 1 24 underlying93 lI J av av J a3 (n:N) (S be l aQ) l cm [S c9 c' da] aD.heap.size J J ge.oo J eP (by rw[<-a0.oo];rw[a0.oo]at db⊢;exact db) (Y a0.oo) gf.oo ?_;intro p cv bD aX bi dc gh;have fi:dW (n:N) bD (S (A ⟨p,0,Z⟩) (l+1) cv) (cm++[S c9 c' da]) (e++[[(i,j)]]):=bh.oo.push aE fg O bi dc (by rw[a0.oo];exact aX);have bK:∀w,w<(n:N)->A w≠(S be l aQ).ownBlock:=λw dU a=>Y ((bI db w a.symm).1)
     have dX:=bi.cell cq (bK (d+1) O);have gi:=eS bi O (bK (d+1) O) fh;have dd:=bi.cell cr (bK (d+3) O);have dY:=eS bi O (bK (d+3) O) cs;have dZ:bD.heap[(x:N)]? =A (.deferred (A [])):=(bi.block _ O (bK (x:N) O)).trans ct;have fj:B d g bD:=cu.trans ((M.grown (I':=λw=>(S be l aQ).ownBlock=A w) bi λ_ a=>a).bg O λw dU a=>bK w O a.symm);have gP:=bi.size;refine r.oo _ _ ?_;clear aX dc gh bi bK dS aE dT bJ fd fg db cq fh cr cs ct cu ff fe gd;refine mS ?_;refine b4 λbl r=>?_;go_simp;obtain⟨d1,de⟩:=K (aj bD ⟨d+1,0,Z⟩ (S (A ⟨p,0,Z⟩) (l+1) cv));try rw[<-de]
     refine r.oo _ _ ?_;have b2:M (λc=>c=d+1) bD d1:=by rw[de];exact M.grown (bn _ _ _) (λc a=>X a.symm)
     have fk:=(bM.1 dZ).1;have gQ:C d1 ⟨d+1,0,Z⟩=A (S (A ⟨p,0,Z⟩) (l+1) cv):=by rw[de];exact bP _ _ _ (by rw[dX];rfl)
     have gj:=b2.cell dd O;have gR:=b2.free dY O O;have z:=dO.oo d1 (A ⟨p,0,Z⟩) (l+1) cv T (e++[[(i,j)]]) ((fi.aO b2 (λc3 a=>O)).off (by rw[bL];simp;omega)) (fj.trans (b2.bg O λc aC a=>O)) ((b2.block _ fk O).trans dZ) gj;have bA:=z.1;have bB:=z.2.1;have bC:=z.2.2;change H _ at bA bB bC;clear z fi fj dZ b2 dX gi dd dY de fk;refine bc ?_;go_wp2_with fail;have Dk:=bB.oo;rw[dN.oo,cp.oo];exact kK (Kl:=aZ #[ao #[S (A ⟨p,0,Z⟩) (l+1) cv],au T]) bA.oo sr bC.oo
    obtain⟨m,bm,df,fl,b',ca⟩:=c8.resolve_left (λa=>b0 (by rw[a,a0.oo]));try simp only at b' ca
    subst b';subst ca;have gc:(((m:N):I)==(l:I))=F:=X b0
    have gS:m<l:=Y a0.oo
    obtain⟨p,rfl⟩:∃p,be=A ⟨p,0,Z⟩:=by rcases bW bh.oo.1 with⟨a,f9⟩|⟨p,_,a,_⟩<;>simp only[bf]at a;omega;exact⟨p,a.1⟩
    have cp:dF e i j (T,(m:I),(bm:I),aK)=e.set m (dV (ah e m) bm (i,j)):=by unfold dF;rw[ak D,ak aF];simp
    have d3:=bh.oo.cell df;have b3:=bh.oo.2 m df;obtain⟨gl,dg⟩:=K (cm.getD m undef);rw[<-dg]at d3 b3;obtain⟨ax,ay,aA,rfl⟩:∃ae ag al,gl=S ae ag al:=by rcases bW b3.1 with⟨rfl,_⟩|⟨_,_,rfl,_⟩<;>exact⟨_,_,_,J⟩
    have gT:=bI bh.oo.1 p J;have dh:(S ax ay aA).ownBlock≠A p:=λa=>(b3.2 p a).1 J;have aS:∀w,(S ax ay aA).ownBlock=A w->(n:N)<=w/\w<(h:N):=λw a=>b3.1.lt w a;have ck:(ah e m).length<=1000000:=eo.oo m;have fm:h.ownsRow (n:N) 98 1 (S (A ⟨p,0,Z⟩) l aQ) l cm:=by have v:=bh.oo.1;rw[a0.oo]at v;exact v
    have fn:=uk fm m;clear fm;have gm:=Q (λ(k:W) (di:N) (o:B (h:N) h k) (dj:k.heap[di]? =A (az #[aa ac i,aa ac j] 89 (0,0))) (gU:(h:N)<=di)=>Re (n:N) bm (S ax ay aA) (ah e m) di i j k fl (b3.1.bw o) ck dj (λa=>Y ((aS di a).2)) (Y o.size));have gn:=Q (λ(k fo:W) (cw:V) (o:B (h:N) h k) (go:aW 89 fo (n:N) cw (dV (ah e m) bm (i,j))) (gp:k.grownBy fo (S ax ay aA).ownBlock) (dc:af cw=(S ax ay aA).ownBlock\/∀c,af cw=A c->k.heap.size<=c)=>dW.put (bh.oo.bw o) cJ df go (by rw[<-dg];exact gp) (by rw[<-dg];exact dc));have cn:=c7.oo.1;have co:=c7.oo.2;have gV:=aJ m;have gW:(m:I)<l:=O
    have gq:=Q d3;change H _ at cp aS dh fn;clear c8 b0 b3 dg ck df fl;go_upto_region 8 with fail;have cL:=bU.cell (G:=λc=>(S ax ay aA).ownBlock=A c) d3 dh.oo;have cM:=bU.cell (G:=λc=>(S ax ay aA).ownBlock=A c) cn (λa=>Y ((aS.oo _ a).1));have cN:=bU.cell (G:=λc=>(S ax ay aA).ownBlock=A c) co (λa=>Y ((aS.oo _ a).1));have gr:=bU.cell (G:=λc=>(S ax ay aA).ownBlock=A c) u1 (λa=>Y ((aS.oo _ a).1));have gs:=bU.cell (G:=λc=>(S ax ay aA).ownBlock=A c) Dk (λa=>Y ((aS.oo _ a).1));refine od (λc=>(S ax ay aA).ownBlock=A c) [0,1,2,3,5,104,106,107,208,209,10,11,312] ?_;iterate 8 refine mS ?_
    obtain⟨aD,fp,bJ,gX,dj⟩:∃aD,h.alloc (az #[aa ac i,aa ac j] 89)=aD/\B (h:N) h aD/\aD.heap.size=(h:N)+1/\aD.heap[(h:N)]? =A (az #[aa ac i,aa ac j] 89 (0,0)):=⟨_,J,aN _ _,D,World.alloc_heap_new _ _⟩
    refine aU λbl r=>?_;go_simp;try rw[fp]
    refine r.oo _ _ (.mk (M.bw (by first|exact bJ|exact q bJ (an _)))) ?_;refine aU λbl r=>?_;go_simp;have dl:B (h:N) h aD.drew:=q bJ (an _);refine mE (gm.oo aD.drew (h:N) dl dj (aL _)) λa3 cw ⟨d4,d5,fq⟩=>?_;obtain⟨fr,fs,ft,rfl⟩:∃ae ag al,cw=S ae ag al:=by rcases bW d4 with⟨rfl,_⟩|⟨_,_,rfl,_⟩<;>exact⟨_,_,_,J⟩
    have d6:=gn.out aD.drew a3 (S fr fs ft) dl d4 d5 fq;have a4:M (λc=>(S ax ay aA).ownBlock=A c) h a3:=(M.bw (I':=λ_=>False) dl).trans (M.grown (I':=λc=>(S ax ay aA).ownBlock=A c) d5 λ_ a=>a) (λ_ _ a=>a.elim) I2;refine r.oo _ _ (.mk a4) ?_;clear cL cM cN gr gs;have gt:=a4.cell gq.oo dh.oo;have gu:=a4.free fn.oo O dh.oo;have cq:=a4.cell Dk (λa=>Y ((aS.oo _ a).1));have cr:=a4.cell dR.oo (λa=>Y ((aS.oo _ a).1));have cs:=a4.free fa O (λa=>Y ((aS.oo _ a).1));have ct:a3.heap[(x:N)]? =A (.deferred (A [])):=(a4.block _ O (λa=>Y ((aS.oo _ a).1))).trans c6.oo;have cu:=dQ.oo.trans (a4.bg O (λw dU a=>Y ((aS.oo _ a).1)));have gg:=a4.size;obtain⟨bD,dm⟩:=K (aj a3 ⟨p,m,Z⟩ (S fr fs ft));rw[<-dm]at d6;have b5:M (λc=>c=p) a3 bD:=by rw[dm];exact M.grown (bn _ _ _) (λc a=>X a.symm)
    have dX:=b5.cell cq O;have dd:=b5.cell cr O;have dY:=b5.free cs O O;have z:=dO.oo bD (A ⟨p,0,Z⟩) l aQ T (e.set m (dV (ah e m) bm (i,j))) d6 (cu.trans (b5.bg O λw dU a=>O)) ((b5.block _ O O).trans ct) dd;have bA:=z.1;have bB:=z.2.1;have bC:=z.2.2;change H _ at bA bB bC;change H _ at dm;clear z d6 cu ct b5 a4 cq cr cs d4 d5 fq dl bJ fp dj;iterate 2 refine mS ?_
    refine b4 λbl r=>?_;go_simp;try rw[<-dm.oo]
    refine r.oo _ _ ?_;clear gt gu;refine bc ?_;go_wp2_with fail;have Dk:=bB.oo;rw[dN.oo,cp.oo];exact kK (Kl:=aZ #[ao #[S (A ⟨p,0,Z⟩) l aQ],au T]) bA.oo sr bC.oo
def cO(b:N)(c:ai)(d e f:I)(g:ar)(left:ag):N:=(ib (λa=>kx (cU b c d e f g (al left a).1 (al left a).2)) left.length).toNat
def c0(b:N)(c:ai)(d e f:I)(g:ar)(a:a4):Bool×I×a4:=eG (cU b c d e f g a.1 a.2)
def iN(b:N)(c:ai)(d e f:I):N->ar->ag->Bool×ar
 |0,a,_=>(T,a)
 |g+1,a,left=>if(c0 b c d e f a (al left (cO b c d e f a left))).1 then iN b c d e f g (dF a (al left (cO b c d e f a left)).1 (al left (cO b c d e f a left)).2 (c0 b c d e f a (al left (cO b c d e f a left)))) (left.eraseIdx (cO b c d e f a left))else(F,a)
def e2(b:N)(c:ai)(d e f:I)(a:ag):Bool×ar:=iN b c d e f (L a) [] a
def zw{I9:N}{I0:ai}{Kv Jv JV:I}{Jj:ar}{JU:ag}(b:0<JU.length):cO I9 I0 Kv Jv JV Jj JU<JU.length:=by have:=KF (λa=>kx (cU I9 I0 Kv Jv JV Jj (al JU a).1 (al JU a).2)) JU.length b;unfold cO;omega
def Rp{I9:N}{I0:ai}{Kv Jv JV:I}{Jj:ar}{JU:ag}(b:0<JU.length):ib (λa=>kx (cU I9 I0 Kv Jv JV Jj (al JU a).1 (al JU a).2)) JU.length=(cO I9 I0 Kv Jv JV Jj JU:I):=by have:=KF (λa=>kx (cU I9 I0 Kv Jv JV Jj (al JU a).1 (al JU a).2)) JU.length b;unfold cO;omega
def Rq{a:ar}{b:Bool×I×a4}(e:b.1=T->b.2.1=(L a:I)\/∃c d:N,c<L a/\d<=(ah a c).length/\b.2.1=(c:I)/\b.2.2.1=(d:I)):a6 (dF a i j b)<=a6 a+1:=by
 unfold dF;cases h:b.1 with
  |false=>simp
  |true=>simp only[Bool.true_eq_false,if_false];split;unfold a6;simp;rename_i k;rcases e h with e|⟨c,d,l,p,m,n⟩;exact absurd e k;have o:=tT a c (dV (ah a c) d (i,j)) l;rw[m,n];simp only[cW];rw[pP]at o;omega
def ow{I9:N}{I0:ai}{Kv Jv JV:I}{Jj:ar}(a:a4):a6 (dF Jj a.1 a.2 (c0 I9 I0 Kv Jv JV Jj a))<=a6 Jj+1:=Rq λb=>zu (zt _ b)
def pS(a:ar)(b c:I)(d:Bool×I×a4):(dF a b c d).length<=L a+1:=by unfold dF;split;omega;split;simp;simp
def bG.shape{c:a0}(d:bG w u c):∃a b,u=S a (L c) b:=by obtain⟨a,b,f,_⟩:=d;exact⟨a,b,f⟩
def zx(f g h i:I)(j:bz)(b k:N)(l:V)(a:I)(e:W)(q:b<=1000000):ap ab 229 #[ao #[f,g,h,i,S j b k,l],a] e (k4 e (decide (0<=a/\a<(b:I)))):=by
 have⟨r,HO,C9,m,n⟩:=bR e f g h i (S j b k) l;obtain⟨s,t,u,v,w,x⟩:=n;change H _ at HO C9;clear m;by_cases c:0<=a
 ·have o:decide (0<=a)=T:=by simpa using c
  by_cases d:a<(b:I)
  ·have p:decide (a<(b:I))=T:=by simpa using d
   have B6:H (decide (0<=a/\a<(b:I))=T):=Q (by simp[c,d]);exact sL
  have p:decide (a<(b:I))=F:=X d
  have B6:H (decide (0<=a/\a<(b:I))=F):=Q (by simp[c,d]);exact sL
 have o:decide (0<=a)=F:=X c
 have B6:H (decide (0<=a/\a<(b:I))=F):=Q (by simp[c]);exact sL
def jq(a:Cu):I:=if a.kd=1 then a.dm else 1
def eo(e:N)(a:ai)(f g h:I)(c d:I)(b:ar):I:=if(c0 e a f g h b (c,d)).1 then max 0 (aB (cl a (dF b c d (c0 e a f g h b (c,d)))-cl a b))else 4294967296
def Rr(a:W)(c d:I):∃b,a.alloc (az #[c,d] 89)=b/\B a a b/\b.heap.size=(a:N)+1/\ax b a [c,d]/\∀e,aH b ⟨a,e,Z⟩=F:=⟨_,J,aN _ _,D,ax.new a _ _,λe=>aE⟩
def Rs(ag d e f:Int)(bE bF bH:Value)(ah:List Cu)(b:List (List Int))(h:List (List (List (Int×Int))))(a:Nat)(l:World)(co:bG l bE ah)(d':ah.length<=1000000)(dp:a<ah.length)(bI:bt l bF b)(bJ:bq l bH h)(a8:eE h):Calls prog 260 #[.agg #[.int .i64 ag,.int .i64 d,.int .i64 e,.int .i64 f,bE,bF],.agg #[bH],.int .i64 a] l (l1 l (h.map (eo ah.length b d e f a (jq (aQ ah a))))):=by
 obtain⟨dq,cp,cq,cr,cs⟩:=bR l ag d e f bE bF;obtain⟨dr,ct,bK,a9,bL⟩:=ec dq bH;obtain⟨bM,cu,ba,bN,bO,bP⟩:=Rr dr a 1;rw[cr]at bL a9;rw[a9]at bO bP bN;have bS:=q cq (q bK ba);have cv:=cs.bw (q bK ba);have bT:=s ba bL;have cw:=co.bw bS;have bU:=Q (λ(i:W) (m:B l l i)=>bI.bw m);have cy:=Q (λ(i:W) (m:B l l i)=>bJ.bw m);obtain⟨be,bh,bk,rfl,_,_,_⟩:=bI.open;obtain⟨eb,c,bl,rfl,ds,_,cz⟩:=cw.open;obtain⟨bm,bo,ed,rfl,_,bV⟩:=cz a O;obtain⟨ee,aO,ef,rfl,Da,eg,_⟩:=bJ.open;rw[ds]at dp⊢;have cA:c<=1000000:=O
 obtain⟨x,cB⟩:=K (aQ ah a);rw[<-cB]at bV⊢;obtain⟨g,bW⟩:=K (jq x);rw[<-bW];have bX:=Q (zx ag d e f (A ⟨bm,bo,Z⟩) c bl (S be bh bk) a bM cA);rw[show decide (0<=(a:I)/\(a:I)<c)=T by simp;omega]at bX;have aP:=Q (U bO (U bP bN));have aR:=Q (U bV cv);obtain⟨y,z,G,P,R,ad⟩:=cv;have dt:=aJ a;have du:(a:I)<c:=O
 change H _ at cp ct cu bS bT;change H _ at a8 bW Da;clear co cw bI bJ cq bK ba cr bN cs bO bP cz cB bV bL;go_in;go_upto_region 1 with fail;rw[cp,ct];go_upto_region 2 with fail;rw[cu];try rw[a9]
 clear a9;obtain⟨k,ai⟩:=K (l:N);rw[<-ai]at bU cy aP aR y z G P R ad bT⊢;change H _ at ai;go_wp2_with fail;refine mU bX λbZ al=>?_;have b0:=aR.1.bw al;obtain⟨y,z,G,P,R,ad⟩:=aR.2.bw al;have dv:=b0.c0;have dw:=b0.c1;have b2:=aP.1.bw al;have dx:=aY al (Y aP.2.2) (aP.2.1 1);have u1:=b2 1 _ J;have aT:=Q (U b2 al);clear b0 b2 al;go_upto_if 27 with fail;go_cut [7] (λdy cC=>dy=aM (A ⟨k+2,0,Z⟩)/\ax cC (k+2) [aa ac a,aa ac g]/\M (λn=>n=k+2) bM cC);case first=>
  have ae:=bW.oo;unfold jq at ae;by_cases aA:x.kd=1
  ·have dz:(x.kd==1)=T:=by simpa using aA
   rw[am aA]at ae;have p:ax (aj bZ ⟨k+2,1,Z⟩ x.dm) (k+2) [a,g]/\M (λn=>n=k+2) bM (aj bZ ⟨k+2,1,Z⟩ x.dm):=by rw[ae];exact⟨aT.1.set 1 x.dm D,(M.bw (I':=λ_=>False) aT.2).trans (M.grown (I':=λn=>n=k+2) (bn _ _ _) (λn aD=>X aD.symm)) (λ_ _ aD=>aD.elim) I2⟩
   change H _ at p;clear aA ae;go_wp2;go_meet;exact⟨J,p.1,p.2⟩
  have dz:(x.kd==1)=F:=X aA
  rw[ak aA]at ae;have p:ax bZ (k+2) [a,g]:=by rw[ae];exact aT.1
  change H _ at p;clear aA ae;go_wp2;go_meet;exact⟨J,p,M.bw aT.2⟩
 obtain⟨rfl,cD,t⟩:=hcut;obtain⟨o,rfl⟩:=K wc;clear y z G P R ad dv dw u1 dx;have br:B k l o:=by have b3:=bS.oo;rw[<-ai]at b3;exact b3.trans (t.bg (bi b3.size ai.oo) λn eh aD=>O)
 have cE:ci o k ag d e f (S (A ⟨bm,bo,Z⟩) c bl) (S be bh bk):=by obtain⟨dB,dC,dD,dE,dG,dH⟩:=aR.2;exact⟨t.cell dB O,t.cell dC O,t.cell dD O,t.cell dE O,t.cell dG O,t.cell dH O⟩
 have dI:=t.cell bT O;have cF:=cy o br;obtain⟨_,_,_,cG,_,_,cH⟩:=cF.open;simp only[bf]at cG;obtain⟨rfl,rfl,rfl⟩:=cG;have aV:k<=(o:N):=bi br.size ai.oo
 have dK:=Q (λ(i:W) (aW:V) (j:ar) (m:B k l i) (b5:bb i aW j) (aE:a6 j<=1000000) (dL:L j+1<=1000000)=>ul ag d e f (A ⟨bm,bo,Z⟩) c bl (S be bh bk) aW b j a g i cA (bU i m) b5 aE dL);have cI:=Q (λ(i:W) (aW:V) (j:ar) (m:B k l i) (b5:bb i aW j) (aE:cx j)=>qF ag d e f (S (A ⟨bm,bo,Z⟩) c bl) (S be bh bk) aW b j i ⟨_,_,_,J⟩ (bU i m) b5 aE);have cJ:=Q cE;have dM:=Q cD;have bs:=Q br;change H _ at cH;clear cE cD t br cF bX aP aR aT;go_wp2_with fail;clear dI;go_loopw [8,10,11,12,13,38] (λdN dO cK dP dQ b6 wr=>∃(JL:N) (n cL cM cN cO:V),n=dN/\cL=dO/\cM=cK/\cN=dP/\cO=dQ/\b6=JL/\JL<=aO/\ay wr o n ((h.map (eo c b d e f a g)).take JL)/\B o o wr) (λ_ _ _ _ _ b6 _=>aO-(aw b6).toNat);exact⟨0,_,_,_,_,_,J,J,J,J,J,J,a3 _,ay.nil _ _,aS _ _⟩;obtain⟨JL,n,cL,cM,cN,cO,rfl,rfl,rfl,rfl,rfl,rfl,ei,aX,aF⟩:=hrel;obtain⟨b7,rfl⟩:=K wr;have dR:(o:N)<=b7:=aF.size;by_cases Ch:JL<aO
 ·obtain⟨cK,ej,cP,cQ,cR,rfl,b8,hp⟩:=cH JL Ch;have b8:=s aF b8;have dt:=aJ JL;have du:(JL:I)<aO:=by omega
  have a0:(h.map (eo c b d e f a g)).take (JL+1)=(h.map (eo c b d e f a g)).take JL++[eo c b d e f a g (aC h JL)]:=by
   have cS:JL<L h:=c1
   have aD:aC h JL=h[JL]:=by simp[aC,cS]
   rw[eR (X cS)];simp[aD]
  have bu:((h.map (eo c b d e f a g)).take JL).length+1<=17592186044416:=oZ
  have aG:eo c b d e f a g (aC h JL)=if(c0 c b d e f (aC h JL) (a,g)).1 then max 0 (aB (cl b (dF (aC h JL) a g (c0 c b d e f (aC h JL) (a,g)))-cl b (aC h JL)))else 4294967296:=J;obtain⟨dS,cT,b9,dT,a2⟩:=c8 b7 (S cP cQ cR);have aI:=aF.trans (b9.mono dR);have bx:=hp.bw aI;have bz:a6 (aC h JL)<=1000000:=a1 (a8 JL).1 av;have cV:=(a8 JL).1;have dU:=(a8 JL).2;have bA:=dK dS _ _ (bs.trans (aI.mono aV)) bx bz O;have b':=ow (I9:=c) (I0:=b) (Kv:=d) (Jv:=e) (JV:=f) (Jj:=aC h JL) (a,g);have cW:=aX.bw b9;obtain⟨j,aE⟩:=K (aC h JL);rw[<-aE]at a0 aG bx bz cV bA b';obtain⟨dV,cX⟩:=K (eo c b d e f a g j);rw[<-cX]at a0 aG;obtain⟨ca,bB⟩:=K (dF j a g (c0 c b d e f j (a,g)));obtain⟨dW,cc⟩:=K ((c0 c b d e f j (a,g)).1);rw[show eG (cU c b d e f j a g)=c0 c b d e f j (a,g)from J,<-bB,<-cc]at bA;rw[<-bB,<-cc]at aG;rw[<-bB]at b';have cY:a6 ca<=1000000:=O
  obtain⟨y,z,G,P,R,ad⟩:=cJ.bw aI;have cd:=dM.bw aI;have u0:=cd 0 _ J;have u1:=cd 1 _ J;have cZ:=Q aI;have dX:=Q cW;have dY:=Q bA;have d0:=Q bx;replace bu:=Q bu;change H _ at a0 aG bz cY cT;clear aI cW bA bx;clear b9 dT aF aX hp aE cX bB cc cd b' cV dU;go_upto_region 9 with fail;rw[cT];obtain⟨en,c2⟩:=K (b7:N);rw[<-c2]at a2⊢;clear b8 c2;go_wp2_with fail;refine mF dY λd1 c3 c4 c5 ⟨c6,c7⟩=>?_;obtain⟨aN,ce,cf,d2,c9⟩:=c8 d1 (S c3 c4 c5);have a4:=q c7 cf;have cg:=cZ.trans (a4.mono cZ.size);have a5:=dX.bw a4;have c':=c6.now.bw cf;have da:=d0.bw a4;obtain⟨y,z,G,P,R,ad⟩:=cJ.bw cg;have a2:=s a4 a2;have db:=Q (U c' da);have v:=Q cg;have dc:=Q a5;change H _ at ce;clear c6 c7 cf a4 cg a5 c' da u0 u1 d2;cases dW with
   |false=>
    have u:=aG.oo;simp only[gL,if_false]at u;have d3:=v.size;have a5:=dc.oo;clear y z G P R ad;go_upto_region 10 with(rw[ce])
    clear a2 c9;go_wp2_with (at_builtin;refine hP J _ _ J aN o n ((h.map (eo c b d e f a g)).take JL) 4294967296 J J a5 bu d3 ?_);intro d4 d5 Iq ch w;rw[<-u,<-a0]at Iq;have Ir:=v.trans w;clear ch w a5 u;exact wD
   |true=>
    have u:=aG.oo;simp only[if_true]at u;have df:=Q (λ(i:W) (m:B aN aN i)=>cI i (S c3 c4 c5) ca (bs.trans ((v.trans (m.mono v.size)).mono aV)) (db.1.bw m) (cx.of cY));have dg:=Q (λ(i:W) (m:B aN aN i)=>cI i (S cP cQ cR) j (bs.trans ((v.trans (m.mono v.size)).mono aV)) (db.2.bw m) (cx.of bz));obtain⟨ep,dh⟩:=K (cl b ca);obtain⟨eq,di⟩:=K (cl b j);rw[<-dh]at df u;rw[<-di]at dg u;have dj:=u.symm;change H _ at dj;clear dh di u;go_upto_region 11 with(rw[ce])
    refine bv [100,101,103,104,202,205,6,7,8] ?_;iterate 4 refine mS ?_
    refine aU λd6 cj=>?_;go_simp;refine mU (df _ (an _)) λd5 w=>?_;have bC:=q (an aN) w;refine cj _ _ (.mk bC) ?_;refine aU λd6 cj=>?_;go_simp;refine mU (dg _ bC) λd7 dk=>?_;have bD:=q bC dk;refine cj _ _ (.mk bD) ?_;clear y z G P R ad a2 c9;refine mS ?_;try simp only[dJ]
    iterate 2 refine mS ?_
    refine bc ?_;try rw[dj]
    have dl:=dc.bw bD;have ck:=v.trans (bD.mono v.size);have d8:=ck.size;clear w dk bC bD;go_wp2_with (at_builtin;refine hP J _ _ J d7 o n ((h.map (eo c b d e f a g)).take JL) dV J J dl bu d8 ?_);intro d4 er Iq ch w;rw[<-a0]at Iq;have Ir:=ck.trans w;clear ch w dl ck;exact wD
 have d9:JL=aO:=O
 subst d9;have dn:(h.map (eo c b d e f a g)).take JL=h.map (eo c b d e f a g):=cm oW;rw[dn]at aX;have p:=U (aX.mono (B':=k) aV) (bs.oo.trans (aF.mono aV));change H _ at p;clear dn aX aF;go_wp2;go_ret;have cn:=p.oo;rw[ai]at cn;exact⟨_,J,cn.1,cn.2⟩
def kj(a:aV):Prop:=(dq a (L a)).length<=100000000000
def um(a:W)(c f1 d e f g h i:V):∃b,a.alloc (az #[c,f1,d,e,f,g,h,i] 135)=b/\B a a b/\b.heap.size=(a:N)+1/\ax b a [c,f1,d,e,f,g,h,i]:=⟨_,J,aN _ _,D,ax.new a _ _⟩
def jr(a:aV)(b:I)(c:I):ad:=nl (dL c (dq a (L a))) (dm b 0 64).toNat
def Rt(b:ag)(a:N):(nl b a).length=a:=by unfold nl;rw[y9];simp
def zy(a:aV)(b c:I):(jr a b c).length<=64:=by unfold jr;rw[Rt];unfold dm;omega
def zz(f s t u:I)(v w g:V)(h:aV)(a:I)(b:W)(M:∃c d k,v=S c d k)(O:∃c d k,w=S c d k)(l:bq b g h)(P:kj h):ap ab 69 #[ao #[f,s,t,u,v,w,g,(a:I)]] b (l1 b (jr h f a)):=by
 obtain⟨R,X,Y,rfl⟩:=M;obtain⟨ad,ae,ag,rfl⟩:=O;have⟨x,y,z,ah,i⟩:=um b f s t u (S R X Y) (S ad ae ag) g (a:I);have ai:=Q (λm ak=>tb g h a m (l.bw ak) P);have al:=Q (λm am ar hp=>y' am ar f m hp);obtain⟨aE,aF,aG,rfl,_,_,_⟩:=l.open;have av:=i 0 _ J;have ax:=i 6 _ J;have ay:=i 7 _ J;have e:=Q z;change H _ at y;clear z;clear ah i l;go_in;go_upto_region 1 with fail;rw[y];go_upto_region 1 with fail;refine bv [0,2,5,6,101,103,107,204,208,9] ?_;iterate 7 refine mS ?_
 refine aU λaA n=>?_;go_simp;refine mF (ai _ (e.trans ((an x).mono e.size))) λaC aI aJ aK ⟨D,G⟩=>?_;have j:=q (an x) G;refine n _ _ (.mk j) ?_;refine aU λaA n=>?_;go_simp;refine mE (al aC _ _ D.di) λaL aD ⟨o,K⟩=>?_;obtain⟨aN,aO,aP,rfl⟩:∃c d a,aD=S c d a:=gM o;have p:=q j K;refine n _ _ (.mk p) ?_;clear av ax ay;have r:=U (o.mono (B':=(b:N)) (bi e.oo.size j.size)) (e.trans (p.mono e.size));change H _ at r;clear o p j G K D;refine mS ?_;refine bc ?_;go_wp2;go_ret;exact⟨_,J,r.1,r.2⟩
def rN(b:a0)(c:aV)(d:I)(a:N):I:=aB ((aQ b a).hd*kf (cS (aQ b a).st (aQ b a).rt (aQ b a).sz (jr c d a)).2)
def f4(a:a0)(c:aV)(d:I):N->I
 |0=>0
 |b+1=>if(aQ a b).kd=2 then aB (f4 a c d b+rN a c d b)else f4 a c d b
def np(a:a0):Prop:=∀b,b<L a->(aQ a b).kd=2->0<=(aQ a b).st/\(aQ a b).st<=2147483648/\0<=(aQ a b).rt/\(aQ a b).rt<=2147483648
def zA(c ag ah ai:I)(v w x:V)(b:a0)(d:aV)(i:W)(al:bG i v b)(ca:L b<=1000000)(bb:np b)(be:∃g f a,w=S g f a)(ar:bq i x d)(cc:kj d):ap ab 43 #[ao #[c,ag,ah,ai,v,w],ao #[x]] i (fW i (f4 b d c (L b))):=by
 have⟨cd,bf,bg,bh,bi⟩:=bR i c ag ah ai v w;have⟨y,bk,av,ce,n⟩:=ec cd x;rw[bh]at n;have z:=q bg av;have bl:=al.bw z;have cf:=Q (λr j ax=>zz c ag ah ai v w x d j r (by obtain⟨g,k,ay,_⟩:=al;exact⟨g,_,k,ay⟩) be (ar.bw ax) cc);have bm:=λj=>zy d c j;obtain⟨cz,cA,cB,rfl⟩:=be;obtain⟨cC,f,cD,rfl,aA,_,bn⟩:=bl.open;obtain⟨cE,cF,cG,rfl,_,_,_⟩:=ar.open;have cH:f<=1000000:=O
 have bo:(i:N)<=y:=z.size;have br:=Q (bi.bw av);have h:H (∀a,f4 b d c (a+1)=if(aQ b a).kd=2 then aB (f4 b d c a+rN b d c a)else f4 b d c a):=Q λ_=>rfl;have bs:=Q n;have bt:=Q z;change H _ at bf bk aA bn;clear z;change H _ at bb bm;clear bg av bh ce bi al bl ar ca;go_in;go_upto_region 1 with(fail)
 rw[bf.oo,bk.oo];have⟨D,G,M,P,R,U⟩:=br.oo;have⟨cI,bu⟩:=K ((i:N)+1);rw[<-bu]at bs⊢;clear n bu;go_wp2_with fail;clear D G M P R U;go_loopw [5,6,7,8,9,13] (λcg g bx k ch j wr=>∃(a:N) (bz bA bB bC:V),bz=g/\bA=bx/\bB=k/\bC=ch/\j=(a:I)/\a<=f/\cg=(f4 b d c a)/\B y y wr) (λ_ _ _ _ _ j _=>f-(aw j).toNat);exact⟨0,_,_,_,_,J,J,J,J,J,a3 _,J,aS _ _⟩;obtain⟨a,bz,bA,bB,bC,rfl,rfl,rfl,rfl,rfl,cJ,rfl,o⟩:=hrel;obtain⟨aC,rfl⟩:=K wr;have ci:(y:N)<=aC:=o.size;by_cases Ch:a<f
 ·obtain⟨bx,cK,cj,rfl,_,t⟩:=bn.oo a Ch;have t:=t.bw o;have e:=h.oo a;have ad:=bb.oo a (by rw[aA.oo];exact Ch);have l:rN b d c a=aB ((aQ b a).hd*kf (cS (aQ b a).st (aQ b a).rt (aQ b a).sz (jr d c a)).2):=J;have⟨ck,bD⟩:=K (aQ b a);rw[<-bD]at t e ad l;obtain⟨⟨aD,aE,aF,rfl⟩,_⟩:(∃g f k,cj=S g f k)/\True:=⟨by have⟨g,k,ay,_⟩:=t.ft;exact⟨g,_,k,ay⟩,trivial⟩
  obtain⟨p,aG,cL,aI,aL,aN,aO,aP⟩:=ck;obtain⟨bE,bF,bH,bI,bJ,bK,bL,bM,_⟩:=t;try simp only at bE bF bH bI bJ bK bL bM e ad l
  have cM:=aJ a;have cN:(a:I)<f:=O
  have⟨bN,bO,bP,cl,bS⟩:=da aC p aG (S aD aE aF) aI aL aN aO aP;have aR:=o.trans (bP.mono ci);have u:=Q aR;have bT:=Q (bt.oo.trans (aR.mono bo));have⟨cO,bU⟩:=K (f4 b d c a);rw[<-bU]at e⊢;have⟨cP,bV⟩:=K (rN b d c a);rw[<-bV]at e l;have aT:=Q bS;have h:=Q e;change H _ at bO l ad;clear e;clear cl bP aR o bS bD bU bV;go_upto_region 5 with fail;rw[bO.oo];have⟨cQ,bW⟩:=K (aC:N);rw[<-bW]at aT⊢;clear bE bF bH bI bJ bK bL bM bW;have⟨aW,aX,aY,a1,a2,a4,a5,a6⟩:=aT.oo;have⟨D,G,M,P,R,U⟩:=br.oo.bw u.oo;have n:=s u.oo bs.oo;by_cases m:p=2
  ·have cm:(p==2)=T:=by simpa using m
   have e:=h.oo;rw[am m]at e;have⟨bX,cn,bZ,co⟩:=ad.oo m;have b0:=Q (λr cp cq=>t5 p aG (S aD aE aF) aI aL aN aO aP cp (jr d c a) r cq ⟨bX,O,bZ,O,Y (bm.oo a)⟩);have⟨cR,b2⟩:=K (jr d c a);have b3:=Q (λ(r:W) ax=>cf.oo r a ax);have a8:=l.oo;rw[<-b2]at b0 b3 a8;have h:=Q e;have l:=Q a8;clear e a8;clear m b2 bX cn bZ co;go_upto_region 6 with fail;refine bv [3,100,101,102,4,205,206,7,8,9,10,11] ?_;iterate 5 refine mS ?_
   refine aU λcr a9=>?_;go_simp;refine mE (b3.oo _ (bT.oo.trans ((an bN).mono bT.oo.size))) λcs ct ⟨b5,b6⟩=>?_;have ba:=q (an bN) b6;refine a9.oo _ _ (.mk ba) ?_;refine aU λcr a9=>?_;go_simp;refine mE (b0.oo cs ct b5.ints) λcu cv ⟨b7,b8⟩=>?_;have ae:=q ba b8;refine a9.oo _ _ (.mk ae) ?_;clear D G M P R U n aW aX aY a1 a2 a4 a5 a6;have cw:=Q (uc p aG (S aD aE aF) aI aL aN aO aP cv _ cu b7.ints);have⟨aW,aX,aY,a1,a2,a4,a5,a6⟩:=aT.oo.bw ae;change H _ at ae;clear b5 ba b6 b7 b8;iterate 5 refine mS ?_
   refine bc ?_;go_wp2_with fail;refine mU cw.oo λcT b9=>?_;have b':=u.oo.trans ((q ae.oo b9).mono u.oo.size);change H _ at b';clear aW aX aY a1 a2 a4 a5 a6 b9;try rw[<-l.oo]
   go_wp2;go_roundw;case rel=>exact⟨a+1,_,_,_,_,J,J,J,J,aK,O,by rw[h.oo],b'.oo⟩
   exact bY
  have cm:(p==2)=F:=X m
  have e:=h.oo;rw[ak m]at e;have h:=Q e;clear e;clear m D G M P R U n;go_wp2;go_roundw;case rel=>exact⟨a+1,_,_,_,_,J,J,J,J,aK,O,by rw[h.oo],u.oo⟩
  exact bY
 have cx:a=f:=O
 subst cx;have cy:=bt.oo.trans (o.mono bo);clear o;go_wp2;go_ret;rw[aA.oo];exact⟨J,cy⟩
def ht(a:a0)(c:ai)(b:aV)(d:I):I:=(b.map (cl c)).foldl (λe f=>aB (e+f)) (f4 a b d (L a))
def zB(g o p r:I)(k l m:V)(d:a0)(h:ai)(c:aV)(i:W)(t:bG i k d)(a2:L d<=1000000)(a4:np d)(u:bt i l h)(v:bq i m c)(a5:kj c)(a6:eE c):ap ab 42 #[ao #[g,o,p,r,k,l],ao #[m]] i (fW i (ht d h c g)):=by
 have⟨a8,ag,ah,ak,al⟩:=bR i g o p r k l;have⟨a9,am,D,ba,n⟩:=ec a8 m;rw[ak]at n;have w:=q ah D;have an:=Q (zA g o p r k l m d c a9 (t.bw w) a2 a4 (by have⟨b,ar,G,M,_⟩:=u.open;exact⟨b,ar,G,M⟩) (v.bw w) a5);have av:=Q (λbb ax=>yV g o p r k l m h c bb (by obtain⟨b,G,M,_⟩:=t;exact⟨b,_,G,M⟩) (u.bw ax) (v.bw ax) a6);obtain⟨bn,bo,br,rfl,_,_,_⟩:=u.open;obtain⟨bs,ar,bu,rfl,_,_,_⟩:=t.open;obtain⟨bv,bx,bz,rfl,bA,bB,_⟩:=v.open;have ay:=al.bw D;have bc:=Q ay;have aA:=Q n;obtain⟨aC,aD,aE,aF,aG,aI⟩:=ay;have be:(c.map (cl h)).length<=1000000:=qp
 have x:ht d h c g=(c.map (cl h)).foldl (λb e=>aB (b+e)) (f4 d c g (L d)):=J;have⟨f,aN⟩:=K (c.map (cl h));have⟨y,aO⟩:=K (f4 d c g (L d));rw[<-aN]at av be x;rw[<-aO]at an x;have aP:=Q w;change H _ at ag am x;clear w;clear u t v ah D ak ba al aN aO;go_in;go_upto_region 1 with(fail)
 rw[ag,am];have⟨bC,P⟩:=K ((i:N)+1);rw[<-P]at aA⊢;rw[<-P]at n;clear P;go_wp2_with fail;refine mU an λbf z=>?_;have R:=aP.trans (z.mono aP.size);have⟨aC,aD,aE,aF,aG,aI⟩:=bc.bw z;have n:=s z aA;have bg:=Q (av.oo bf R);have aQ:=Q R;clear z R;go_wp2_with fail;refine mE bg λbh bD ⟨aR,aS⟩=>?_;obtain⟨bE,j,bF,rfl,aT,_,aU⟩:=aR.ints.open;have aW:=aQ.trans (aS.mono aQ.size);have bH:j<=1000000:=O
 have aX:∀a,a<j->(f.take (a+1)).foldl (λb e=>aB (b+e)) y=aB ((f.take a).foldl (λb e=>aB (b+e)) y+ae f a):=λa bi=>by rw[kE f a O,List.foldl_append];rfl
 change H _ at aU aT aW aX;clear aC aD aE aF aG aI n aR aS;go_wp2;go_loopw [5,7,15] (λbk b U wr=>∃(a:N) (aY:V),aY=b/\U=(a:I)/\a<=j/\bk=((f.take a).foldl (λb e=>aB (b+e)) y)/\wr=bh) (λ_ _ U _=>j-(aw U).toNat);exact⟨0,_,dk,dk,a3 _,dk,dk⟩;obtain⟨a,aY,rfl,rfl,bi,rfl,rfl⟩:=hrel;obtain⟨bI,rfl⟩:=K wr;by_cases Ch:a<j
 ·obtain⟨bJ,bK,rfl,bl⟩:=aU a Ch;have X:=aX a Ch;have⟨bL,Y⟩:=K ((f.take a).foldl (λb e=>aB (b+e)) y);have⟨bM,ad⟩:=K (ae f a);rw[<-Y,<-ad]at X;rw[<-ad]at bl;rw[<-Y];have bN:=aJ a;have bO:(a:I)<j:=by omega
  change H _ at X;clear Y ad;go_wp2;go_roundw;case rel=>exact⟨a+1,_,dk,aK,O,by first|(rw[X])|trivial,dk⟩
  exact bY
 have bm:a=j:=O
 subst bm;have a1:f.take a=f:=cm (by rw[aT];exact aL _);rw[a1,<-x];clear a1;go_wp2;go_ret;exact⟨J,aW⟩
end
def gB(a:W)(c:V):∃b,a.alloc (az #[c] 50)=b/\B a a b/\b.heap.size=(a:N)+1/\C b a=A c/\aH b a=F:=⟨_,J,aN _ _,D,aE,aE⟩
def zC(a:W)(f:aV)(g:bp)(b:W):Prop:=∃c d e,g=aq (ao #[S c d e])/\aI bq (λh=>h<(a:N)) b (S c d e) f/\B a a b
def hu(b:I)(c:aV):aV:=c.map λa=>fN b a (L a)
def Ru{e:Type}(c:ar->e)(a:aV)(b:N)(d:b<L a):(a.take (b+1)).map c=(a.take b).map c++[c (aC a b)]:=by
 have f:aC a b=a[b]:=by simp[aC,d]
 rw[eR d,ck,f];rfl
def Rv(y:V)(b:aV)(e:I)(c:W)(aD:bq c y b)(aE:eE b):ap ab 230 #[ao #[y],e] c (zC c (hu e b)):=by
 have⟨bH,aG,aI,aN,u⟩:=ec c y;have⟨k,aO,i,l,v,z⟩:=gB bH (S Z 0 0);have⟨G,aQ,m,aT,M,P⟩:=gB k (S Z 0 0);rw[aN]at v z l;rw[l]at M P aT;have aU:=q aI (q i m);have bI:=s (q i m) u;have aW:=s m v;have aX:=aY m (aR _ _ v) z;have R:bS 95 bb (·<(k:N)) G k (S Z 0 0) [] ((b.take 0).map λd=>fN e d (L d)) G:=bS.start (by rw[l];exact M) (by rw[l];exact P) (aS _ _);obtain⟨cg,n,ch,rfl,Da,bJ,a0⟩:=aD.open;have X:H ((k:N)=(c:N)+2):=Q O;have bK:=Q (λo=>cx.of (a1 (aE o).1 av));have a2:=Q aU;change H _ at aG aO aQ aW aX R Da a0;clear aU;clear aD aI i m aN l aT u v z M P aE;go_in;go_upto_region 1 with fail;rw[aG,aO];go_upto_region 2 with fail;rw[aQ];have⟨j,a4⟩:=K (k:N);rw[<-a4]at X R⊢;change H _ at a4;go_wp2_with fail;clear bI;go_loopw [7,8,9,13] (λbL Kk bM o wr=>∃(JN:N) (a5 a6 a8 ad:V) (ae:aP),a5=bL/\a6=Kk/\a8=bM/\o=(JN:I)/\JN<=n/\bS 95 bb (·<j) G j ad ae ((b.take JN).map λd=>fN e d (L d)) wr) (λ_ _ _ o _=>n-(aw o).toNat);exact⟨0,_,_,_,_,_,J,J,J,J,a3 _,R⟩;obtain⟨JN,a5,a6,a8,ad,ae,rfl,rfl,rfl,rfl,bN,a⟩:=hrel;obtain⟨p,rfl⟩:=K wr;have ag:B c c p:=a2.trans (a.bw.mono (Y X.oo));by_cases Ch:JN<n
 ·have⟨a9,ah⟩:=K ((b.take JN).map λd=>fN e d (L d));have ai:=Q (Ru (λd=>fN e d (L d)) b JN c1);have bO:H (L a9+1<=1000000000000):=Q (by rw[ah,de,dd];omega);rw[<-ah]at a ai;obtain⟨ci,cj,ba,bc,be,rfl,ak,hp⟩:=a0 JN Ch;have ak:=s ag ak;have hp:=hp.bw ag;have ck:=aJ JN;have cl:(JN:I)<n:=by omega
  obtain⟨f,g,h,rfl,bP,bR⟩:=a.form;have⟨bf,bg,w,bT,bh⟩:=c8 p (S ba bc be);have bi:=a.next w;have bl:=Q (Q4 (S ba bc be) (aC b JN) e bf (hp.bw w) (bK JN));have⟨cn,bm⟩:=K (fN e (aC b JN) (aC b JN).length);rw[<-bm]at bl ai;have bU:=Q a;have bV:=Q bi;have bW:H ((p:N)<=bf):=Q w.size;change H _ at bg;clear a bi ag hp w bT ah bm bP bR;go_upto_region 5 with fail;rw[bg];have⟨co,bn⟩:=K (p:N);rw[<-bn]at bh⊢;clear ak bn;go_wp2_with fail;refine mF bl λbX al am an ⟨bo,br⟩=>?_;have⟨bs,bt,ar,bZ,u0⟩:=c8 bX (S al am an);have⟨bu,ax,ay,b2,bv⟩:=c8 bs (S al am an);have x:=bV.next (q br ar);have t:=x.next ay;have bx:=(bU.BA bo (Y bW.oo)).bw (q ar ay);have b3:=Q (d2 bv);have u:=x.cell;have b4:=x.free;have b5:j+1<=(bu:N):=t.lt;have b6:=Q t.cell;have b7:=Q t.free;have bz:=t;have bA:=Q bz;replace ax:=Q ax;change H _ at bt bx;clear bz;clear bo br ar ay bZ b2 bv x t bh;go_upto_region 6 with fail;rw[bt];go_wp2_with (at_builtin;rw[ax];refine fr J _ _ 48 95 (ao #[S Z 0 0]) 1 24 underlying48 s3 J av av J bu (j+1) (S f g h) (L a9) ae [S al am an] bs J J b3 J eP bA.own bO b5 ?_);intro g2 cp bB bC bD i bE b8 b9;have It:=bA.push bx bC bD bE;rw[<-ai]at It;have cq:C bB j=A (S f g h):=bk i (fD _) b6;have cr:aH bB j=F:=ex i (fD _) b7;change H _ at It;clear bC bD i bE b8 b9 u b4 u0;exact wF
 have b':JN=n:=O
 subst b';obtain⟨f,g,h,rfl,ca,cc⟩:=a.form;have bF:b.take JN=b:=cm ly;rw[bF]at a;have cd:=X.oo;have ce:=bk a.bw O aW;have cs:=ex a.bw O aX;have aA:=U ((a.Wk (by rw[de,Da.oo];exact bJ)).set ⟨(c:N)+1,0,Z⟩ (S f g h) (G':=λJN=>JN<(c:N)) aF (λJN bN=>O)) ((a2.trans (a.bw.mono O)).setCell (p:=⟨(c:N)+1,0,Z⟩) D (S f g h));have bG:(p.setCell ⟨(c:Nat)+1,0,none⟩ (.slice f g h)).cell? ⟨(c:Nat)+1,0,none⟩=some (.slice f g h):=World.cell?_setCell_same' _ _ _ (by rw[ce];rfl);have cv:=a.cell;change H _ at aA bG;clear a ca cc cd bF;go_wp2_with fail;have cf:=bG.oo;exact b0 (v:=ao #[S f g h]) (by simp[results,results230,go_sem,cf]) J ⟨_,_,_,J,aA.1,aA.2⟩
section
attribute [local go_sem] Oper.semAt_some
def Rx(a:aV)(b:N)(c:b<L a):a.take (b+1)=a.take b++[aC a b]:=by
 have d:aC a b=a[b]:=by simp[aC,c]
 rw[eR c,d]
def f5(c:N)(d:W)(e:V)(f:aP)(a:aV):Prop:=d.ownsRow c 95 1 e (L a) f/\∀b,b<L a->aI bb (λg=>g<c\/af e=A g) d (f.getD b undef) (aC a b)
def Ry(a:W)(f:aV)(g:bp)(b:W):Prop:=∃c d e h,g=aq (ao #[S c d e])/\f5 a b (S c d e) h f/\B a a b
def f5.len{b:aP}{c:aV}(d:f5 a w u b c):L b=L c:=by have:=d.1.1;rw[Nat.mul_one]at this;exact this
def f5.bw{Kx:W}{b:aP}{c:aV}(d:f5 a w u b c)(f:B w w Kx):f5 a Kx u b c:=⟨c3 d.1 (M.bw (I':=λ_=>False) f) I2,λi j=>(d.2 i j).bw f⟩
def f5.cell{g:aP}{h:aV}(i:f5 a w (S (A b) c d) g h)(r:e<L h):C w ⟨b,e,Z⟩=A (g.getD e undef):=by have⟨s,j,m⟩:=hb i.1 e (g.getD e undef) (by have:=i.len;simp[List.getD,show e<L g by omega]);simp only[af,a2]at j;subst j;exact m
def f5.days{f:aP}{b:aV}(c:f5 a w u f b)(h:L b<=1000000):bq w u b:=by rcases bW c.1 with⟨rfl,i⟩|⟨j,k,rfl,_,_,n,_⟩;rw[dn.1 i];exact m2 w;exact⟨_,k,J,h,λl e=>⟨j,0,_,J,by rw[bX];exact c.cell e,(c.2 l e).now⟩⟩
def f5.off{g:aP}{c:aV}(b:f5 a w u g c)(k:L c<=1000000):aI bq (λd=>d<a) w u c:=by rcases bW b.1 with⟨rfl,l⟩|⟨p,q,rfl,_,_,r,_⟩;rw[dn.1 l];exact λm _ _=>m2 m;refine w4 (b.days k) O λn s e f=>?_;rw[b.cell e]at f;cases f;exact(b.2 n e).mono λd o=>.inl o
def f5.put{k:aP}{i:aV}{n:ar}(h:f5 a w (S (A b) c d) k i)(H:e<L i)(D:aI bb (λo=>o<a\/o=b) w u n):f5 a (aj w ⟨b,e,Z⟩ u) (S (A b) c d) (k.set e u) (i.set e n):=by
 have K:=bI h.1 b J;refine⟨?_,λg r=>?_⟩;rw[b'];have G:c=L i:=vw
 subst G;exact yl h.1 e u;rw[b']at r;by_cases f:g=e;subst f;have s:(k.set g u).getD g undef=u:=by have:=h.len;simp[List.getD,show g<L k by omega]
 have t:aC (i.set g n) g=n:=by simp[aC,r]
 rw[s,t];exact(D.set _ _ (.inr J) (λo p=>p)).mono λo p=>by rcases p with f|f;exact .inl f;simp only[af,a2]at f;exact .inr f.symm
 have s:(k.set e u).getD g undef=k.getD g undef:=by simp[List.getD,List.getElem?_set_ne (λh=>f h.symm)]
 have t:aC (i.set e n) g=aC i g:=by simp[aC,List.getElem?_set_ne (λh=>f h.symm)]
 rw[s,t];exact(h.2 g r).set _ _ (.inr J) (λo p=>p)
def un(bg:V)(e:aV)(c:W)(b3:bq c bg e)(b5:eE e):ap ab 134 #[ao #[bg]] c (Ry c e):=by
 obtain⟨cY,b6,b7,b8,aG⟩:=ec c bg;obtain⟨ag,b9,o,ai,aN,bh⟩:=gB cY (S Z 0 0);obtain⟨bl,b',ak,ca,v,w⟩:=gB ag (S Z 0 0);rw[b8]at aN bh ai;rw[ai]at v w ca;have cc:=q b7 (q o ak);have cZ:=s (q o ak) aG;have cd:=s ak aN;have ce:=aY ak (aR _ _ aN) bh;have bm:bS 95 bb (·<(ag:N)) bl ag (S Z 0 0) [] (e.take 0) bl:=bS.start (by rw[ai];exact v) (by rw[ai];exact w) (aS _ _);obtain⟨dI,al,dJ,rfl,Da,dK,cf⟩:=b3.open;have bo:H ((ag:N)=(c:N)+2):=Q O;have c0:=Q (λf=>cx.of (a1 (b5 f).1 av));have cg:=Q cc;change H _ at b6 b9 b' cd ce bm Da cf;clear cc;clear b3 b7 o ak b8 ai ca aG aN bh v w b5;go_in;go_upto_region 1 with fail;rw[b6,b9];go_upto_region 2 with fail;rw[b'];obtain⟨x,ch⟩:=K (ag:N);rw[<-ch]at bo bm⊢;change H _ at ch;go_wp2_with fail;clear cZ;go_loopw [5,6,8,12] (λc2 Kk br f wr=>∃(JN:N) (ci cj aO bs:V) (aQ:aP),ci=c2/\cj=Kk/\aO=br/\f=(JN:I)/\JN<=al/\bS 95 bb (·<x) bl x bs aQ (e.take JN) wr) (λ_ _ _ f _=>al-(aw f).toNat);exact⟨0,_,_,_,_,_,J,J,J,J,a3 _,bm⟩;obtain⟨JN,ci,cj,aO,bs,aQ,rfl,rfl,rfl,rfl,dL,a⟩:=hrel;obtain⟨g,rfl⟩:=K wr;have bt:B c c g:=cg.trans (a.bw.mono (Y bo.oo));by_cases Ch:JN<al
 ·obtain⟨ck,bu⟩:=K (e.take JN);have bx:=Q (Rx e JN c1);have c4:H (L ck+1<=1000000000000):=Q (by rw[bu,dd];omega);rw[<-bu]at a bx;obtain⟨dM,dN,c5,y,c6,rfl,p,hp⟩:=cf JN Ch;have p:=s bt p;have hp:=hp.bw bt;have c7:=aJ JN;have c9:(JN:I)<al:=by omega
  obtain⟨h,i,j,rfl,c',da⟩:=a.form;obtain⟨am,cl,bz,cn,aT⟩:=c8 g (S c5 y c6);obtain⟨aX,co,a0,cp,v,w⟩:=cP am (S Z 0 0);have bA:=Q (λ(cq:W) (db:B (am:N) aX cq)=>(((q bz a0).trans (db.mono O)):B (g:N) g cq));obtain⟨k,cr⟩:=K (aC e JN);have cs:=Q (c0.oo JN);rw[<-cr]at hp bx cs;obtain⟨_,dO,_,ct,a2,dc,cu⟩:=hp.open;simp only[bf]at ct;obtain⟨rfl,rfl,rfl⟩:=ct;have bB:bS 98 ba (·<(am:N)) aX am (S Z 0 0) [] (k.take 0) aX:=bS.start v w (aS _ _);have cv:=Q a;have dP:=Q (U bz a0);have de:=Q (U cn cp);have cw:=s a0 aT;change H _ at cl co a2 cu bB;clear a bt hp bz a0 cn cp bu cr c' da v w aT;go_upto_region 6 with fail;rw[cl,co];obtain⟨l,bC⟩:=K (am:N);rw[<-bC]at bB bA;have bD:(g:N)+1=l:=Y de.1
  have df:=Q (U bC bD);try rw[bD]
  clear bC bD p;obtain⟨dQ,cy⟩:=K (g:N);rw[<-cy]at cw⊢;change H _ at cy;go_wp2_with fail;change H _ at cw;go_loopw [8,19] (λbr f wr=>∃(b:N) (aO cz:V) (bE:aP),aO=br/\f=b/\b<=y/\bS 98 ba (·<l) aX l cz bE (k.take b) wr) (λ_ f _=>y-(aw f).toNat);exact⟨0,_,_,_,J,J,a3 _,bB⟩;obtain⟨b,dR,cz,bE,rfl,rfl,dS,d⟩:=hrel;obtain⟨t,rfl⟩:=K wr;by_cases Gp:b<y
  ·obtain⟨cA,bF⟩:=K (k.take b);have bG:=Q (tQ k b (by rw[a2];exact Gp));have dg:H (L cA+1<=1000000000000):=Q (by rw[bF,dd];omega);rw[<-bF]at d bG;obtain⟨dT,dU,cB,cC,cD,rfl,p,a4⟩:=cu b Gp;have z:=bA t d.bw;have p:=s z p;have a4:=a4.bw z;have cE:=cs b;have c7:=aJ b;have c9:(b:I)<y:=by omega
   obtain⟨G,P,R,rfl,bH,bJ⟩:=d.form;obtain⟨m,cF,a5,dh,cG⟩:=d0 t (S cB cC cD);have bK:=d.next a5;have dV:=Q d;have bL:=Q bK;have cH:=Q (λ(di:W) (dj:B m m di)=>(a4.bw a5).bw dj);have bM:=bK.cell;have cI:=Q cE;have dW:H ((t:N)<=m):=Q a5.size;obtain⟨dk,cJ⟩:=K (ah k b);rw[<-cJ]at cH cI bG;change H _ at cF;clear d bK z a4 cE a5 dh bF bH bJ bM cJ;go_upto_region 9 with fail;rw[cF];clear p;have a6:=bL.cell;have dl:=cG;change H _ at cG;refine bv [0,2,101,103,204,5,206,307,8,309] ?_;iterate 4 refine mS ?_
   refine aU λcK ar=>?_;refine xE (.const (S Z 0 0)) (.tmp 26) 96 89 _ underlying96 fv J J m.drew m (S Z 0 0) [] dk (S cB cC cD) J J (cH _ (an _)) (aW.nil _ _ _) (by have:=cI.oo;simp;omega) (aL _) ?_;intro cL cM cN ad bN dm ae;rw[List.nil_append]at bN;have bO:B m m ad:=q (an m) ae;refine ar _ _ (.mk bO) ?_;refine mS ?_;obtain⟨ax,cO,bP,dn,cQ⟩:=d0 ad (S cL cM cN);have bR:=q bO bP;have n:=bL.next bR;have a8:=Q ((bL.qd bN (aL _)).bw bP);have bT:=Q (d2 cQ);have dp:H (l+1<=(ax:N)):=Q n.lt;refine aU λcK ar=>?_;go_simp;try rw[cO]
   refine ar _ _ (.mk bR) ?_;clear a6 dl;refine b4 λcK ar=>?_;refine iy (.tmp 24) (.tmp 29) 93 98 _ 1 24 underlying93 lI J av av J ax (l+1) (S G P R) (L cA) bE [S cL cM cN] ad J J bT J eP n.own dg dp ?_;intro dX dq dY ay a9 aA bU;have It:=n.push a8 ay a9 aA;rw[<-bG]at It;have bV:A l≠(S G P R).ownBlock:=λu=>Y ((bI n.own l u.symm).1)
   have aT:=a9.cell n.cell bV;have dr:=eS a9 n.lt bV n.free;change H _ at It;refine ar _ _ ?_;clear ay a9 aA bU n cO bP dn cQ bO bR ae dm bN bV;iterate 2 refine mS ?_
   refine bc ?_;clear aT dr;go_wp2;go_roundw;case rel=>exact⟨b+1,_,_,_,J,aK,O,It⟩
   simp only[aw];exact qw
  have ds:b=y:=O
  subst ds;have aD:k.take b=k:=cm (by rw[a2];exact aL _);rw[aD]at d;obtain⟨G,P,R,rfl,bH,bJ⟩:=d.form;have z:=bA t d.bw;have be:=cv.next z;have cR:aI bb (λbW=>bW<l) t (S G P R) k:=(d.qc (bi a2.oo dc)).mono λbW bX=>iv bX;have bM:=d.cell;obtain⟨ad,bZ,ae,dt,a6⟩:=c8 t (S G P R);have aE:=be.next ae;have a8:=(cv.BA cR (Y df.2)).bw ae;have bT:=Q (d2 a6);have aG:=be.cell;have du:=be.free;have dv:x+1<=(ad:N):=aE.lt;have dw:=Q aE.cell;have dx:=Q aE.free;have cS:=aE;have cT:=Q cS;replace bZ:=Q bZ;change H _ at a8;clear cS;clear d bH bJ z be cR ae dt a6 aE aD;go_wp2_with (at_builtin;rw[bZ];refine fr J _ _ 48 95 (ao #[S Z 0 0]) 1 24 underlying48 s3 J av av J ad (x+1) (S h i j) (L ck) aQ [S G P R] t J J bT J eP cT.own c4 dv ?_);intro g2 dq ax ay cU o aA dy bU;have It:=cT.push a8 ay cU aA;rw[<-bx]at It;have d1:C ax x=A (S h i j):=bk o (fD _) dw;have d3:aH ax x=F:=ex o (fD _) dx;change H _ at It;clear ay cU o aA dy bU aG du bM;exact wF
 have dz:JN=al:=O
 subst dz;obtain⟨h,i,j,rfl,dA,dB⟩:=a.form;have aD:e.take JN=e:=cm ly;rw[aD]at a;have dC:=bo.oo;have dD:=bk a.bw O cd;have d4:=ex a.bw O ce;have cV:M (λJN=>JN=(c:Nat)+1) g (g.setCell ⟨(c:Nat)+1,0,none⟩ (.slice h i j)):=M.grown (bn _ _ _) (λJN u=>X u.symm);have cW:f5 (c:N) (aj g ⟨(c:N)+1,0,Z⟩ (S h i j)) (S h i j) aQ e:=
  ⟨o5 (c3 a.own cV (λdE dF u=>Y ((bI a.own dE dF).1))) O,λf dG=>(a.row f dG).set _ _ (.inl aF) (λbW bX=>by rcases bX with u|u;exact .inl O;exact .inr (.inr u))⟩
 have b2:=U cW ((cg.oo.trans (a.bw.mono O)).setCell (p:=⟨(c:N)+1,0,Z⟩) D (S h i j));have cX:(g.setCell ⟨(c:Nat)+1,0,none⟩ (.slice h i j)).cell? ⟨(c:Nat)+1,0,none⟩=some (.slice h i j):=World.cell?_setCell_same' _ _ _ (by rw[dD];rfl);have d6:=a.cell;change H _ at b2 cX;clear a dA dB dC aD cV cW;go_wp2_with fail;have dH:=cX.oo;exact b0 (v:=ao #[S h i j]) (by simp[results,results134,go_sem,dH]) J ⟨_,_,_,_,J,b2.1,b2.2⟩
def uo(c:V)(a:aV)(b:W)(d:bq b c a)(e:eE a):ap ab 134 #[ao #[c]] b (zC b a):=by refine(un c a b d e).mono ?_;rintro k l ⟨f,g,h,m,rfl,i,j⟩;have⟨_,n,_,_,o,p,_⟩:=d.open;exact⟨f,g,h,J,i.off O,j⟩
end
section
def b3(ab6:ad)(a:I):I:=if 0<=a/\a<(L ab6:I)then ae ab6 a.toNat else 0
structure eH(b c a ru d:I):Prop where
 fJ:0<=c
 jm:c<=2147483648
 k9:1<=a
 gC:a<=2147483648
 jk:0<=b
 jl:b<=a
 ru:ru=1\/ru=2
 tF:0<=d
 th:d<=1024
def tS(ab0 ab1 ab2:I)(ab3:N):N->I
 |0=>ab0
 |a+1=>(if ab3.testBit a=T then ab1 else tS ab0 ab1 ab2 ab3 a)-ab2
def qS(ab0 ab1 ab2:I)(ab3 a:N):I:=if ab3.testBit a=T then ab1-tS ab0 ab1 ab2 ab3 a else 0
def js(ab0 ab1 ab2:I)(ab3 ab8:N):ad:=(List.range ab8).map (qS ab0 ab1 ab2 ab3)
def ce(ab3:N):N->I
 |0=> -1
 |a+1=>if ab3.testBit a=T then(a:I)else ce ab3 a
def jt(ab0 ab1 ab2 ab7:I)(ab3 a:N):Prop:=1<=ab1-tS ab0 ab1 ab2 ab3 a/\ab1-tS ab0 ab1 ab2 ab3 a<=ab7
def rO(ab0 ab1 ab2 ab7:I)(ab3 ab8:N):Prop:=∀a,a<ab8->(ab3.testBit a=T->jt ab0 ab1 ab2 ab7 ab3 a)/\0<=tS ab0 ab1 ab2 ab3 (a+1)
section
variable{ab0 ab1 ab2:I}{ab3 ab4:N}
def zD{a:N}(b:ab3.testBit a=T):tS ab0 ab1 ab2 ab3 (a+1)=ab1-ab2:=by rw[tS,am b]
def Rz{a:N}(b:ab3.testBit a=F):tS ab0 ab1 ab2 ab3 (a+1)=tS ab0 ab1 ab2 ab3 a-ab2:=by rw[tS,ak (by simp[b])]
def RA(b:ab0<=ab1)(c:0<=ab2)(a:N):tS ab0 ab1 ab2 ab3 a<=ab1:=by
 induction a with
  |zero=>exact b
  |succ a d=>rw[tS];split<;>omega
def RB(b:0<=ab0)(d:0<=ab1)(c:0<=ab2)(a:N): -(ab2*a)<=tS ab0 ab1 ab2 ab3 a:=by
 induction a with
  |zero=>simp[tS];exact b
  |succ a e=>
   have f:ab2*((a+1:N):I)=ab2*a+ab2:=by rw[Int.natCast_succ,Int.mul_add,Int.mul_one]
   have:=Int.mul_nonneg c (bh ((0:I)<=a));rw[tS];split<;>omega
def zE(a:N)(c:∀b,b<a->ab3.testBit b=ab4.testBit b):tS ab0 ab1 ab2 ab3 a=tS ab0 ab1 ab2 ab4 a:=by
 induction a with
  |zero=>rfl
  |succ a d=>rw[tS,tS,c a O,d (λb e=>c b O)]
def k'(ab3 a:N): -1<=ce ab3 a/\ce ab3 a<a:=by
 induction a with
  |zero=>simp[ce]
  |succ a b=>rw[ce];split<;>omega
def ox(ab3 a:N)(b:0<=ce ab3 a):ab3.testBit (ce ab3 a).toNat=T:=by
 induction a with
  |zero=>simp[ce]at b
  |succ a d=>rw[ce]at b⊢;split;rename_i c;simpa using c;rename_i c;rw[ak c]at b;exact d b
def pT(ab3 a b:N)(c:ce ab3 a<b)(g:b<a):ab3.testBit b=F:=by
 induction a with
  |zero=>omega
  |succ a d=>rw[ce]at c;split at c;omega;rename_i e;by_cases f:b=a;subst f;simpa using e;exact d c O
def zF(ab3 a b:N)(d:ab3.testBit b=T)(f:b<a)(g:∀c,b<c->c<a->ab3.testBit c=F):ce ab3 a=b:=by have j:=k' ab3 a;by_cases h:ce ab3 a<(b:I);have:=pT ab3 a b h f;rw[this]at d;simp at d;by_cases i:ce ab3 a=(b:I);exact i;have e:=ox ab3 a O;have:=g (ce ab3 a).toNat O O;rw[this]at e;simp at e
def zG(ab3 a:N)(d:∀b,b<a->ab3.testBit b=F):ce ab3 a= -1:=by have f:=k' ab3 a;by_cases e:0<=ce ab3 a;have c:=ox ab3 a e;rw[d _ O]at c;simp at c;omega
def zH(a:N)(c:∀b,b<a->ab3.testBit b=ab4.testBit b):ce ab3 a=ce ab4 a:=by
 induction a with
  |zero=>rfl
  |succ a d=>rw[ce,ce,c a O,d (λb e=>c b O)]
def RC(a:N)(b:I)(c:b<a):cI ab0 ab1 ab2 (a+1) b=cI ab0 ab1 ab2 a b-ab2:=by unfold cI;split;rw[show(((a+1:N):I)-b)=((a:I)-b)+1 by omega,Int.mul_add,Int.mul_one];omega;rw[Int.natCast_succ,Int.mul_add,Int.mul_one];omega
def RD(a:N):cI ab0 ab1 ab2 (a+1) (a:I)=ab1-ab2:=by unfold cI;rw[am O,show(((a+1:N):I)-(a:I))=1 by omega,Int.mul_one]
def pU(a:N):tS ab0 ab1 ab2 ab3 a=cI ab0 ab1 ab2 a (ce ab3 a):=by
 induction a with
  |zero=>simp[tS,ce,cI]
  |succ a c=>
   cases b:ab3.testBit a with
    |true=>rw[zD b,ce,am b,RD]
    |false=>rw[Rz b,ce,ak (by simp[b]),RC a _ (k' ab3 a).2,c]
def zJ(d:0<=ab2)(a:I)(b c:N)(e:b<=c):cI ab0 ab1 ab2 c a<=cI ab0 ab1 ab2 b a:=by unfold cI;split;have:=Int.mul_le_mul_of_nonneg_left (bh ((b:I)-a<=(c:I)-a)) d;omega;have:=Int.mul_le_mul_of_nonneg_left (bh ((b:I)<=c)) d;omega
end
def iO(a ab2:I):N->I
 |0=>0
 |b+1=>iO a ab2 b+(a-ab2*((b:I)+1))
def fO(ab0 ab1 ab2 ab5:I)(a:N)(b:I):I:=ab5*(if 0<=b then iO ab1 ab2 (a-b.toNat)else iO ab0 ab2 a)
def iP(ab0 ab1 ab2 ab5:I)(ab6:ad)(ab3:N):N->I
 |0=>0
 |a+1=>iP ab0 ab1 ab2 ab5 ab6 ab3 a+(if ab3.testBit a=T then b3 ab6 a else 0)+ab5*tS ab0 ab1 ab2 ab3 (a+1)
def pV(ab0 ab1 ab2 ab5:I)(ab6:ad)(ab3:N)(a:I):I:=if 0<=a then iP ab0 ab1 ab2 ab5 ab6 ab3 a.toNat+b3 ab6 a else 0
section
variable{ab0 ab1 ab2 ab5:I}{ab6:ad}{ab3 ab4:N}
def RE(b:N)(a:I)(c:a<b)(d: -1<=a):fO ab0 ab1 ab2 ab5 (b+1) a=fO ab0 ab1 ab2 ab5 b a+ab5*cI ab0 ab1 ab2 (b+1) a:=by unfold fO cI;split;rename_i e;rw[show b+1-a.toNat=(b-a.toNat)+1 by omega,iO,Int.mul_add,show(((b-a.toNat:N):I)+1)=((b+1:N):I)-a by omega];rw[iO,Int.mul_add,Int.natCast_succ]
def RF(a:N):fO ab0 ab1 ab2 ab5 (a+1) (a:I)=ab5*(ab1-ab2):=by unfold fO;rw[am O,show a+1-((a:I)).toNat=1 by omega];simp[iO]
def zK(a:N):iP ab0 ab1 ab2 ab5 ab6 ab3 a=pV ab0 ab1 ab2 ab5 ab6 ab3 (ce ab3 a)+fO ab0 ab1 ab2 ab5 a (ce ab3 a):=by
 induction a with
  |zero=>simp[iP,pV,ce,fO,iO]
  |succ a d=>
   cases b:ab3.testBit a with
    |true=>rw[iP,am b,ce,am b,RF,zD b];unfold pV;rw[am O,cW]
    |false=>
     have c:=k' ab3 a;rw[iP,ak (by simp[b]),ce,ak (by simp[b]),RE a _ c.2 c.1,d];have e:tS ab0 ab1 ab2 ab3 (a+1)=cI ab0 ab1 ab2 (a+1) (ce ab3 a):=by rw[pU,ce,ak (by simp[b])]
     rw[e];omega
def RG(a:N)(c:∀b,b<a->ab3.testBit b=ab4.testBit b):iP ab0 ab1 ab2 ab5 ab6 ab3 a=iP ab0 ab1 ab2 ab5 ab6 ab4 a:=by
 induction a with
  |zero=>rfl
  |succ a d=>rw[iP,iP,c a O,d (λb e=>c b O),zE (a+1) c]
end
def RH(ab1 a ab7:I):dt ab1 1 a ab7=0↔¬(1<=ab1-a/\ab1-a<=ab7):=by unfold dt;split;omega;split;omega;simp;omega
def rP(b d:Option a4):Option a4:=
 match d with
  |none=>b
  |some a=>match b with
   |none=>A a
   |some c=>if a.1<c.1 then A a else A c
def eI(ab0 ab1 ab2 ab5 ab7:I)(ab6:ad)(ab8:N)(c:N->Option a4)(b:N)(a:I):Option a4:=if 0<=a/\c a.toNat=Z then Z else if cI ab0 ab1 ab2 b a<0\/(b<ab8/\dt ab1 1 (cI ab0 ab1 ab2 b a) ab7=0)then Z else A (fO ab0 ab1 ab2 ab5 b a+(if 0<=a then((c a.toNat).getD (0,0)).1 else 0)+(if b<ab8 then b3 ab6 b else 0),a)
def d9(ab0 ab1 ab2 ab5 ab7:I)(ab6:ad)(ab8:N)(a:N->Option a4)(b:N):N->Option a4
 |0=>Z
 |c+1=>rP (d9 ab0 ab1 ab2 ab5 ab7 ab6 ab8 a b c) (eI ab0 ab1 ab2 ab5 ab7 ab6 ab8 a b ((c:I)-1))
def la(ab0 ab1 ab2 ab5 ab7:I)(ab6:ad)(ab8:N):N->E (Option a4)
 |0=>[]
 |a+1=>la ab0 ab1 ab2 ab5 ab7 ab6 ab8 a++[d9 ab0 ab1 ab2 ab5 ab7 ab6 ab8 (λb=>(la ab0 ab1 ab2 ab5 ab7 ab6 ab8 a).getD b Z) a (a+1)]
def ct(ab0 ab1 ab2 ab5 ab7:I)(ab6:ad)(ab8 a:N):Option a4:=(la ab0 ab1 ab2 ab5 ab7 ab6 ab8 (a+1)).getD a Z
section
variable{ab0 ab1 ab2 ab5 ab7:I}{ab6:ad}{ab8:N}
def up(a:N):(la ab0 ab1 ab2 ab5 ab7 ab6 ab8 a).length=a:=by
 induction a with
  |zero=>rfl
  |succ a b=>rw[la,bL,b];rfl
def RI(b a:N)(e:b<a):(la ab0 ab1 ab2 ab5 ab7 ab6 ab8 a).getD b Z=ct ab0 ab1 ab2 ab5 ab7 ab6 ab8 b:=by
 induction a with
  |zero=>omega
  |succ a c=>by_cases d:b=a;subst d;rfl;rw[<-c O,la,fU,jO (by rw[up];omega),fU]
def RJ{d e:N->Option a4}(b:N)(a:I)(h:a<b)(f:∀c,c<b->d c=e c):eI ab0 ab1 ab2 ab5 ab7 ab6 ab8 d b a=eI ab0 ab1 ab2 ab5 ab7 ab6 ab8 e b a:=by unfold eI;by_cases g:0<=a;rw[f a.toNat O];simp[g]
def RK{d e:N->Option a4}(a b:N)(h:b<=a+1)(f:∀c,c<a->d c=e c):d9 ab0 ab1 ab2 ab5 ab7 ab6 ab8 d a b=d9 ab0 ab1 ab2 ab5 ab7 ab6 ab8 e a b:=by
 induction b with
  |zero=>rfl
  |succ b g=>rw[d9,d9,g O,RJ a _ O f]
def uq(a:N):ct ab0 ab1 ab2 ab5 ab7 ab6 ab8 a=d9 ab0 ab1 ab2 ab5 ab7 ab6 ab8 (ct ab0 ab1 ab2 ab5 ab7 ab6 ab8) a (a+1):=by
 have c:ct ab0 ab1 ab2 ab5 ab7 ab6 ab8 a=d9 ab0 ab1 ab2 ab5 ab7 ab6 ab8 (λb=>(la ab0 ab1 ab2 ab5 ab7 ab6 ab8 a).getD b Z) a (a+1):=by unfold ct;rw[la,fU,i1 (by rw[up];omega),up,Nat.sub_self];rfl
 rw[c];exact RK a (a+1) O (λb d=>RI b a d)
def zL{d:N->Option a4}{e:N}{i:a4}{b:N}(a:d9 ab0 ab1 ab2 ab5 ab7 ab6 ab8 d e b=A i):∃c,c<b/\eI ab0 ab1 ab2 ab5 ab7 ab6 ab8 d e ((c:I)-1)=A i:=by
 induction b with
  |zero=>simp[d9]at a
  |succ b j=>
   rw[d9]at a;cases f:eI ab0 ab1 ab2 ab5 ab7 ab6 ab8 d e ((b:I)-1)with
    |none=>rw[f]at a;have⟨c,k,g⟩:=j a;exact⟨c,O,g⟩
    |some l=>
     rw[f]at a;cases h:d9 ab0 ab1 ab2 ab5 ab7 ab6 ab8 d e b with
      |none=>rw[h]at a;exact⟨b,O,by rw[f];exact a⟩
      |some m=>rw[h]at a;unfold rP at a;simp only[]at a;split at a;exact⟨b,O,by rw[f];exact a⟩;have⟨c,k,g⟩:=j (by rw[h];exact a);exact⟨c,O,g⟩
def RL(av:0<=ab0)(ax:0<=ab1)(D:0<=ab2)(ay:ab8<=64):∀b,b<=ab8->∀p,ct ab0 ab1 ab2 ab5 ab7 ab6 ab8 b=A p->∃ab3,(∀a,b<=a->ab3.testBit a=F)/\rO ab0 ab1 ab2 ab7 ab3 b/\(b<ab8->jt ab0 ab1 ab2 ab7 ab3 b)/\iP ab0 ab1 ab2 ab5 ab6 ab3 b+(if b<ab8 then b3 ab6 b else 0)=p.1/\ce ab3 b=p.2/\∀a,ab3.testBit a=T->∃v,ct ab0 ab1 ab2 ab5 ab7 ab6 ab8 a=A (v,ce ab3 a):=by
 intro b;induction b using Nat.strongRecOn with
  |_ b X=>
   intro aA p G;rw[uq]at G;have⟨d,H,g⟩:=zL G;unfold eI at g;split at g;simp at g;rename_i M;split at g;simp at g;rename_i P;simp only[a2]at g;have q:0<=cI ab0 ab1 ab2 b ((d:I)-1):=by rcases Int.lt_or_le (cI ab0 ab1 ab2 b ((d:I)-1)) 0 with e|e;exact absurd (Or.inl e) P;exact e
   have r:b<ab8->1<=ab1-cI ab0 ab1 ab2 b ((d:I)-1)/\ab1-cI ab0 ab1 ab2 b ((d:I)-1)<=ab7:=by intro k;by_cases w:dt ab1 1 (cI ab0 ab1 ab2 b ((d:I)-1)) ab7=0;exact absurd (Or.inr ⟨k,w⟩) P;rw[RH]at w;exact Classical.not_not.1 w
   cases d with
    |zero=>
     have s:∀a,(0:N).testBit a=F:=λa=>Nat.zero_testBit a;have h:∀a,ce 0 a= -1:=λa=>zG 0 a (λd _=>s d);have x:(((0:N):I)-1)= -1:=J;rw[x]at q r g;have Q:∀a,tS ab0 ab1 ab2 0 a=cI ab0 ab1 ab2 a (-1):=λa=>by rw[pU,h]
     refine⟨0,λa _=>s a,λa f=>⟨λe=>by rw[s]at e;simp at e,?_⟩,λk=>?_,?_,?_,λa e=>by rw[s]at e;simp at e⟩;rw[Q];exact Int.le_trans q (zJ D (-1) (a+1) b O);unfold jt;rw[Q];exact r k;rw[zK,h,<-g];unfold pV;rw[ak (show¬(0:I)<=-1 by decide)];simp only[];generalize(if b<ab8 then b3 ab6 (b:I)else 0)=Y;omega;rw[h,<-g]
    |succ c=>
     have x:(((c+1:N):I)-1)=(c:I):=O
     rw[x]at q r g M;have t:c<b:=O
     obtain⟨i,l⟩:∃i,ct ab0 ab1 ab2 ab5 ab7 ab6 ab8 c=A i:=by
      cases l:ct ab0 ab1 ab2 ab5 ab7 ab6 ab8 c with
       |none=>exact absurd ⟨O,by rw[cW];exact l⟩ M
       |some i=>exact⟨i,J⟩
     have⟨m,ad,R,ae,ag,ah,ai⟩:=X c t O i l;rw[am (by omega:c<ab8)]at ag;have⟨ab3,al⟩:=K (eC m (c:I));have y:∀a,ab3.testBit a=(m.testBit a||decide (c=a)):=λa=>by rw[al];exact pq m c a O
     have j:∀a,a<c->ab3.testBit a=m.testBit a:=λa f=>by rw[y,c9 O,Bool.or_false]
     have u:∀a,c<a->ab3.testBit a=F:=λa f=>by rw[y,ad a O,c9 O];rfl
     have h:∀a,c<a->ce ab3 a=c:=λa f=>zF ab3 a c (by rw[y];simp) f (λd an _=>u d an);have z:∀a,a<=c->tS ab0 ab1 ab2 ab3 a=tS ab0 ab1 ab2 m a:=λa f=>zE a (λd H=>j d O);have U:∀a,c<a->tS ab0 ab1 ab2 ab3 a=cI ab0 ab1 ab2 a (c:I):=λa f=>by rw[pU,h a f]
     refine⟨ab3,λa f=>u a O,λa f=>?_,λk=>?_,?_,?_,λa f=>?_⟩;by_cases n:a<c;refine⟨λe=>?_,?_⟩;unfold jt;rw[z a O];exact(R a n).1 (by rw[<-j a n];exact e);rw[z (a+1) O];exact(R a n).2;refine⟨λe=>?_,?_⟩;have:a=c:=by rcases Nat.lt_or_ge c a with o|o;rw[u a o]at e;simp at e;omega
     subst this;unfold jt;rw[z a (aL _)];exact ae O;rw[U (a+1) O];exact Int.le_trans q (zJ D _ (a+1) b O);unfold jt;rw[U b t];exact r k;rw[zK,h b t,<-g];unfold pV;rw[am (bh ((0:I)<=c)),cW,l,RG c j];simp only[Option.getD_some];generalize(if b<ab8 then b3 ab6 (b:I)else 0)=Y;omega;rw[h b t,<-g];by_cases n:a<c;have⟨v,ar⟩:=ai a (by rw[<-j a n];exact f);exact⟨v,by rw[ar,zH a (λd H=>j d O)]⟩;have:a=c:=by rcases Nat.lt_or_ge c a with o|o;rw[u a o]at f;simp at f;omega
     subst this;exact⟨i.1,by rw[l,zH a j,ah]⟩
end
end
def tY(a b c JN:N)(t:JN<c):(JN:I)∈a8 a b c↔b<=JN/\a.testBit JN=T:=by
 exact v4
def yF(a b c:N):(a8 a b c).Pairwise (·<·):=vu
def tZ(b c a:N):∀KB∈a8 b c a,0<=KB/\KB<a:=vt
def RM(b c:I):bB (f2 b c)=T:=by unfold f2;by_cases a:bB (b+c)=T;rw[am a];exact a;rw[ak a];split<;>decide
def pW(a:ad)(b c:I):I:=if c<(L a:I)then f2 b (ae a c.toNat)else b
def lb(a:ad)(b c:N):I:=((a8 b 0 64).take c).foldl (pW a) 0
def oy(a:ad)(b:N):I:=lb a b 64
def RN(c:ad)(b a:N)(d:a<(a8 b 0 64).length):lb c b (a+1)=pW c (lb c b a) (ae (a8 b 0 64) a):=by unfold lb;rw[kE _ a d,List.foldl_append];rfl
def RO(b:ad)(a c:N)(d:(a8 a 0 64).length<=c):lb b a c=oy b a:=by unfold oy lb;rw[cm d,cm (lD _ _ _)]
def RP(d:ad)(e f:N):bB (lb d e f)=T:=by
 unfold lb;have:∀(a:ad) (b:I),bB b=T->bB (a.foldl (pW d) b)=T:=by
  intro a;induction a with
   |nil=>intro b c;exact c
   |cons h a g=>intro b c;rw[List.foldl_cons];apply g;unfold pW;split;exact RM _ _;exact c
 exact this _ _ av
def gD(b:ad)(c:br):N->a4
 |0=>(-1,0)
 |a+1=>if(gD b c a).1<0\/oy b (b6 c a)<(gD b c a).2 then((a:I),oy b (b6 c a))else gD b c a
def RQ(c:ad)(d:br)(a:N): -1<=(gD c d a).1/\(gD c d a).1<a\/a=0:=by
 induction a with
  |zero=>right;rfl
  |succ a b=>left;unfold gD;split;simp;omega;rcases b with b|b;omega;subst b;simp[gD]at*
def RR(al an:V)(a:br)(b:ad)(d:W)(ar:cA d al a)(av:∀l∈a,l<18446744073709551616)(hp:aX d an b)(ax:∀l∈b,bB l=T)(aV:L a<=1000):ap ab 219 #[al,an] d λaW aY=>aW=aq (aZ #[aa ac (gD b a (L a)).1,aa ac (gD b a (L a)).2])/\B d d aY:=by
 obtain⟨bm,s,bn,rfl,z,_,_,ay⟩:=ar.open;rw[z];obtain⟨a0,t,bo,rfl,P,_,aA⟩:=hp.open;have aC:∀JN,JN<t->∃c f,a0=A ⟨c,f,Z⟩/\c<(d:N)/\C d ⟨c,f+JN,Z⟩=A (aa ac (ae b JN)):=λJN D=>by have⟨c,f,R,u⟩:=aA JN D;exact⟨c,f,R,aR d _ u,u⟩
 rw[z]at aV;change H _ at aC ay z P ax av;clear hp ar aA;go_in;go_wp2;go_loopw [6,7,15] (λl a2 m wr=>∃(JN:N) (h i:I),JN<=s/\m=(JN:I)/\l=h/\a2=i/\(h,i)=gD b a JN/\B d d wr) (λ_ _ m _=>s-(aw m).toNat);exact⟨0,-1,0,a3 _,J,J,J,J,aS _ _⟩;obtain⟨JN,h,i,D,rfl,rfl,rfl,G,o⟩:=hrel;by_cases aD:JN<s
 ·obtain⟨c,f,rfl,a4,aE⟩:=ay JN aD;have a5:=bk o a4 aE;have M:gD b a (JN+1)=if h<0\/oy b (b6 a JN)<i then((JN:I),oy b (b6 a JN))else(h,i):=by rw[gD,<-G]
  have a6:=Q (av.oo _ (m0 (show JN<L a by rw[z];exact aD)));have bq:=aJ JN;have bs:(JN:I)<s:=O
  generalize b6 a JN=n at*;clear aE G;change H _ at M;go_wp2_with fail;refine mE (tJ n _ a6.out) λv bt ⟨aG,U⟩=>?_;obtain⟨a9,p,bu,rfl,w,_,aI⟩:=aG.ints.open;have aL:∀JN,JN<p->∃c f,a9=A ⟨c,f,Z⟩/\c<(v:N)/\C v ⟨c,f+JN,Z⟩=A (aa ac (ae (a8 n 0 64) JN)):=λJN D=>by have⟨c,f,R,u⟩:=aI JN D;exact⟨c,f,R,aR v _ u,u⟩
  have bv:p<=64:=by rw[<-w];exact lD _ _ _
  have aN:=Q (o.trans (U.mono o.size));have bw:(d:N)<=v:=a1 o.size U.size;change H _ at aL w;clear aI aG U o a5;go_wp2_with fail;have⟨bx,ba⟩:=K wr;subst ba;go_loopw [10,23] (λl m wr=>∃(JN:N) (j:I),JN<=p/\m=(JN:I)/\l=j/\j=lb b n JN/\wr=v) (λ_ m _=>p-(aw m).toNat);exact⟨0,0,a3 _,J,J,J,J⟩;obtain⟨JL,j,bz,rfl,rfl,x,rfl⟩:=hrel;by_cases Y:JL<p
  ·obtain⟨bA,bC,rfl,bD,bb⟩:=aL JL Y;have⟨aO,aP⟩:=tZ n 0 64 _ (hO (show JL<(a8 n 0 64).length by rw[w];exact Y));have g:=RN b n JL (by rw[w];exact Y);rw[<-x]at g;have aQ:bB j=T:=by rw[x];exact RP _ _ _
   have⟨k,aT⟩:=dw aO;rw[aT]at bb g aP;have bE:k<64:=O
   have bF:=aJ JL;have bG:(JL:I)<p:=O
   unfold pW at g;rw[P,cW]at g;change H _ at aQ;clear x aT aO aP;by_cases ag:k<t
   ·rw[am O]at g;obtain⟨bH,bI,rfl,bc,aU⟩:=aC k ag;have bJ:=bk aN bc aU;have be:=Q (ax.oo _ (hO (show k<L b by rw[P];exact ag)));have bK:=aJ k;have bf:(k:I)<t:=by omega
    have H8:=Q g;clear aU g;go_wp2_with fail;refine mR (Pk j _ _ aQ be.out) ?_;exact wt
   rw[ak O]at g;have bf:decide ((k:I)<t)=F:=aF
   have bL:decide (k<t)=F:=X ag
   have H8:=Q g;clear g;exact wt
  have ah:=RO b n JL (by rw[w];omega);rw[<-x]at ah;have ai:=Q ah;have Gh:=aN.oo;clear ah x;by_cases q:h<0
  ·have e:=M.oo;rw[am (.inl q),<-ai]at e;have bg:decide (h<0)=T:=by simpa using q
   have HL:=Q e;clear e q;exact sJ
  have bg:decide (h<0)=F:=X q
  by_cases y:j<i
  ·have e:=M.oo;rw[<-ai,am (.inr y)]at e;have bh:decide (j<i)=T:=by simpa using y
   have HL:=Q e;clear e q y;exact sJ
  have e:=M.oo;rw[<-ai,ak O]at e;have bh:decide (j<i)=F:=X y
  have HL:=Q e;clear e q y;exact sJ
 have bi:JN=s:=O
 subst bi;have bl:=Q G;clear G;go_wp2;go_ret2;rw[<-bl];exact⟨J,o⟩
section
instance(ab9 aca acb ace:I)(acf a:N):Decidable (jt ab9 aca acb ace acf a):=by unfold jt;infer_instance
instance(ab9 aca acb ace:I)(acf acg:N):Decidable (rO ab9 aca acb ace acf acg):=by unfold rO;infer_instance
def fk(a:ad)(b:ag):I:=(b.map λc=>b3 a c.1).sum
def hv(b ab9 acb aca acd:I)(c:ad)(a:ag)(acg:N):I:=fk c a+(if b=1 then 0 else acd*(cS ab9 acb aca (mg a acg)).2.sum)
def mj(a:I)(b:N):ag:=(a8 b 0 64).map λc=>(c,a)
section
variable{ab9 aca acb acc acd ace:I}{acf acg:N}
def rQ:(js ab9 aca acb acf acg).length=acg:=by simp[js]
def zM{a:N}(b:a<acg):ae (js ab9 aca acb acf acg) a=qS ab9 aca acb acf a:=jN _ _ _ b
def RT{a:N}(c:a<acg)(d:∀a,a<acg->acf.testBit a=T->jt ab9 aca acb ace acf a):0<qS ab9 aca acb acf a↔acf.testBit a=T:=by unfold qS;split;rename_i b;have:=(d a c b).1;simp[b];omega;rename_i b;simp[b]
def RU{a:N}(c:a<acg)(e:∀a,a<acg->acf.testBit a=T->jt ab9 aca acb ace acf a):c6 (js ab9 aca acb acf acg) (a+1)=if acf.testBit a=T then c6 (js ab9 aca acb acf acg) a++[((a:I),aca-tS ab9 aca acb acf a)]else c6 (js ab9 aca acb acf acg) a:=by rw[c6,zM c];have d:=RT c e;by_cases b:acf.testBit a=T;rw[am (d.2 b),am b,qS,am b];rw[ak (λf=>b (d.1 f)),ak b]
def RV(a:ad)(b c:ag):fk a (b++c)=fk a b+fk a c:=by simp[fk]
end
end
def rR(c:N)(g:a<b)(f:b<(a8 c 0 64).length):ae (a8 c 0 64) a<ae (a8 c 0 64) b:=by rw[e9 O,e9 f];exact List.pairwise_iff_getElem.1 (yF c 0 64) a b O f g
def rS(b:N)(e:a<(a8 b 0 64).length):b.testBit (ae (a8 b 0 64) a).toNat=T/\0<=ae (a8 b 0 64) a/\ae (a8 b 0 64) a<64:=by have d:=hO e;have⟨f,g⟩:=tZ b 0 64 _ d;refine⟨?_,f,g⟩;have:=(tY b 0 64 (ae (a8 b 0 64) a).toNat O).1 (by rw[show(((ae (a8 b 0 64) a).toNat:N):I)=ae (a8 b 0 64) a by omega];exact d);exact this.2
def zN(b:N)(f:a<64)(g:b.testBit a=T):∃c,c<(a8 b 0 64).length/\ae (a8 b 0 64) c=(a:I):=by have⟨c,e,h⟩:=List.mem_iff_getElem.1 ((tY b 0 64 a f).2 ⟨a3 _,g⟩);exact⟨c,e,by rw[e9 e];exact h⟩
def iQ(b a:N):I:=if a=0 then-1 else ae (a8 b 0 64) (a-1)
def RW(a:N):iQ a 0= -1:=J
def zO(a b:N):iQ a (b+1)=ae (a8 a 0 64) b:=by unfold iQ;rw[ak O,Nat.add_sub_cancel]
def ur(b:N)(j:a<(a8 b 0 64).length):ce b (ae (a8 b 0 64) a).toNat=iQ b a:=by
 have⟨m,n,o⟩:=rS b j;cases a with
  |zero=>
   rw[RW];apply zG;intro e p;cases h:b.testBit e with
    |false=>rfl
    |true=>have⟨d,i,k⟩:=zN b (bh (e<64)) h;rcases Nat.eq_zero_or_pos d with f|f;subst f;omega;have:=rR b f i;omega
  |succ a=>
   rw[zO];have⟨l,q,r⟩:=rS b (bh (a<(a8 b 0 64).length));have s:=rR b (bh (a<a+1)) j;have:=zF b (ae (a8 b 0 64) (a+1)).toNat (ae (a8 b 0 64) a).toNat l O (λe t u=>by
    cases h:b.testBit e with
     |false=>rfl
     |true=>
      have⟨d,i,k⟩:=zN b (bh (e<64)) h;exfalso;rcases Nat.lt_or_ge d (a+1)with f|f;rcases Nat.lt_or_ge d a with g|g;have:=rR b g O;omega;have:d=a:=O
      subst this;omega;rcases Nat.lt_or_ge (a+1) d with g|g;have:=rR b g i;omega;have:d=a+1:=O
      subst this;omega)
   rw[this];omega
def RX(b:N)(d:a<(a8 b 0 64).length): -1<=iQ b a/\iQ b a<ae (a8 b 0 64) a:=by rw[<-ur b d];have e:=k' b (ae (a8 b 0 64) a).toNat;have⟨_,f,_⟩:=rS b d;omega
def pX(d a e:I)(b:N):ag:=(a8 b 0 64).map λc=>(c,a-tS d a e b c.toNat)
def RY(c b a:N)(e:∀d,b<=d->c.testBit d=F):b<=a->a8 c 0 a=a8 c 0 b:=by
 intro h;induction a with
  |zero=>rw[show b=0 by omega]
  |succ a f=>by_cases g:b=a+1;rw[g];rw[qr c 0 a (e a O),f O]
def RZ(o:b<=64)(p:∀c,b<=c->a.testBit c=F)(q:∀c,c<b->a.testBit c=T->jt i j k l a c):g0 (js i j k a b)=pX i j k a:=by
 have r:∀c,c<=b->c6 (js i j k a b) c=(a8 a 0 c).map λm=>(m,j-tS i j k a m.toNat):=by
  intro c;induction c with
   |zero=>intro _;simp[c6,a8]
   |succ c s=>
    intro u;rw[RU O q,s O];cases n:a.testBit c with
     |true=>rw[sG a 0 c O n,ck,am J];simp
     |false=>rw[qr a 0 c n,ak D]
 unfold g0 pX;rw[rQ,r b (aL b),RY a b 64 p o]
def R0(e c f:I)(a b:N)(g:b<(a8 a 0 64).length):(((a8 a 0 64).take (b+1)).map λd=>(d,c-tS e c f a d.toNat))=(((a8 a 0 64).take b).map λd=>(d,c-tS e c f a d.toNat))++[(ae (a8 a 0 64) b,c-cI e c f (ae (a8 a 0 64) b).toNat (iQ a b))]:=by rw[kE _ b g,ck,<-ur a g,<-pU];rfl
def zP(a:W)(d:ag)(e:bp)(b:W):Prop:=∃c,e=aq c/\dv b a c d/\B a a b
def R1(c:I)(a:ad)(b:N)(e:b<L a):((a.take (b+1)).map λd=>(d,c))=((a.take b).map λd=>(d,c))++[(ae a b,c)]:=by rw[kE a b e,ck];rfl
def R2(n c:I)(o:V)(p q r t u:I)(b:N)(i:W)(x:b<18446744073709551616):ap ab 220 #[ao #[n,c,o,p,q,r,t,u],aa b1 b] i (zP i (mj c b)):=by
 have⟨ah,v,B5,ai,y⟩:=da i n c o p q r t u;have D:=y.c1;have CP:=B5.size;change H _ at v;go_in;go_upto_region 2 with(fail)
 rw[v];go_wp2_with fail;refine mE (tJ b _ x) λf ak ⟨j,k⟩=>?_;obtain⟨al,e,am,rfl,Da,_,w⟩:=j.ints.open;have an:e<=64:=by rw[<-Da];exact lD _ _ _
 have C':=Q k;have G:=s k D;have HW:=k.size;change H _ at w Da;go_wp2;go_loopw [5,11] (λK l wr=>∃(a:N) (g:V),a<=e/\g=K/\l=a/\dv wr f g (((a8 b 0 64).take a).map λd=>(d,c))/\B f f wr) (λ_ l _=>e-(aw l).toNat);exact⟨0,_,a3 _,J,J,dv.nil _ _,aS _ _⟩;obtain⟨a,g,ar,rfl,rfl,j,h⟩:=hrel;have CO:=Q j;have z:=Q h;have av:=s h G;have M:=h.size;by_cases Ch:a<e
 ·obtain⟨ax,ay,rfl,P⟩:=w a Ch;have aA:=s h P;have aC:=aJ a;have aD:(a:I)<e:=by omega
  have R:=Q (R1 c (a8 b 0 64) a c1);have U:H ((((a8 b 0 64).take a).map λd=>(d,c)).length+1<=8796093022208):=Q qk;generalize(((a8 b 0 64).take a).map λd=>(d,c))=X at*;generalize ae (a8 b 0 64) a=Y at*;go_wp2_with (at_builtin;refine t' J _ _ J wr f g X Y c J J CO U M ?_);intro aE aF m aG ad;rw[<-R]at m;have ag:=Q (z.oo.trans ad);change H _ at m;go_wp2;go_roundw;case rel=>exact⟨a+1,_,O,J,aK,m,ag⟩
  simp[aw];omega
 have Es:H ((((a8 b 0 64).take a).map λd=>(d,c))=mj c b):=Q (by unfold mj;rw[cm (by rw[Da];omega)]);exact wl
def zQ{Jd:ad}{Jy:I}(a:Jy<0\/(L Jd:I)<=Jy):b3 Jd Jy=0:=by unfold b3;rw[ak O]
def R3{Jd:ad}{Jy:N}(a:Jy<L Jd):b3 Jd (Jy:I)=ae Jd Jy:=by unfold b3;rw[am O,cW]
def us(g:V)(b:ad)(a:I)(e:W)(hp:aX e g b):ap ab 166 #[g,a] e λi j=>i=aq (b3 b a)/\e=j:=by
 obtain⟨n,c,o,rfl,p,_,k⟩:=hp.open;by_cases f:a<0
 ·have B6:=Q (zQ (Jd:=b) (.inl f));have l:decide (a<0)=T:=by simpa using f
  go_in;exact mQ
 have l:decide (a<0)=F:=X f
 by_cases h:(c:I)<=a
 ·have B6:=Q (zQ (Jd:=b) (Jy:=a) (.inr O));have m:decide ((c:I)<=a)=T:=by simpa using h
  go_in;exact mQ
 have m:decide ((c:I)<=a)=F:=X h
 obtain⟨d,rfl⟩:=dw (bh (0<=a));obtain⟨q,r,rfl,s⟩:=k d O;have B6:=Q (R3 (Jd:=b) (Jy:=d) O);have t:=aJ d;have u:(d:I)<c:=O
 have v:d<c:=O
 have w:decide (c<=d)=F:=aF
 go_in;exact mQ
def ju(a b:I)(c:N):ad:=(List.range c).map λ(d:N)=>a-b*((d:I)+1)
def zR(a b:I)(c:N):ju a b (c+1)=ju a b c++[a-b*((c:I)+1)]:=by unfold ju;rw[fu,ck];rfl
def ut(b c:I)(a:N):(ju b c a).length=a:=by simp[ju]
def zS(b c:I)(a:N):(ju b c a).sum=iO b c a:=by
 induction a with
  |zero=>rfl
  |succ a d=>rw[zR,List.sum_append,d,iO];simp
def pY(d:0<=i)(e:i<=2147483648)(f:a<=65):0<=i*(a:I)/\i*(a:I)<=139586437120:=by have g:=Int.mul_nonneg d (bh ((0:I)<=a));have h:i*(a:I)<=2147483648*65:=Int.mul_le_mul e O O O;omega
def zT(m:0<=i)(n:i<=2147483648)(e:0<=j)(f:j<=2147483648)(o:a<=64):∀b∈ju i j a,-200000000000<=b/\b<=200000000000:=by intro b h;obtain⟨k,l,rfl⟩:=List.mem_map.1 h;rw[List.mem_range]at l;have:=pY e f (bh (k+1<=65));rw[Int.natCast_succ]at this;omega
def R4{a:ad}(d:∀c∈a,-i<=c/\c<=i): -(i*L a)<=a.sum/\a.sum<=i*L a:=by
 induction a with
  |nil=>simp
  |cons c a e=>
   have j:=d c (fV ..);have k:=e (λf g=>d f (fs _ g));have h:i*((c::a).length:I)=i*(L a:I)+i:=by rw[dx,Int.natCast_succ,Int.mul_add,Int.mul_one]
   rw[h,d5];omega
def uu(c:0<=i)(h:i<=1024){b:ad}(d:∀e∈b,-200000000000<=e/\e<=200000000000)(j:L b<=64):aB (i*kf b)=i*b.sum/\-20000000000000000<=i*b.sum/\i*b.sum<=20000000000000000:=by
 have f:=Qw b 200000000000 d O av;have k:=R4 d;have l:i*b.sum<=1024*12800000000000:=by have g:i*b.sum<=i*12800000000000:=Int.mul_le_mul_of_nonneg_left O c;omega
 have m: -(1024*12800000000000)<=i*b.sum:=by have g:i*(-12800000000000)<=i*b.sum:=Int.mul_le_mul_of_nonneg_left O c;omega
 rw[f];exact⟨cV O O,O,O⟩
def R5(a:W)(b c:I)(d:bp)(e:W):Prop:=d=aq (aZ #[b,c])/\B a a e
def zU(m n:I)(o:V)(a g h k j c:I)(e:N)(p:W)(i:eH h a g k j)(bb: -1<=c)(bc:c<e)(ar:e<=64):ap ab 221 #[ao #[m,n,o,a,g,h,k,j],c,e] p (R5 p (cI h g a e c) (fO h g a j e c)):=by
 have⟨y,z,G,av,ax⟩:=da p m n o a g h k j;obtain⟨d,f,M,aA,aC,P,R,U⟩:∃(d:I) (f:N),f<=64/\0<=d/\d<=2147483648/\((c<0/\d=h/\f=e)\/(0<=c/\d=g/\(f:I)=e-c))/\cI h g a e c=d-a*f/\fO h g a j e c=j*iO d a f:=by have:=i.jk;have:=i.jl;have:=i.k9;have:=i.gC;by_cases aD:c<0;refine⟨h,e,ar,O,O,.inl ⟨aD,J,J⟩,?_,?_⟩;unfold cI;rw[ak O];unfold fO;rw[ak O];refine⟨g,e-c.toNat,O,O,O,.inr ⟨O,J,O⟩,?_,?_⟩;unfold cI;rw[am O,show((e-c.toNat:N):I)=(e:I)-c by omega];unfold fO;rw[am O]
 rw[R,U];have Y:=i.fJ;have ad:=i.jm;have ae:=Q (uu i.tF i.th (zT aA aC Y ad M) (by rw[ut];exact M));rw[zS]at ae;obtain⟨aE,aF,aG,aI,aJ,aL,aN,aO⟩:=ax;have aP:=G.size;change H _ at z P;clear av i R U;go_in;go_upto_region 1 with(fail)
 rw[z];go_upto_if 17 with fail;go_cut [8,9] (λaQ aR aT=>aQ=d/\aR=f/\y=aT);case first=>
  rcases P.oo with⟨r,rfl,rfl⟩|⟨r,rfl,be⟩
  ·have s:decide (c<0)=T:=by simpa using r
   rw[s];go_wp2;go_meet;exact⟨J,J,J⟩
  have s:decide (c<0)=F:=X r
  have ag:(e:I)-c=(f:I):=O
  change H _ at ag;rw[s];go_wp2;go_meet;exact⟨J,by rw[ag],J⟩
 obtain⟨rfl,rfl,rfl⟩:=hcut;obtain⟨q,rfl⟩:=K y;go_wp2;go_loopw [8,10,22] (λaU aV t wr=>∃(b:N) (l:V),b<=f/\l=aV/\t=b/\aU=(d-a*b:I)/\ay wr q l (ju d a b)/\B q q wr) (λ_ _ t _=>f-(aw t).toNat);exact⟨0,_,a3 _,J,J,D,ay.nil _ _,aS _ _⟩;obtain⟨b,l,bf,rfl,rfl,rfl,aW,u⟩:=hrel;have ah:=Q aW;have ai:=Q u;obtain⟨bg,bi,bk,bl,bm,bn,bo,bq⟩:bZ wr p m n o a g h k j:=bZ.bw ⟨aE,aF,aG,aI,aJ,aL,aN,aO⟩ u;have aX:=u.size;by_cases br:b<f
 ·have aY:=pY Y ad (bh (b<=65));have a0:a*((b+1:N):I)=a*b+a:=by rw[Int.natCast_succ,Int.mul_add,Int.mul_one]
  have al:=Q (zR d a b);have a1:H ((ju d a b).length+1<=17592186044416):=Q (by rw[ut];omega);have⟨a2,an⟩:=K (d-a*b);have⟨v,w⟩:=K (d-a*((b+1:N):I));have bs:aB (a2-a)=v:=by rw[cV O O];omega
  rw[show(d-a*((b:I)+1))=v by rw[w,Int.natCast_succ]]at al;rw[<-an];have bt:(b:I)<f:=O
  generalize ju d a b=a4 at*;change H _ at w;clear an aY a0;go_wp2_with (at_builtin;refine hP J _ _ J wr q l a4 v J J ah a1 aX ?_);intro bu bv x bx a5;rw[<-al]at x;have a6:=Q (ai.oo.trans a5);change H _ at x;go_wp2;go_roundw;case rel=>exact⟨b+1,_,O,J,aK,by rw[w],x,a6⟩
  simp[aw];omega
 have a8:b=f:=O
 subst a8;go_wp2_with fail;refine mU (uc m n o a g h k j l (ju d a b) wr ah.ints) λbz a9=>?_;have ba:=Q ((G.trans (ai.mono aP)).trans (a9.mono O));rw[ae.1];go_wp2;go_ret2;exact⟨J,ba⟩
def zV{g:I}(a:eH i k j l g)(e f:N)(h:f<=65): -139586437120<=tS i j k e f/\tS i j k e f<=2147483648:=by have n:=RB (ab0:=i) (ab1:=j) (ab2:=k) (ab3:=e) a.jk (Y a.k9) a.fJ f;have o:=RA (ab0:=i) (ab1:=j) (ab2:=k) (ab3:=e) a.jl a.fJ f;have p:=pY a.fJ a.jm h;have:=a.gC;omega
def R6(k l:I)(m:V)(d b e i g:I)(a:N)(j:W)(ak:eH e d b i g)(aN:a<18446744073709551616):ap ab 223 #[ao #[k,l,m,d,b,e,i,g],aa b1 a] j (zP j (pX e b d a)):=by
 have⟨al,am,B5,aO,aP⟩:=da j k l m d b e i g;have CP:(j:N)<=al:=B5.size;have t:=Q ak;change H _ at am;clear aO ak;obtain⟨G,M,P,R,U,X,Y,ad⟩:=aP;go_in;go_upto_region 3 with(fail)
 rw[am];go_wp2_with fail;refine mE (tJ a _ aN) λh a2 ⟨n,u⟩=>?_;obtain⟨a4,o,a5,rfl,Da,_,an⟩:=n.ints.open;have a6:o<=64:=by rw[<-Da];exact lD _ _ _
 have C':=Q u;have HW:(al:N)<=h:=u.size;obtain⟨G,M,P,R,U,X,Y,ad⟩:bZ h j k l m d b e i g:=bZ.bw ⟨G,M,P,R,U,X,Y,ad⟩ u;change H _ at an Da;clear n u;go_wp2;go_loopw [5,6,14] (λaQ aR ae wr=>∃(c:N) (v:V),c<=o/\v=aQ/\ae=c/\aR=(iQ a c)/\dv wr h v (((a8 a 0 64).take c).map λf=>(f,b-tS e b d a f.toNat))/\B h h wr) (λ_ _ ae _=>o-(aw ae).toNat);exact⟨0,_,a3 _,J,J,J,dv.nil _ _,aS _ _⟩;obtain⟨c,v,a9,rfl,rfl,rfl,n,w⟩:=hrel;have CO:=Q n;have z:=Q w;have aT:(h:N)<=wr.heap.size:=w.size;clear n;by_cases Ch:c<o
 ·obtain⟨ba,bb,rfl,ar⟩:=an c Ch;have aU:=s w ar;obtain⟨bc,be,bf,bg,aV,bh,bi,bk⟩:bZ wr j k l m d b e i g:=bZ.bw ⟨G,M,P,R,U,X,Y,ad⟩ w;have bl:=aJ c;have bm:(c:I)<o:=by omega
  have p:c<(a8 a 0 64).length:=c1
  have q:=R0 e b d a c p;have⟨_,av,aW⟩:=rS a p;have x:=RX a p;have y:=ur a p;have ag:=zO a c;have aX:H ((((a8 a 0 64).take c).map λf=>(f,b-tS e b d a f.toNat)).length+1<=8796093022208):=Q qk;generalize(((a8 a 0 64).take c).map λf=>(f,b-tS e b d a f.toNat))=aY at*;have⟨r,ax⟩:=dw av;rw[ax]at aU q x y ag aW;rw[cW]at q y;have ay:=zU k l m d b e i g (iQ a c) r wr t x.1 x.2 O;have aA:=zV t a r O;rw[pU,y]at aA;generalize fO e b d g r (iQ a c)=bn at*;generalize cI e b d r (iQ a c)=aC at*;have⟨aD,ah⟩:=K (b-aC);have bo:=t.gC;have bq:=t.k9;have br:aB (b-aC)=aD:=by rw[cV O O];exact ah.symm
  rw[<-ah]at q;have aE:=Q ay;have⟨bs,aF⟩:=K (iQ a c);rw[<-aF]at aE⊢;change H _ at q ag;clear ar x y ax av ah ay aA p aF;go_wp2_with fail;refine mU aE λaG D=>?_;have bt:=s D aV;have aI:=Q D;have bu:wr.heap.size<=(aG:N):=D.size;clear D;go_wp2_with (at_builtin;refine t' J _ _ J aG h v aY r aD J J (CO.bw aI) aX O ?_);intro bv bx ai a0 aL;rw[<-q]at ai;have a1:=Q ((z.trans (aI.mono aT)).trans aL);change H _ at ai;clear a0 aL;go_wp2;go_roundw;case rel=>exact⟨c+1,_,O,J,aK,by rw[ag],ai,a1⟩
  simp[aw];omega
 have Es:H ((((a8 a 0 64).take c).map λf=>(f,b-tS e b d a f.toNat))=pX e b d a):=Q (by unfold pX;rw[cm (by rw[Da];omega)]);exact wl
def zW{c:I}(b:eH i k j l c){f:I}(u: -1<=f)(v:f<a)(q:a<=64): -20000000000000000<=fO i j k c a f/\fO i j k c a f<=20000000000000000:=by
 have:=b.jk;have:=b.jl;have:=b.k9;have:=b.gC;have o:∀(d:I) (h:N),h<=64->0<=d->d<=2147483648->-20000000000000000<=c*iO d k h/\c*iO d k h<=20000000000000000:=λd h p r s=>by have:=uu b.tF b.th (zT r s b.fJ b.jm p) (by rw[ut];exact p);rw[zS]at this;exact this.2
 unfold fO;split;exact o j _ O O O;exact o i a q O O
def R7{o p:I}{f:ad}{d:I}{m:a4}(q:eH i k j l o)(u:∀b,0<=b3 f b/\b3 f b<=9007199254740992)(v: -1<=d)(w:d<b)(x:b<=64){g:N->Option a4}(y:0<=d->∀h,g d.toNat=A h->-(30000000000000000*(b:I))<=h.1/\h.1<=30000000000000000*(b:I))(e:eI i j k o p f a g b d=A m): -(30000000000000000*((b:I)+1))<=m.1/\m.1<=30000000000000000*((b:I)+1):=by
 have H:=zW q v w x;have K: -(30000000000000000*(b:I))<=(if 0<=d then((g d.toNat).getD (0,0)).1 else 0)/\(if 0<=d then((g d.toNat).getD (0,0)).1 else 0)<=30000000000000000*(b:I):=by
  split;rename_i z;cases D:g d.toNat with
   |none=>simp;omega
   |some h=>exact y z h D
  omega
 have M:0<=(if b<a then b3 f (b:I)else 0)/\(if b<a then b3 f (b:I)else 0)<=9007199254740992:=by split;exact u (b:I);omega
 unfold eI at e;split at e;simp at e;split at e;simp at e;simp only[a2]at e;rw[<-e];simp only[];generalize(if b<a then b3 f (b:I)else 0)=O at*;generalize(if 0<=d then((g d.toNat).getD (0,0)).1 else 0)=h at*;omega
def R8{e g:I}{d:ad}(h:eH i k j l e)(p:∀b,0<=b3 d b/\b3 d b<=9007199254740992):∀b,b<=64->∀c,ct i j k e g d a b=A c->-(30000000000000000*((b:I)+1))<=c.1/\c.1<=30000000000000000*((b:I)+1):=by
 intro b;induction b using Nat.strongRecOn with
  |_ b q=>intro r c f;rw[uq]at f;have⟨s,y,t⟩:=zL f;refine R7 h p O O r (λz u v=>?_) t;have:=q _ (bh (((s:I)-1).toNat<b)) O u v;omega
structure fP(b:W)(c:N)(d:N->Option a4):Prop where
 c0:∀a,a<65->C b ⟨c,a*3,Z⟩=A (au (d a).isSome)
 c1:∀a,a<65->C b ⟨c,a*3+1,Z⟩=A (aa ac ((d a).getD (0,0)).1)
 c2:∀a,a<65->C b ⟨c,a*3+2,Z⟩=A (aa ac ((d a).getD (0,0)).2)
 fr:∀e,aH b ⟨c,e,Z⟩=F
def fP.lt{c:N->Option a4}(d:fP w a c):a<w:=aR w _ (d.c0 0 av)
def fP.bw{Kx:W}{f:N->Option a4}(b:fP w a f)(e:B w w Kx):fP Kx a f:=⟨λc d=>s e (b.c0 c d),λc d=>s e (b.c1 c d),λc d=>s e (b.c2 c d),λi=>aY e b.lt (b.fr i)⟩
def fP.other{j:N->Option a4}(d:fP w a j)(g:bQ)(k:V)(l:a≠g.block):fP (aj w g k) a j:=by have h:∀i,(aj w g k).cell? ⟨a,i,Z⟩=C w ⟨a,i,Z⟩:=λi=>cq _ _ _ _ (λm=>by first|exact l (cz Addr.block m)|exact l (cz Addr.block m).symm);exact⟨λb c=>(h _).trans (d.c0 b c),λb c=>(h _).trans (d.c1 b c),λb c=>(h _).trans (d.c2 b c),λn=>(bs _ _ _ _).trans (d.fr n)⟩
def fP.congr{f g:N->Option a4}(d:fP w a f)(e:∀b,b<65->f b=g b):fP w a g:=⟨λb c=>by rw[<-e b c];exact d.c0 b c,λb c=>by rw[<-e b c];exact d.c1 b c,λb c=>by rw[<-e b c];exact d.c2 b c,d.fr⟩
def dQ(h:C w ⟨a,c,Z⟩=A v)(f:b≠c):(aj w ⟨a,b,Z⟩ u).cell? ⟨a,c,Z⟩=A v:=(cq _ _ _ _ (λg=>by first|exact f (cz Addr.off g)|exact f (cz Addr.off g).symm)).trans h
def fP.set{i:N->Option a4}(e:fP w a i)(b:N)(h:b<65)(j k:I):fP (((aj w ⟨a,b*3,Z⟩ (au T)).setCell ⟨a,b*3+1,Z⟩ j).setCell ⟨a,b*3+2,Z⟩ k) a (λc=>if c=b then A (j,k)else i c):=by have m:=e.c0 b h;have f1:=e.c1 b h;have n:=e.c2 b h;refine⟨λc f=>?_,λc f=>?_,λc f=>?_,λo=>?_⟩;by_cases d:c=b;subst d;rw[am J];exact dQ (dQ (World.cell?_setCell_same _ _ _ m) O) O;rw[ak d];exact dQ (dQ (dQ (e.c0 c f) O) O) O;by_cases d:c=b;subst d;rw[am J];exact dQ (World.cell?_setCell_same _ _ _ (dQ f1 O)) O;rw[ak d];exact dQ (dQ (dQ (e.c1 c f) O) O) O;by_cases d:c=b;subst d;rw[am J];exact World.cell?_setCell_same _ _ _ (dQ (dQ n O) O);rw[ak d];exact dQ (dQ (dQ (e.c2 c f) O) O) O;rw[bs,bs,bs];exact e.fr o
def R9(u0 u1 u2:V)(a b c:N)(f:b<a)(h:c<3):((List.range a).flatMap λ_=>[u0,u1,u2])[b*3+c]? =[u0,u1,u2][c]? :=by
 induction a with
  |zero=>omega
  |succ a d=>
   have e:((List.range a).flatMap λ_=>[u0,u1,u2]).length=3*a:=by
    clear d f;induction a with
     |zero=>rfl
     |succ a d=>rw[fu,List.flatMap_append,bL,d];simp;omega
   rw[fu,List.flatMap_append];by_cases g:b<a;rw[jO (by rw[e];omega)];exact d g;have:b=a:=O
   subst this;rw[i1 (by rw[e];omega),e,show b*3+c-3*b=c by omega];rfl
def R':zeroCells284.toList=(List.range 65).flatMap λ_=>[au F,(0:I),(0:I)]:=aT
def fP.new(d:W)(f:bj):fP (d.alloc (az zeroCells284 f)) d (λ_=>Z):=by
 have e:∀a c,a<65->c<3->(d.alloc (az zeroCells284 f)).cell? ⟨d,a*3+c,Z⟩=[au F,(0:I),(0:I)][c]? :=λa c b g=>by rw[World.cell?_alloc_new,<-Array.getElem?_toList,R',R9 _ _ _ 65 a c b g]
 exact⟨λa b=>e a 0 b av,λa b=>e a 1 b av,λa b=>e a 2 b av,λc=>aE⟩
def nQ(a:i=j):aq i=aq j:=by rw[a]
def uv(j k:I)(l:V)(m a n d o b c:I)(g:W)(w:0<=a)(x:a<=4294967296)(y:0<=b)(z:b<=9007199254740992):ap ab 222 #[ao #[j,k,l,m,a,n,d,o],b,c] g λp q=>p=aq (dt a d b c)/\B g g q:=by
 have⟨D,R,B5,G,r⟩:=da g j k l m a n d o;obtain⟨K,M,P,U,Y,ad,ae,ag⟩:=r;change H _ at R;by_cases h:a-b<1
 ·have DP:H (dt a d b c=0):=Q (by unfold dt;rw[am (.inl h)]);have s:decide (a-b<1)=T:=by simpa using h
  exact o2
 have s:decide (a-b<1)=F:=X h
 by_cases i:c<0
 ·have DP:H (dt a d b c=0):=Q (by unfold dt;rw[am (.inr i)]);have t:decide (c<0)=T:=by simpa using i
  exact o2
 have t:decide (c<0)=F:=X i
 by_cases e:a-b<=c
 ·have DP:H (dt a d b c=a-b):=Q (by unfold dt;rw[ak O,am e]);have u:decide (a-b<=c)=T:=by simpa using e
  exact o2
 have u:decide (a-b<=c)=F:=X e
 by_cases f:d=1
 ·have DP:H (dt a d b c=0):=Q (by unfold dt;rw[ak O,ak e,am f]);have v:(d==1)=T:=by simpa using f
  clear h i e f;exact o2
 have DP:H (dt a d b c=c):=Q (by unfold dt;rw[ak O,ak e,ak f]);have v:(d==1)=F:=X f
 exact o2
def g5(a:W)(b:N)(c:I):Prop:=C a b=A (aa ac c)
def g5.bw{Kx:W}(c:g5 w a i)(f:B w w Kx):g5 Kx a i:=s f c
def cY(a b c d e:I)(f:ad)(g h j i:N):Option a4:=if i<h then ct a b c d e f g i else if i=h then d9 a b c d e f g (ct a b c d e f g) h j else Z
def kk(b c d e f:I)(g:ad)(h i a:N):Option a4:=if a<i then ct b c d e f g h a else Z
def Sa(a b c d e:I)(f:ad)(g h i:N):kk a b c d e f g h i=cY a b c d e f g h 0 i:=by unfold kk cY;split;rfl;split<;>rfl
def Sb(c d e f g:I)(h:ad)(i a b:N):cY c d e f g h i a (a+1) b=kk c d e f g h i (a+1) b:=by unfold kk cY;by_cases j:b<a;rw[am j,am O];rw[ak j];by_cases k:b=a;subst k;rw[am J,am O,<-uq];rw[ak k,ak O]
def zX{d:I}{e:ad}(r:eI i j k l d e a (ct i j k l d e a) b ((c:I)-1)=Z)(q:N):cY i j k l d e a b c q=cY i j k l d e a b (c+1) q:=by unfold cY;rw[d9,r];rfl
def Sc{d:I}{e:ad}{q:a4}(v:eI i j k l d e a (ct i j k l d e a) b ((c:I)-1)=A q)(w:∀s,d9 i j k l d e a (ct i j k l d e a) b c=A s->q.1<s.1)(p:N):(if p=b then A (q.1,q.2)else cY i j k l d e a b c p)=cY i j k l d e a b (c+1) p:=by
 unfold cY;by_cases t:p=b;subst t;rw[am J,ak O,am J,d9,v];cases x:d9 i j k l d e a (ct i j k l d e a) p c with
  |none=>rfl
  |some s=>unfold rP;simp only[];rw[am (w s x)]
 rw[ak t];by_cases u:p<b;rw[am u,am u];rw[ak u,ak u,ak t,ak t]
def Sd{d:I}{e:ad}{t u:a4}(v:eI i j k l d e a (ct i j k l d e a) b ((c:I)-1)=A t)(w:d9 i j k l d e a (ct i j k l d e a) b c=A u)(x:¬t.1<u.1)(p:N):cY i j k l d e a b c p=cY i j k l d e a b (c+1) p:=by unfold cY;by_cases q:p<b;rw[am q,am q];rw[ak q,ak q];by_cases s:p=b;subst s;rw[am J,am J,d9,v,w];unfold rP;simp only[];rw[ak x];rw[ak s,ak s]
def Se{f:I}{g:ad}{c:I}{d:N->Option a4}(e:(decide (0<=c)&&(d c.toNat).isNone)=T):eI i j k l f g a d b c=Z:=by rw[cr,ez,Option.isNone_iff_eq_none]at e;unfold eI;rw[am e]
def Sf{Kd Ke J' JH Jv:I}{Jd:ad}{J0 Jy:N}{JR:I}{JB:N->Option a4}(a:(decide (cI Kd Ke J' Jy JR<0)||(decide (Jy<J0)&&(dt Ke 1 (cI Kd Ke J' Jy JR) Jv==0)))=T):eI Kd Ke J' JH Jv Jd J0 JB Jy JR=Z:=by unfold eI;split;rfl;rw[am];simpa using a
def Sg{Kd Ke J' JH Jv:I}{Jd:ad}{J0 Jy:N}{b:N->Option a4}(c:(decide (0<=i)&&(b i.toNat).isNone)=F)(d:(decide (cI Kd Ke J' Jy i<0)||(decide (Jy<J0)&&(dt Ke 1 (cI Kd Ke J' Jy i) Jv==0)))=F):eI Kd Ke J' JH Jv Jd J0 b Jy i=A (fO Kd Ke J' JH Jy i+(if 0<=i then((b i.toNat).getD (0,0)).1 else 0)+(if Jy<J0 then b3 Jd Jy else 0),i):=by
 unfold eI;rw[ak,ak];intro e;have:(decide (cI Kd Ke J' Jy i<0)||(decide (Jy<J0)&&(dt Ke 1 (cI Kd Ke J' Jy i) Jv==0)))=T:=X e
 rw[d]at this;simp at this;rintro⟨f,g⟩;rw[g,dD f]at c;simp at c
structure jv(c:W)(a:N)(d:N->Option a4)(b:W):Prop where
 steps:fP b a d
 bw:B a c b
structure kl(d:W)(c a:N)(e:N->Option a4)(f g:I)(b:W):Prop where
 fill:jv d c e b
 b0:C b a=A (au T)
 b1:C b ⟨a,1,Z⟩=A (aa ac f)
 b2:C b ⟨a,2,Z⟩=A (aa ac g)
 fr:aH b ⟨a,1,Z⟩=F
 gt:c<a
def kl.cost{e:N->Option a4}(c:kl w a b e i j x)(f:I):kl w a b e f j (aj x ⟨b,1,Z⟩ f):=⟨⟨c.fill.steps.other _ _ (by have:=c.gt;simp only[];omega),c.fill.bw.setCell (p:=⟨b,1,Z⟩) (by have:=c.gt;simp only[];omega) _⟩,dQ c.b0 av,World.cell?_setCell_same _ _ _ c.b1,dQ c.b2 av,(bs _ _ _ _).trans c.fr,c.gt⟩
def kl.drewN{d:N->Option a4}(c:kl w a b d i j x)(e:N):kl w a b d i j (x.drewN e):=⟨⟨⟨c.fill.steps.c0,c.fill.steps.c1,c.fill.steps.c2,c.fill.steps.fr⟩,eb c.fill.bw e⟩,c.b0,c.b1,c.b2,c.fr,c.gt⟩
def zY(c d e f g:I)(h:ad)(i b:N)(j:W)(k:N)(l:V)(m:W):Prop:=∃a:N,a<=b+1/\l=aa ac ((a:I)-1)/\jv j k (cY c d e f g h i b a) m
def lc(a:W)(d:ag)(e:Bool)(f:bp)(b:W):Prop:=∃c,f=aq (aZ #[c,au e])/\dv b a c d/\B a a b
def mk(b:N->Option a4):N->I->N
 |0,_=>0
 |c+1,a=>if 0<=a then eC (mk b c ((b a.toNat).getD (0,0)).2) a else 0
def Sh{j:N->Option a4}(u:b<=64)(o:∀c,a.testBit c=T->∃k,j c=A (k,ce a c)):∀(g:N)(e:I),e<g->e<b->(0<=e->a.testBit e.toNat=T)->∀c,(mk j g e).testBit c=(a.testBit c&&decide ((c:I)<=e)):=by
 intro g;induction g with
  |zero=>intro e p _ _ c;rw[mk,Nat.zero_testBit,c9 O,Bool.and_false]
  |succ g q=>intro e p v r c;rw[mk];by_cases h:0<=e;rw[am h];obtain⟨d,rfl⟩:=dw h;have i:=r h;rw[cW]at i⊢;have⟨k,s⟩:=o d i;have w:=k' a d;rw[s,pq _ d c O];simp only[Option.getD_some];rw[q (ce a d) O O (ox a d) c];by_cases l:d=c;subst l;simp[i];rw[c9 l,Bool.or_false];by_cases m:(c:I)<=ce a d;rw[dD m,dD (bh ((c:I)<=d))];rw[c9 m,Bool.and_false];by_cases t:(c:I)<=d;rw[pT a d c O O];rfl;rw[c9 t,Bool.and_false];rw[ak h,Nat.zero_testBit,c9 O,Bool.and_false]
def Si{f:N->Option a4}(g:b<=64)(h:∀c,b<=c->a.testBit c=F)(j:ce a b=i)(l:∀c,a.testBit c=T->∃m,f c=A (m,ce a c)):a=mk f (b+1) i:=by subst j;have n:=k' a b;refine Nat.eq_of_testBit_eq λc=>?_;rw[Sh g l (b+1) _ O n.2 (ox a b) c];by_cases o:c<b;by_cases p:ce a b<(c:I);rw[pT a b c p o];rfl;rw[dD (bh ((c:I)<=ce a b)),Bool.and_true];rw[h c O];rfl
def rT(b c d f g:I)(h:ad)(a:N)(j:W)(k:bp)(l:W):Prop:=(ct b c d f g h a a=Z/\lc j [] F k l)\/∃i e,ct b c d f g h a a=A i/\e=mk (ct b c d f g h a) (a+1) i.2/\(∀m,a<=m->e.testBit m=F)/\rO b c d g e a/\iP b c d f h e a=i.1/\lc j (g0 (js b c d e a)) T k l
def Sj(f:b<=64)(g:∀e,b<=e->a.testBit e=F):a<18446744073709551616:=by
 have h:a<2^b:=Nat.lt_pow_two_of_testBit a g;have i:2^b<=2^64:=Nat.pow_le_pow_right av f;have j:(2:N)^64=18446744073709551616:=av
 omega
def Sk(ar ax:I)(ay bD:V)(d c e f h:I)(a:N)(g:ad)(aA:W)(cu:eH e d c 1 f)(dR:a<=64)(bP:aX aA bD g)(bR:∀b,0<=b3 g b/\b3 g b<=9007199254740992):ap ab 194 #[ao #[ar,ax,ay,d,c,e,(1:I),f],a,h,bD] aA (rT e c d f h g a aA):=by
 have⟨t,cv,bE,c7,cw⟩:=da aA ar ax ay d c e 1 f;have bS:=fP.new t 284;obtain⟨bF,GA⟩:∃bF,t.alloc (az zeroCells284 284)=bF:=⟨_,J⟩
 have cx:B t t bF:=oV
 rw[GA]at bS;have dS:(aA:N)<=t:=bE.size;have z:=Q cu;have dT:=Q ((bP.bw bE).bw cx);have x:=cw.lt;have c8:=Q (bP.bw bE);obtain⟨bT,bU,bV,bW,bX,bY,b4,b5⟩:=cw;have cy:jv t t (kk e c d f h g a 0) bF:=⟨bS.congr (λn _=>by unfold kk;rw[ak O]),cx⟩
 have dU:min (a:I) 64=(a:I):=O
 have dV:max (a:I) 0=(a:I):=O
 change H _ at cv GA bR cy;clear c7 cu bS bP;go_in;go_upto_region 1 with(fail)
 rw[cv.oo];go_upto_region 3 with(fail)
 rw[GA.oo];generalize cz:(aA:Nat)=bG at*;generalize cA:(t:Nat)=j at*;change H _ at cz cA;go_wp2;go_loopw [23] (λn wr=>∃b:Nat,b<=a+1/\n= .int .i64 b/\jv t j (kk e c d f h g a b) wr) (λn _=>a+1-(aw n).toNat);exact⟨0,Nat.zero_le _,rfl,cy.oo⟩;obtain⟨b,c',rfl,l⟩:=hrel;by_cases db:b<a+1
 ·have cB:zY e c d f h g a b t j ((0:N)-1:I) wr:=⟨0,O,J,l.steps.congr (λn _=>Sa _ _ _ _ _ _ _ _ _),l.bw⟩
  have dc:=Q cB;obtain⟨ae,rfl⟩:=K wr;have dW:(b:I)<a+1:=O
  clear l cB;go_wp2;go_loopw [12] (λi b6=>zY e c d f h g a b t j i b6) (λi _=>b+1-(aw i+1).toNat);exact dc.oo;obtain⟨JL,dX,rfl,l⟩:=hrel;have aC:=Q l;by_cases Hq:(JL:Int)-1<(b:Int)
  ·obtain⟨P,rfl⟩:=K wr;have dY:=l.bw.size;have dZ:=l.steps.lt;obtain⟨bb,bc,be,bf,bg,bi,bl,bm⟩:bZ P bG ar ax ay d c e 1 f:=by exact⟨bk l.bw x bT,bk l.bw x bU,bk l.bw x bV,bk l.bw x bW,bk l.bw x bX,bk l.bw x bY,bk l.bw x b4,bk l.bw x b5⟩
   obtain⟨m,EI⟩:∃m,(JL:I)-1=m:=⟨_,J⟩
   have⟨a3,b7⟩:=K ((decide (0<=m)&&(ct e c d f h g a m.toNat).isNone));have cC:a3=T->eI e c d f h g a (ct e c d f h g a) b ((JL:I)-1)=Z:=λs=>by rw[EI];exact Se (by rw[<-b7];exact s)
   have b8:=Q b7;rw[EI]at Hq⊢;have dd:decide (m<(b:I))=T:=X Hq
   have Hr: -1<=m:=O
   have d0:b<=65:=O
   change H _ at cC EI;clear l b7;go_upto_region 9 with fail;go_cut [39] (λde aD=>de=au a3/\P=aD);case first=>
    by_cases G:0<=m
    ·obtain⟨i,rfl⟩:=dw G;have a4:i<65:=by omega
     have p:=aC.steps.c0 i a4;have o:=aC.steps.c1 i a4;have q:=aC.steps.c2 i a4;have v:cY e c d f h g a b JL i=ct e c d f h g a i:=by unfold cY;rw[am O]
     rw[v]at p o q;have aU:decide (0<=(i:I))=T:=D
     have D3:=b8.oo;rw[cW,aU,Bool.true_and]at D3;have b9:(i:I)<65:=O
     cases a5:ct e c d f h g a i with
      |none=>rw[a5]at p o q D3;have p:C P ⟨j,i*3,Z⟩=A (au F):=p;have o:C P ⟨j,i*3+1,Z⟩=A (aa ac 0):=o;have q:C P ⟨j,i*3+2,Z⟩=A (aa ac 0):=q;have D3:H (a3=T):=Q D3;clear v a5;go_wp2;go_meet;exact⟨mN,J⟩
      |some cD=>rw[a5]at p o q D3;have p:C P ⟨j,i*3,Z⟩=A (au T):=p;have o:C P ⟨j,i*3+1,Z⟩=A (aa ac cD.1):=o;have q:C P ⟨j,i*3+2,Z⟩=A (aa ac cD.2):=q;have D3:H (a3=F):=Q D3;clear v a5;go_wp2;go_meet;exact⟨mN,J⟩
    have aU:decide (0<=m)=F:=X G
    have D3:H (a3=F):=Q (by rw[b8,aU,Bool.false_and]);clear G;go_wp2;go_meet;exact⟨mN,J⟩
   obtain⟨rfl,rfl⟩:=hcut;obtain⟨P,rfl⟩:=K P;cases a3 with
    |true=>
     have F6:H (jv t j (cY e c d f h g a b (JL+1)) P):=Q ⟨aC.steps.congr (λn _=>zX (cC J) n),aC.bw⟩;exact qs
    |false=>
     have cE:=zU ar ax ay d c e 1 f m b P z Hr Hq O;have d1:=zW z Hr Hq (by omega:b<=64);have d2:cI e c d b m<=2147483648:=by have:=z.jl;have:=z.gC;unfold cI;split;have:=Int.mul_nonneg z.fJ (bh (0<=(b:I)-m));omega;have:=Int.mul_nonneg z.fJ (bh (0<=(b:I)));omega
     have b':=Sf (Kd:=e) (Ke:=c) (J':=d) (JH:=f) (Jv:=h) (Jd:=g) (J0:=a) (Jy:=b) (JR:=m) (JB:=ct e c d f h g a);have bH:=Sg (JH:=f) (Jd:=g) b8.symm (Kd:=e) (Ke:=c) (J':=d) (Jv:=h) (J0:=a) (Jy:=b);have⟨ag,bn⟩:=K ((if 0<=m then((ct e c d f h g a m.toNat).getD (0,0)).1 else 0));have⟨aI,bo⟩:=K ((if b<a then b3 g (b:I)else 0));rw[<-bn,<-bo]at bH;have d4: -2000000000000000000<=ag/\ag<=2000000000000000000:=by
      rw[bn];split;cases a5:ct e c d f h g a m.toNat with
      |none=>simp
      |some ah=>have:=R8 z bR m.toNat O ah a5;simp only[Option.getD_some];omega
      omega
     have d5:0<=aI/\aI<=9007199254740992:=by rw[bo];split;exact bR _;omega
     generalize cI e c d b m=aO at*;generalize fO e c d f b m=U at*;have⟨aV,bq⟩:=K ((decide (aO<0)||(decide (b<a)&&(dt c 1 aO h==0))));rw[<-bq]at b' bH;have df:H (aV=T->eI e c d f h g a (ct e c d f h g a) b ((JL:I)-1)=Z):=Q (by rw[EI];exact b');have dg:H (aV=F->eI e c d f h g a (ct e c d f h g a) b ((JL:I)-1)=A (U+ag+aI,m)):=Q (by rw[EI];exact bH);have dh:=Q cE;change H _ at bq bn bo;clear cE b' bH;go_wp2_with fail;refine mU dh λa6 aW=>?_;have ca:jv t j (cY e c d f h g a b JL) a6:=⟨aC.steps.bw aW,aC.bw.trans (aW.mono O)⟩
     have cG:=Q ca;have d6:=ca.steps.lt;obtain⟨bb,bc,be,bf,bg,bi,bl,bm⟩:bZ a6 bG ar ax ay d c e 1 f:=bZ.bw ⟨bb,bc,be,bf,bg,bi,bl,bm⟩ aW;clear ca aW;go_upto_region 11 with fail;go_cut [60] (λdi aD=>di=au aV/\B a6 a6 aD);case first=>
      by_cases br:aO<0
      ·have bI:decide (aO<0)=T:=by simpa using br
       have D3:H (aV=T):=Q (by rw[bq,bI,Bool.true_or]);clear br;go_wp2;go_meet;exact⟨mN,aS _ _⟩
      have bI:decide (aO<0)=F:=X br
      by_cases M:b<a
      ·have bs:(b:I)<a:=by omega
       have dj:=Q (uv ar ax ay d c e 1 f aO h a6 (Y z.k9) (Y z.gC) O O);have D3:H (aV=(dt c 1 aO h==0)):=Q (by rw[bq,bI,dD M,Bool.false_or,Bool.true_and]);generalize dt c 1 aO h=d7 at*;clear br;go_wp2_with fail;refine mU dj.out λaP aG=>?_;go_wp2;go_meet;exact⟨mN,aG⟩
      have bs:decide ((b:I)<a)=F:=aF
      have bJ:decide (b<a)=F:=X M
      have D3:H (aV=F):=Q (by rw[bq,bI,c9 M,Bool.false_or,Bool.false_and]);clear br M;go_wp2;go_meet;exact⟨mN,aS _ _⟩
     obtain⟨rfl,aG⟩:=hcut;obtain⟨aP,rfl⟩:=K wc;have aQ:jv t j (cY e c d f h g a b JL) aP:=⟨cG.steps.bw aG,cG.bw.trans (aG.mono O)⟩
     have d8:=Q aQ;cases aV with
      |true=>
       have F6:H (jv t j (cY e c d f h g a b (JL+1)) aP):=Q ⟨aQ.steps.congr (λn _=>zX (df J) n),aQ.bw⟩;clear aQ aG;exact qs
      |false=>
       have dl:=aQ.steps.lt;obtain⟨bb,bc,be,bf,bg,bi,bl,bm⟩:bZ aP bG ar ax ay d c e 1 f:=bZ.bw ⟨bb,bc,be,bf,bg,bi,bl,bm⟩ aG;obtain⟨bt,bK⟩:∃bt,aP.alloc (az #[au T,U,(m:I)] 283)=bt:=⟨_,J⟩
       obtain⟨aY,dm⟩:∃aY,(aP:N)=aY:=⟨_,J⟩
       have u:kl t j aY (cY e c d f h g a b JL) U m bt:=by rw[<-bK,<-dm];exact⟨⟨aQ.steps.bw (aN _ _),aQ.bw.alloc O _⟩,aE,aE,aE,aE,dl⟩
       have a0:=Q u;have bL:=Q (dg.oo J);have dn:B aP aP bt:=by rw[<-bK];exact aN _ _
       change H _ at bK;clear aQ aG u bb bc be bf bg bi bl bm dn;go_upto_if 65 with fail;rw[bK];have dp:j<bt.heap.size:=a0.fill.steps.lt;go_cut [12] (λcc aD=>cc=(m:I)/\kl t j aY (cY e c d f h g a b JL) (U+ag) m aD);case first=>
        by_cases G:0<=m
        ·obtain⟨i,rfl⟩:=dw G;have a4:i<65:=by omega
         have o:=a0.fill.steps.c1 i a4;have v:cY e c d f h g a b JL i=ct e c d f h g a i:=by unfold cY;rw[am O]
         have bu:=bn.oo;rw[am G,cW]at bu;rw[v,<-bu]at o;have cH:=a0.b1;have dq:=a0.fr;have aU:decide (0<=(i:I))=T:=D
         have b9:(i:I)<65:=O
         have cd:IntKind.i64.wrap (U+ag)=U+ag:=hf _ O;have d':aB (U+ag)=U+ag:=cV O O;clear v bu;go_upto_region 14 with fail;go_region;all_goals go_wp2;go_meet;exact⟨J,by first|exact a0.cost _|exact(a0.cost _).drewN 1⟩
        have aU:decide (0<=m)=F:=X G
        have bu:H (U+ag=U):=Q (by rw[bn.oo,if_neg G];omega);clear G;rw[aU];go_wp2;go_meet;exact⟨rfl,by rw[bu.out];exact a0.oo⟩
       obtain⟨rfl,u⟩:=hcut;obtain⟨dr,rfl⟩:=K wc;have bv:=Q u;obtain⟨aR,cf⟩:=K (U+ag);rw[<-cf]at bv bL;have cJ:aX dr bD g:=c8.bw (by rw[cA];exact u.fill.bw);have cK:=Q (λcg s=>us bD g b cg (cJ.bw s));have cH:=u.b1;rw[<-cf]at cH;have dq:=u.fr;have ea: -3000000000000000000<=aR/\aR<=3000000000000000000:=O
       clear u cf cJ dp;go_upto_if 76 with fail;go_cut [12] (λcc aD=>cc=(m:I)/\kl t j aY (cY e c d f h g a b JL) (aR+aI) m aD);case first=>
        by_cases M:b<a
        ·have bs:decide ((b:I)<a)=T:=by simp;omega
         have bx:=bo.oo;rw[am M]at bx;rw[<-bx]at cK;have cd:IntKind.i64.wrap (aR+aI)=aR+aI:=hf _ O;have bJ:decide (b<a)=T:=X M
         clear bx M;first|rw[bJ]|rw[bs]
         go_upto_region 16 with fail;go_region_law (first
          |(refine qE dI ?_;go_simp;go_at_call 166;refine(cK _ ?_).mono ?_;(first|exact aS _ _|exact an _);rintro cL a1 ⟨rfl,rfl⟩))
         all_goals go_wp2;go_meet;exact⟨J,by first|exact bv.cost _|exact(bv.cost _).drewN 1|exact(bv.drewN 1).cost _⟩
        have bs:decide ((b:I)<a)=F:=aF
        have bx:H (aR+aI=aR):=Q (by rw[bo,ak M];omega);have bJ:decide (b<a)=F:=X M
        clear M;first|rw[bJ]|rw[bs]
        go_wp2;go_meet;exact⟨J,by rw[bx.out];exact bv⟩
       obtain⟨rfl,u⟩:=hcut;obtain⟨a1,rfl⟩:=K wc;have HX:=Q u;have⟨a2,ch⟩:=K (aR+aI);rw[<-ch]at HX bL;have ds:=u.b0;have cM:=u.b1;rw[<-ch]at cM;have du:=u.b2;have p:=u.fill.steps.c0 b O;have o:=u.fill.steps.c1 b O;have q:=u.fill.steps.c2 b O;have dx:=u.fill.steps.fr (b*3);have dy:=u.fill.steps.fr (b*3+1);have dz:=u.fill.steps.fr (b*3+2);have v:cY e c d f h g a b JL b=d9 e c d f h g a (ct e c d f h g a) b JL:=by unfold cY;rw[ak O,am J]
       rw[v]at p o q;have b9:(b:I)<65:=O
       have dA:=aJ b;have eb:j≠aY:=Y u.gt
       have⟨a8,bz⟩:=K ((match d9 e c d f h g a (ct e c d f h g a) b JL with|none=>T|some ah=>decide (a2<ah.1)));have cN:a8=T->∀n,(if n=b then A (a2,m)else cY e c d f h g a b JL n)=cY e c d f h g a b (JL+1) n:=λs n=>by refine Sc bL (λah ai=>?_) n;rw[bz,ai]at s;simpa using s
       have cO:a8=F->∀n,cY e c d f h g a b JL n=cY e c d f h g a b (JL+1) n:=λs n=>by
        cases ai:d9 e c d f h g a (ct e c d f h g a) b JL with
         |none=>rw[bz,ai]at s;simp at s
         |some ah=>refine Sd bL ai ?_ n;rw[bz,ai]at s;simpa using s
       have dB:=Q bz;change H _ at cN cO;clear bz v ch;go_upto_region 17 with fail;go_cut [97] (λdC aD=>dC=au a8/\kl t j aY (cY e c d f h g a b JL) a2 m aD);case first=>
        have D3:=dB.oo;cases ai:d9 e c d f h g a (ct e c d f h g a) b JL with
         |none=>rw[ai]at p o q D3;have p:C a1 ⟨j,b*3,Z⟩=A (au F):=p;have o:C a1 ⟨j,b*3+1,Z⟩=A (aa ac 0):=o;have q:C a1 ⟨j,b*3+2,Z⟩=A (aa ac 0):=q;have D3:H (a8=T):=Q D3;clear ai;exact sP
         |some ah=>
          rw[ai]at p o q D3;have p:C a1 ⟨j,b*3,Z⟩=A (au T):=p;have o:C a1 ⟨j,b*3+1,Z⟩=A (aa ac ah.1):=o;have q:C a1 ⟨j,b*3+2,Z⟩=A (aa ac ah.2):=q;have D3:H (a8=decide (a2<ah.1)):=Q D3;clear ai;cases cP:decide (a2<ah.1)with
           |true=>rw[cP]at D3;exact sP
           |false=>rw[cP]at D3;exact sP
       obtain⟨rfl,y⟩:=hcut;obtain⟨cQ,rfl⟩:=K wc;cases a8 with
        |true=>
         have ds:=y.b0;have cM:=y.b1;have du:=y.b2;have p:=y.fill.steps.c0 b O;have o:=y.fill.steps.c1 b O;have q:=y.fill.steps.c2 b O;have dx:=y.fill.steps.fr (b*3);have dy:=y.fill.steps.fr (b*3+1);have dz:=y.fill.steps.fr (b*3+2);have F6:jv t j (cY e c d f h g a b (JL+1)) (((aj cQ ⟨j,b*3,Z⟩ (au T)).setCell ⟨j,b*3+1,Z⟩ a2).setCell ⟨j,b*3+2,Z⟩ (m:I)):=⟨(y.fill.steps.set b O a2 m).congr (λn _=>cN J n),((y.fill.bw.setCell (p:=⟨j,b*3,Z⟩) (aL _) _).setCell (p:=⟨j,b*3+1,Z⟩) (aL _) _).setCell (p:=⟨j,b*3+2,Z⟩) (aL _) _⟩
         change H _ at F6;clear y;exact qs
        |false=>
         have F6:H (jv t j (cY e c d f h g a b (JL+1)) cQ):=Q ⟨y.fill.steps.congr (λn _=>cO J n),y.fill.bw⟩;clear y;exact qs
  have cS:JL=b+1:=O
  have dd:decide ((JL:I)-1<(b:I))=F:=X Hq
  have dE:H (jv t j (kk e c d f h g a (b+1)) wr):=Q ⟨l.steps.congr (λn _=>by rw[cS];exact Sb _ _ _ _ _ _ _ _ _),l.bw⟩;clear l Hq cS;go_wp2;go_roundw;case rel=>exact⟨b+1,O,aK,dE⟩
  simp[aw];omega
 have M:b=a+1:=O
 obtain⟨ae,rfl⟩:=K wr;have aC:=Q l;have ec:=l.steps.lt;have ci:∀n,n<=a->kk e c d f h g a b n=ct e c d f h g a n:=λn ed=>by unfold kk;rw[am O]
 have p:=l.steps.c0 a O;have o:=l.steps.c1 a O;have q:=l.steps.c2 a O;rw[ci a (Nat.le_refl a)]at p o q;have dA:=aJ a;have b9:(a:Int)<65:=O
 obtain⟨bT,bU,bV,bW,bX,bY,b4,b5⟩:bZ ae bG ar ax ay d c e 1 f:=⟨bk l.bw x bT,bk l.bw x bU,bk l.bw x bV,bk l.bw x bW,bk l.bw x bX,bk l.bw x bY,bk l.bw x b4,bk l.bw x b5⟩
 have ee:=z.oo.jk;have cT:=Q (λR (s:ct e c d f h g a a=some R)=>RL (ab5:=f) (ab7:=h) (ab6:=g) z.oo.jk (Y z.oo.k9) z.oo.fJ O a (Nat.le_refl a) R s);have bM:H (B aA aA ae):=Q (by rw[cz];exact bE.trans (l.bw.mono O));have ef:decide ((b:Int)<a+1)=false:=aF
 have eg:decide (b<a+1)=F:=X db
 change H _ at ci;clear l M c';cases v:ct e c d f h g a a with
  |none=>rw[v]at p o q;have p:ae.cell? ⟨j,a*3,none⟩=some (.bool false):=p;have o:ae.cell? ⟨j,a*3+1,none⟩=some (.int .i64 0):=o;have q:ae.cell? ⟨j,a*3+2,none⟩=some (.int .i64 0):=q;have dF:=Q v;clear v;go_wp2;go_ret2;exact .inl ⟨dF.oo,_,rfl,dv.nil _ _,bM.oo⟩
  |some R=>
   rw[v]at p o q;have p:C ae ⟨j,a*3,Z⟩=A (au T):=p;have o:C ae ⟨j,a*3+1,Z⟩=A (aa ac R.1):=o;have q:C ae ⟨j,a*3+2,Z⟩=A (aa ac R.2):=q;have⟨w,a9,cj,_,ck,bA,cl⟩:=cT R v;rw[ak (Nat.lt_irrefl a),Int.add_zero]at ck;have cm:=Sj O a9;have cU:=Q (λcg=>R6 ar ax ay d c e 1 f w cg z cm);rw[<-RZ O a9 (λk ba=>(cj k ba).1)]at cU;have dG:=Q (λcL dH s=>(Or.inr ⟨R,w,v,Si O a9 bA cl,a9,cj,ck,s⟩:rT e c d f h g a aA cL dH));have cn:=k' w a;have cX:0<=R.2->w.testBit R.2.toNat=T:=λs=>by rw[<-bA]at s⊢;exact ox w a s
   rw[bA]at cn;have dJ:H (∀k,k<64->(0:N).testBit k=(w.testBit k&&decide (R.2<(k:I)))):=Q (λk ba=>by rw[Nat.zero_testBit];by_cases dK:k<a;by_cases bB:R.2<(k:I);rw[pT w a k (by rw[bA];exact bB) dK];rfl;rw[c9 bB,Bool.and_false];rw[a9 k O];rfl);generalize g0 (js e c d w a)=eh at*;change H _ at cl cm cX;clear v a9 cj ck bA cT;go_wp2;go_loopw [16,17] (λcF co b6=>∃(aT:N) (al:I),cF=aa b1 (aT:I)/\co=al/\-1<=al/\al<a/\(0<=al->w.testBit al.toNat=T)/\aT<18446744073709551616/\(∀k,k<64->aT.testBit k=(w.testBit k&&decide (al<(k:I))))/\b6=ae) (λ_ co _=>(aw co+1).toNat);exact⟨0,R.2,J,J,cn.1,cn.2,cX,av,dJ,J⟩;obtain⟨aT,al,rfl,rfl,ei,ej,cZ,bN,cp,rfl⟩:=hrel;change H _ at cZ cp bN;by_cases G:0<=al
   ·obtain⟨i,rfl⟩:=dw G;have bO:=cZ G;rw[cW]at bO;have⟨ek,c3⟩:=cl i bO;have cq:=aC.steps.c2 i O;rw[ci i O,c3]at cq;have dL:C wr ⟨j,i*3+2,Z⟩=A (aa ac (ce w i)):=cq;clear cq;have c4:=k' w i;have cr:=ox w i;have cs:=pT w i;have⟨bC,c5⟩:=K (ce w i);rw[<-c5]at dL c4 cr cs;have cd:=Q (tI (i:I) bN);have dM:H (∀k,k<64->(eC aT (i:I)).testBit k=(w.testBit k&&decide (bC<(k:I)))):=Q (λk ba=>by rw[pq aT i k O,cp k ba];rcases Nat.lt_trichotomy k i with s|s|s;rw[c9 (bh (¬(i:I)<k)),c9 (bh (¬i=k)),Bool.and_false,Bool.or_false];by_cases bB:bC<(k:I);rw[cs k bB s];rfl;rw[c9 bB,Bool.and_false];subst s;rw[bO,dD (bh (bC<(k:I)))];simp;rw[dD (bh ((i:I)<k)),c9 (bh (¬i=k)),dD (bh (bC<(k:I))),Bool.or_false]);have dN:=Q (tH aT (i:I) wr bN);have a4:(i:I)<65:=by omega
    change H _ at cr;clear bO c3 cs c5;go_wp2_with fail;refine mR dN ?_;go_wp2;go_roundw;exact⟨_,bC,J,J,c4.1,O,cr,cd.out,dM,dk⟩;simp[aw];omega
   have aU:decide (0<=al)=false:=X G
   have dO:H (aT=w):=Q (MT bN.oo cm.oo (λk ba=>by rw[cp.oo k ba,decide_eq_true (bh (al<(k:Int))),Bool.and_true]));clear G;go_wp2_with fail;rw[dO.oo];refine mE (cU.oo _) λa6 dP ⟨c6,aW⟩=>?_;have aG:=bM.oo.trans (aW.mono bM.oo.size);have dQ:=Q (c6.mono bM.oo.size);clear c6 aW;go_wp2;go_ret2;exact dG.oo _ _ ⟨dP,rfl,dQ.oo,aG⟩
def db(a b:I)(c:br):br:=c.filter λd=>decide (d=0)||decide (a<=b)
def Sl{Jz Jv:I}{J7:br}{JN:N}(a:JN<L J7)(b:b6 J7 JN=0\/Jz<=Jv):db Jz Jv (J7.take (JN+1))=db Jz Jv (J7.take JN)++[b6 J7 JN]:=by unfold db;rw[eR a,h1,mZ a];rw[mZ a]at b;simp;exact b
def Sm{Jz Jv:I}{J7:br}{JN:N}(a:JN<L J7)(b:¬(b6 J7 JN=0\/Jz<=Jv)):db Jz Jv (J7.take (JN+1))=db Jz Jv (J7.take JN):=by unfold db;rw[eR a,h1];rw[mZ a]at b;simp;omega
def Sn(x b:I)(o:V)(y z D G K c:I)(d:br)(f:W)(hp:cA f o d)(al:L d<=1000):ap ab 218 #[ao #[x,b,o,y,z,D,G,K],c] f λam M=>∃P,am=aq P/\b5 M f P (db b c d)/\B f f M:=by
 have⟨g,R,B5,an,p⟩:=da f x b o y z D G K;obtain⟨aG,i,aI,rfl,Da,_,_,U⟩:=(hp.bw B5).open;have aL:i<=1000:=O
 have CP:(f:N)<=g:=B5.size;have ar:=p.c1;have aN:=p.c2;change H _ at R U Da;clear an p hp al;go_in;go_upto_region 1 with(fail)
 rw[R];go_wp2;go_loopw [5,11] (λav q wr=>∃(a:N) (j:V),a<=i/\j=av/\q=a/\b5 wr g j (db b c (d.take a))/\B g g wr) (λ_ q _=>i-(aw q).toNat);exact⟨0,_,a3 _,J,J,b5.nil _ _,aS _ _⟩;obtain⟨a,j,aO,rfl,rfl,Y,n⟩:=hrel;have CO:=Q Y;have r:=Q n;have ad:(g:N)<=wr.heap.size:=n.size;have aP:=s n ar;clear Y;by_cases Ch:a<i
 ·obtain⟨aQ,aR,rfl,aT,ae⟩:=U a Ch;have aU:=s n ae;have aV:=aJ a;have aW:(a:I)<i:=by omega
  have ag:=Q (λk=>Sl (Jz:=b) (Jv:=c) (J7:=d) (JN:=a) c1 k);have ax:=Q (λk=>Sm (Jz:=b) (Jv:=c) (J7:=d) (JN:=a) c1 k);have ah:H ((db b c (d.take a)).length+1<=1000000000000):=Q (by have aX:=List.length_filter_le (λe=>decide (e=0)||decide (b<=c)) (d.take a);have aY:=List.length_take_le a d;unfold db;omega);generalize db b c (d.take a)=ai at*;generalize b6 d a=e at*;clear ae n;have ay:(((e:I)==0)=T/\e=0)\/(((e:I)==0)=F/\decide (b<=c)=T/\b<=c)\/(((e:I)==0)=F/\decide (b<=c)=F/\¬(e=0\/b<=c)):=by by_cases k:e=0;exact .inl ⟨aF,k⟩;by_cases t:b<=c;exact .inr (.inl ⟨aF,X t,t⟩);exact .inr (.inr ⟨aF,X t,O⟩)
  rcases ay with⟨ak,m⟩|⟨ak,m,u⟩|⟨ak,m,u⟩
  ·have l:=Q (ag.oo (.inl m));clear m;go_wp2_with (at_builtin;refine sI J _ _ J wr g j ai e J J CO ah ad ?_);intro aA aC aD h aE v _ _;rw[<-l]at h;have w:=Q (r.oo.trans v);change H _ at h;go_wp2;go_roundw;case rel=>exact⟨a+1,_,O,J,aK,h,w⟩
   simp[aw];omega
  ·have l:=Q (ag.oo (.inr u));go_wp2_with (at_builtin;refine sI J _ _ J wr g j ai e J J CO ah ad ?_);intro aA aC aD h aE v _ _;rw[<-l]at h;have w:=Q (r.oo.trans v);change H _ at h;go_wp2;go_roundw;case rel=>exact⟨a+1,_,O,J,aK,h,w⟩
   simp[aw];omega
  have l:=Q (ax.oo u);go_wp2;go_roundw;case rel=>exact⟨a+1,_,O,J,aK,by rw[l];exact CO,r⟩
  simp[aw];omega
 have Gb:H (d.take a=d):=Q (cm (by rw[Da];omega));exact wv
def rU{f g h i j:V}(d:B w w x)(k:C w a=A u/\C w ⟨a,1,Z⟩=A v/\C w ⟨a,2,Z⟩=A y/\C w ⟨a,3,Z⟩=A f/\C w ⟨a,4,Z⟩=A g/\C w ⟨a,5,Z⟩=A h/\C w ⟨a,6,Z⟩=A i/\C w ⟨a,7,Z⟩=A j):C x a=A u/\C x ⟨a,1,Z⟩=A v/\C x ⟨a,2,Z⟩=A y/\C x ⟨a,3,Z⟩=A f/\C x ⟨a,4,Z⟩=A g/\C x ⟨a,5,Z⟩=A h/\C x ⟨a,6,Z⟩=A i/\C x ⟨a,7,Z⟩=A j:=by obtain⟨o,p,q,r,t,z,D,G⟩:=k;exact⟨s d o,s d p,s d q,s d r,s d t,s d z,s d D,s d G⟩
def So(c:ad)(a:ag)(b:N)(d:b<L a):fk c (a.take (b+1))=fk c (a.take b)+b3 c (du a b).1:=by rw[t9 a b d,RV];simp[fk]
def Sp{a:ad}(e:∀d,0<=b3 a d/\b3 a d<=9007199254740992)(b:ag):0<=fk a b/\fk a b<=9007199254740992*L b:=by
 induction b with
  |nil=>simp[fk]
  |cons c b g=>
   have h:=e c.1;have f:fk a (c::b)=b3 a c.1+fk a b:=by simp[fk]
   rw[f,dx];omega
def Sq{b:ad}(e:∀d,0<=b3 b d/\b3 b d<=9007199254740992)(c:ag)(a:N)(f:a<=64):0<=fk b (c.take a)/\fk b (c.take a)<=576460752303423488:=bi (Sp e (c.take a)) (List.length_take_le a c)
def Sr{n:I}(e:eH i j k l n)(m:ad):∀c∈(cS i j k m).2,-200000000000<=c/\c<=200000000000:=by intro c a;rcases t6 i j k m with⟨b,_⟩|⟨b,_⟩|⟨b,r,o⟩;rw[b]at a;simp at a;rw[b]at a;simp at a;rw[b]at a;obtain⟨p,d,rfl⟩:=List.mem_map.1 a;rw[List.mem_range]at d;have s:=P6 (o p d);rw[yZ _ _ _ _ d];have:=e.gC;have:=e.fJ;omega
def Ss(c d e:I)(b:ad):(cS c d e b).2.length<=L b:=by rcases t6 c d e b with⟨a,_⟩|⟨a,_⟩|⟨a,f,g⟩;rw[a];simp;rw[a];simp;rw[a];simp[y5]
def St(a:ag)(b:N):(mg a b).length=b:=by have:=Qk a b (L a);unfold mf at this;rw[List.take_length]at this;exact this
def e3(a:W)(b:I)(c:bp)(d:W):Prop:=c=aq b/\B a a d
def zZ(d r:I)(t aC aR:V)(a b c l g:I)(i:N)(j:ad)(e:ag)(f:W)(aT:d=1\/(d=2/\eH c a b l g))(b6:i<=64)(bm:aX f aC j)(aD:∀aU,0<=b3 j aU/\b3 j aU<=9007199254740992)(aV:gZ f aR e)(b7:L e<=64)(aW:∀bn∈e,bB bn.2=T):ap ab 165 #[ao #[d,r,t,a,b,c,l,g],i,aC,aR] f (e3 f (hv d c a b g j e i)):=by
 have⟨aY,a0,x,b8,bo⟩:=da f d r t a b c l g;obtain⟨bq,v,br,rfl,aE,_,a1⟩:=(aV.bw x).open;have bs:=Q (bm.bw x);have bt:=Q (aV.bw x);have b9:v<=64:=O
 have bu:=x.size;obtain⟨bv,bx,bz,bA,bC,bD,bE,bF⟩:=bo;change H _ at a0 aD a1 aE aT aW;go_in;go_upto_region 1 with(fail)
 rw[a0];go_wp2;go_loopw [9,16] (λbG aF wr=>∃(h:N) (k:I),h<=v/\aF=h/\bG=k/\k=fk j (e.take h)/\B aY aY wr) (λ_ aF _=>v-(aw aF).toNat);exact⟨0,0,a3 _,J,J,by simp[fk],aS _ _⟩;obtain⟨h,k,b',rfl,rfl,M,n⟩:=hrel;have ca:=Q n;have bH:=Sq aD e h O;rw[<-M]at bH;change H _ at M;by_cases a2:h<v
 ·obtain⟨cc,cd,rfl,bI,f1⟩:=a1 h a2;have ce:=s n bI;have cf:=s n f1;have a4:=So j e h (by rw[aE];exact a2);rw[<-M]at a4;generalize(du e h).1=y at*;generalize(du e h).2=bJ at*;obtain⟨w,P⟩:∃w,wr.alloc (az #[y,bJ] 224)=w:=⟨_,J⟩
  have z:B wr.heap.size wr w:=by rw[<-P];exact aN _ _
  have cg:C w wr.heap.size=A (aa ac y):=by rw[<-P];simp[go_sem]
  have bK:=Q (us aC j y w (bs.bw (q n z)));have hp:=aD y;generalize b3 j y=aG at*;have bL:aB (k+aG)=k+aG:=cV O O;have bM:=Q a4;have bN:=Q (q n z);have ch:=aJ h;have ci:(h:I)<v:=O
  change H _ at P;go_upto_region 5 with fail;rw[P];go_wp2_with fail;refine mR bK ?_;go_wp2;go_roundw;case rel=>exact⟨h+1,k+aG,O,aK,J,bM.symm,bN⟩
  simp[aw];omega
 have a5:H (k=fk j e):=Q (by rw[M,cm (by rw[aE];omega)]);obtain⟨R,U,ae,ah,ai,al,ar,av⟩:bZ wr f d r t a b c l g:=bZ.bw ⟨bv,bx,bz,bA,bC,bD,bE,bF⟩ n;have aI:=x.trans (n.mono bu);have bO:=aI.size;by_cases D:d=1
 ·have bP:(d==1)=T:=by simpa using D
  have aL:H (hv d c a b g j e i=k):=Q (by unfold hv;rw[am D,a5.out];omega);go_wp2;go_ret;rw[aL];exact⟨J,aI⟩
 have bP:(d==1)=F:=X D
 have o:eH c a b l g:=by rcases aT.oo with m|m;exact absurd m D;exact m.2
 have bR:(dm (i:I) 0 64).toNat=i:=qm
 have a6:=λG m=>Qu (S bq v br) e i G ((bt.bw n).bw m) aW;rw[bR]at a6;have a8:=Q a6;have⟨u,aO⟩:=K (mg e i);rw[<-aO]at a8;have cj:L u=i:=by rw[aO];exact St e i
 have bS:=Q (λG bT m=>t5 d r t a b c l g bT u G m ⟨o.jk,bi o.jl o.gC,o.fJ,Y o.jm,O⟩);have aL:H (hv d c a b g j e i=k+g*(cS c a b u).2.sum):=Q (by unfold hv;rw[ak D,a5.out,aO]);have⟨bU,ck,cl⟩:=uu o.tF o.th (Sr o u) (Y (Ss c a b u));generalize(cS c a b u).2=aP at*;generalize(cS c a b u).1=cn at*;have a9:=Q (λG ax m=>uc d r t a b c l g ax aP G m);rw[bU]at a9;generalize g*aP.sum=ba at*;have bL:aB (k+ba)=k+ba:=cV O O;have bV:=Q aI;have bb:=aS wr.heap.size wr;go_upto_region 9 with fail;go_cut [12] (λbW bc=>∃ax,ax=bW/\aX bc ax aP/\B wr.heap.size wr bc);case first=>
  go_region_held3 (λp=>(C p f=A (aa ac d)/\C p ⟨f,1,Z⟩=A (aa ac r)/\C p ⟨f,2,Z⟩=A t/\C p ⟨f,3,Z⟩=A (aa ac a)/\C p ⟨f,4,Z⟩=A (aa ac b)/\C p ⟨f,5,Z⟩=A (aa ac c)/\C p ⟨f,6,Z⟩=A (aa ac l)/\C p ⟨f,7,Z⟩=A (aa ac g))) (first|go_keep|exact rU ay ⟨R,U,ae,ah,ai,al,ar,av⟩|exact rU aA ⟨R,U,ae,ah,ai,al,ar,av⟩)
   (first
    |(go_at_call 104;refine(a8 _ ?_).mono ?_;(first|exact bb|exact an _);rintro bX w ⟨co,rfl,bY,z⟩;have be:=bY.ints;(first|have ay:=q bb z|have ay:=q (an wr) z))
    |(go_at_call 68;refine(bS _ _ ?_).mono ?_;(first|exact be|exact be.bw (an _));rintro bX cp ⟨aQ,rfl,b0,bf⟩;have b2:=b0.ints;(first|have aA:=q ay bf|have aA:=q (q ay (an _)) bf)))
  all_goals go_wp2;go_meet;exact⟨aQ,J,b2,by first|exact aA|exact aA.drew⟩
 obtain⟨aQ,rfl,bg,bh⟩:=hcut;obtain⟨bk,rfl⟩:=K wc;obtain⟨R,U,ae,ah,ai,al,ar,av⟩:bZ bk f d r t a b c l g:=bZ.bw ⟨R,U,ae,ah,ai,al,ar,av⟩ bh;have bl:=Q (bV.oo.trans (bh.mono bO));change H _ at bg;go_wp2_with fail;refine mU (a9 bk aQ bg) λcq b4=>?_;have b5:=bl.trans (b4.mono bl.size);go_wp2;go_ret;rw[aL];exact⟨J,b5⟩
end Go.Proofs.YtdlofedcpibjcaaGreatDoor
