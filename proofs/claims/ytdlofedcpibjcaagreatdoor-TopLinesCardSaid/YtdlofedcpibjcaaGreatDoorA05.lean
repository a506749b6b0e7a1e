/- A part of the proof of TopLines: contracts of the functions that it reaches. Conditions: as each states. -/
import Derived.Test.YtdlofedcpibjcaaGreatDoorA04
namespace Go.Proofs.YtdlofedcpibjcaaGreatDoor
open Go.RowKit Go.Proofs.Tryz
set_option linter.all false
set_option maxRecDepth 100000
set_option maxHeartbeats 25600000
open Go renaming World->W,Value->V,Addr->bQ,Act->a',Oper->bd,Program->cb,Ending->bp,TypeId->bj,Calls->ap
open Go.RowKit renaming Below->B,wrap64->aB,intOf->aw
open Option renaming some->A,none->Z
open Bool renaming true->T,false->F
open Go.Value renaming int->aa,slice->S,pointer->aM,agg->ao,bool->au,string->a7,tuple->aZ,ownBlock->af
open Go.IntKind renaming i64->ac,u64->b1
open Go.Ending renaming returned->aq
open Go.Obj renaming cells->az
open Go.World renaming setCell->aj,cell?->C,frozen?->aH
open List renaming length->L
open Go.Proofs.Tryz renaming prog->ab
open _root_ renaming Int->I,Nat->N,List->E
variable{a b c d e g:N}{w x:W}{i j k l:I}{u v y:V}{p:Prop}
section
attribute [local go_sem] Oper.semAt_some
def Ul(aC j d e w:Int)(aE:Option Addr)(c aG:Nat)(bV ch:Value)(g:List (List Int))(o:List (Int×Int))(n:World)(cj:c<=1000000)(aV:bt n bV g)(h:ba n ch o)(cm:o.length<=1000000)(d1:w<=1000000):Calls prog 196 #[.agg #[.int .i64 aC,.int .i64 j,.int .i64 d,.int .i64 e,.slice aE c aG,bV],ch,.int .i64 w] n (r9 n (ny c g j d e o w.toNat) (r8 c g j d e o w.toNat)):=by
 obtain⟨d2,c1,c2,cn,c3⟩:=bR n aC (j:I) (d:I) (e:I) (S aE c aG) bV;obtain⟨co,c4,cp,c5,bW,bX⟩:=cP d2 (S Z 0 0);rw[cn]at bW bX c5;have bY:=q c2 cp;have br:=c3.bw cp;have c6:=Q (OE aC j d e aE c aG bV ch g o co cj (aV.bw bY) (h.bw bY) cm);have d3:=Q (λ(m:W) (x:B n n m)=>aV.bw x);have d4:=Q (λ(m:W) (x:B n n m)=>h.bw x);obtain⟨bs,bu,bv,rfl,_,_,_⟩:=aV.open;obtain⟨cq,cr,cs,rfl,_,_,_⟩:=h.open;have d5:=Q (λ(m:W)=>Uh aC j d e w (S aE c aG) (S bs bu bv) (S cq cr cs) m ⟨_,_,_,J⟩ ⟨_,_,_,J⟩ ⟨_,_,_,J⟩);have c7:=Q (λ(m:W) (bx:V) (P:ar) (x:B n n m) (bA:bb m bx P) (aJ:cx P)=>tR aC j d e aE c aG (S bs bu bv) bx g P m (aV.bw x) bA cj aJ);have c9:=Q (λ(m:W) (bx:V) (P:ar) (x:B n n m) (bA:bb m bx P) (aJ:cx P)=>qF aC j d e (S aE c aG) (S bs bu bv) bx g P m ⟨_,_,_,J⟩ (aV.bw x) bA aJ);have a0:r8 c g j d e o w.toNat=if iE c g d e o≠0 then iE c g d e o else if(gH c g j d e (f7 c g j d e o w.toNat)).1 then 0 else 14:=J;have a2:ny c g j d e o w.toNat=if iE c g d e o≠0 then[]else if(gH c g j d e (f7 c g j d e o w.toNat)).1 then(gH c g j d e (f7 c g j d e o w.toNat)).2.2 else[]:=J;obtain⟨bB,hF⟩:=K (iE c g d e o);rw[<-hF]at a0 a2 c6;obtain⟨d6,c'⟩:=K (r8 c g j d e o w.toNat);obtain⟨d7,da⟩:=K (ny c g j d e o w.toNat);rw[<-c']at a0⊢;rw[<-da]at a2⊢;have ct:∀P∈f7 c g j d e o w.toNat,cx P:=λP aJ=>cx.of (a1 (AP P aJ) cm);have cu:=Q (λ(bZ b0 b2 b3 b4 b5:N) (b6:W) (db:aD) (a3:∀m,M db b6 m->B n n m) (bA:hC bZ b0 b2 b3 b4 b5 aC j d e w (S aE c aG) (S bs bu bv) (S cq cr cs) b6)=>Ug bZ b0 b2 b3 b4 b5 aC j d e w aE c aG (S bs bu bv) (S cq cr cs) g o b6 b6 cj db (λm x=>aV.bw (a3 m x)) (λm x=>h.bw (a3 m x)) cm d1 (M.refl _ _) bA);obtain⟨d8,dc⟩:=K (f7 c g j d e o w.toNat);rw[<-dc]at a0 a2 ct cu;obtain⟨p,bC⟩:=K (n:N);rw[<-bC]at d3 d4 c7 c9 cu br bW bX;have a4:=Q (U bC (bh ((co:N)=p+2)));have cv:=Q br;have dd:=Q (U bW bX);have de:B p n co:=by rw[bC];exact bY
 obtain⟨aK,aL,aN,aP,aQ,aR⟩:=br;have d9:=Q de;change H _ at c1 c4 a0 a2 ct;clear de;clear aV h c2 cp bY c5 c3 bW bX hF c' da dc;refine m3 func196 J ?_;simp only[ntmps196,List.size_toArray,dx,et,Nat.reduceAdd,Nat.reduceSub,Array.replicate_succ,Array.replicate_zero,List.push_toArray,List.append_toArray,List.nil_append,List.cons_append];go_upto_region 1 with fail;rw[c1,c4];try rw[cn]
 rw[<-bC];clear cn bC;go_wp2_with fail;refine mU c6 λbD a5=>?_;have df:=d9.trans (a5.mono (Y a4.oo));have d':=a5.size;have Dk:=s a5 dd.1;have cw:=aY a5 (Y a4.oo) dd.2;have dg:=Q (U Dk cw);have ea:=Q (cv.oo.bw a5);have dh:=Q df;have eD:p+2<=(bD:N):=Y a4.oo
 clear aK aL aN aP aQ aR a5 df;by_cases a6:bB=0;case neg=>
  have eb:(bB !=0)=T:=X a6
  have ae:=a0.oo;have ag:=a2.oo;rw[am a6]at ae ag;have di:(bD.setCell ⟨p+1,0,none⟩ (.slice none 0 0)).cell? ⟨p+1,0,none⟩=some (.slice none 0 0):=World.cell?_setCell_same' _ _ _ nO;have dj:r9 n d7 d6 (aq (aZ #[ao #[S Z 0 0],aa ac bB])) (aj bD ⟨p+1,0,Z⟩ (S Z 0 0)):=by rw[ae,ag];exact⟨_,_,_,J,λbE _ _=>jQ bE,by rw[<-a4.oo.1];exact fR dh.oo O (Y a4.oo.1)⟩
  change H _ at dj di;clear ae ag a6 d';go_wp2_with fail;have D6:=di.oo;exact Ui (Kl:=aZ #[ao #[S Z 0 0],bB]) sq dj
 case pos=>
 have eb:(bB !=0)=F:=X a6
 have cy:=a0.oo;have cz:=a2.oo;rw[ak (X a6)]at cy cz;obtain⟨ec,dk,bF,cA,cB,cC⟩:=cP bD (S Z 0 0);obtain⟨ed,dl,dm,cD,cE,cF⟩:=Uk ec 0;obtain⟨dn,dp,b8,ee,cG,f1⟩:=zv ed F;obtain⟨i,a3⟩:=K (bD:N);rw[<-a3]at cB cC cA;rw[cA]at cE cF cD;rw[cD]at cG f1 ee;have b9:=q dm b8;have bG:=q bF b9;have dq:=s b9 cB;have dr:=aY b9 O cC;have ds:=s b8 cE;have dt:=aY b8 O cF;have du:=ea.bw bG;have dv:=s bG dg.1;have dw:=aY bG O dg.2;have dy:=dh.trans (bG.mono O);have eE:p+2<=i:=O
 have dz:(dn:N)=i+3:=O
 have a8:=Q (U dq (U dr (U ds (U dt (U cG f1)))));have dA:=Q (U dv dw);have ef:=Q du;have eg:=Q dy;obtain⟨aK,aL,aN,aP,aQ,aR⟩:=du;change H _ at dk dl dp;change H _ at dz cy cz;clear bF dm b8 b9 bG cB cC cE cF cG f1 dq dr ds dt dv dw dy a6 Dk cw;go_upto_region 5 with fail;rw[dk,dl,dp];try rw[cD]
 try rw[cA]
 rw[<-a3];clear a3;try simp only[Nat.add_assoc,Nat.reduceAdd]
 go_wp2_with fail;refine(d5 dn).mono ?_;rintro k al ⟨bZ,b0,b2,b3,b4,b5,rfl,aJ,R,g1,g2,g3,eF,eG,eH⟩;have eI:=R.size;have eJ:=dz.oo;have cH:=eg.trans (R.mono O);have dB:=cu bZ b0 b2 b3 b4 b5 al (λa=>a=i\/a=i+1\/a=i+1+1) (λm x=>cH.trans (x.bg O (λa z k=>O))) aJ;have cI:iW i (i+1) (i+1+1) al (S Z 0 0) (gH c g j d e []) al:=⟨s R a8.1,s R a8.2.2.1,s R a8.2.2.2.2.1,aY R O a8.2.1,aY R O a8.2.2.2.1,aY R O a8.2.2.2.2.2,O,λbE _ _=>jQ bE⟩
 obtain⟨D,dC⟩:=K (al:N);rw[<-dC]at cI;have eh:=Q (ef.oo.bw R);have dD:=Q (U (s R dA.oo.1) (aY R O dA.oo.2));have dF:=Q cH;have GC:=Q dC;have eK:i+3<=D:=O
 change H _ at dB cI;clear aJ R aK aL aN aP aQ aR cH;go_wp2_with fail;refine Uf J (enters_of func258 aT J) dB (λ_=>rfl) (λ(aW:E (V×ar)) cJ=>(∃u v r,iW i (i+1) (i+1+1) D (S u v r) (gH c g j d e (aW.map (λah:V×ar=>ah.2))) cJ)/\M (λa=>a=i\/a=i+1\/a=i+1+1) al cJ) (λa=>a=i\/a=i+1\/a=i+1+1) (λ(aW:E (V×ar)) cJ eL ⟨⟨u,v,r,ad⟩,ei⟩ dG=>⟨⟨u,v,r,ad.aO dG (λa k=>Y GC.oo)⟩,ei.trans dG I2 (λa z k=>O)⟩) (λa k=>⟨Y GC.oo,λD4=>by rcases D4 with D4|D4|D4|D4|D4|D4|D4;exact D4.2 k;all_goals omega⟩) ⟨⟨_,_,_,cI⟩,M.refl _ _⟩ ?round ?done;case round=>
  intro eM aW b' y cK ej ek;obtain⟨⟨bH,bI,bJ,ad⟩,an⟩:=cK;obtain⟨b7,t⟩:=b';obtain⟨⟨eN,cL⟩,⟨a9,bc,be,dH⟩,ca⟩:=ej;simp only at cL dH ca;subst dH;have cM:cx t:=ct t (by rw[cL];simp);have cN:=Uj c g j d e (aW.map (λah:V×ar=>ah.2)) t;obtain⟨av,bK⟩:=K (gH c g j d e (aW.map (λah:V×ar=>ah.2)));rw[<-bK]at ad cN;rw[<-GC]at ca ek;obtain⟨eO,dJ,bf,el,cO⟩:=c8 y (S a9 bc be);have dK:=ad.bw bf;have dL:=ca.bw bf;have em:p<=(y:N):=O
  have dM:B p n y:=dF.trans (an.bg (Y GC.oo) (λa z k=>O));have dN:=eh.bl an O;have en:=Q (dN.bw bf);have dO:=dM.trans (bf.mono em);have eo:=Q an;have cc:=Q bf;change H _ at dJ;clear bf;change H _ at cN cM;clear an bK cL ad ca dM dN;simp only[oI,List.zip_toArray,List.zip_cons_cons,List.zip_nil_left];gi_wp2;rw[dJ];refine⟨cc,λay ax=>?_⟩;rw[<-GC]at ax;have ep:(y:N)≠D+1:=O
  have cQ:=ax.cell cO ep;have dP:=dK.aO ax (λa k=>O);have cd:aI bb (λa=>a<D+2) ay (S a9 bc be) t:=dL.step ax.size (λa z cR=>ax.block a z (λk=>cR O)) (λa _ k=>k);have br:=en.bl ax O;have cS:B p n ay:=dO.trans (ax.bg (Y cc.size) (λa z k=>O));have ce:M (λa=>a=D+1) y ay:=(M.bw (I':=λ_=>False) cc).trans ax (λ_ _ k=>k.elim) I2;have eP:=ce.size;have cT:=Q (λ(aA:W) (u:bz) (v r:N) (er:iW i (i+1) (i+1+1) D (S u v r) (oJ c g j d e av t) aA) (cU:M (λa=>a=i\/a=i+1\/a=i+1+1) ay aA)=>(⟨⟨⟨u,v,r,by rw[ck];simp only[dE,List.map_nil];rw[cN];exact er⟩,(eo.trans ce I2 (λa z k=>Y GC.oo)).trans cU I2 I2⟩,ce.trans cU (λ_ _ k=>.inr k) (λ_ _ k=>.inl k),cU.block (D+1) O (λk=>O)⟩:((∃u v r,iW i (i+1) (i+1+1) D (S u v r) (gH c g j d e ((aW++[((S a9 bc be:V),t)]).map (λah:V×ar=>ah.2))) aA)/\M (λa=>a=i\/a=i+1\/a=i+1+1) al aA)/\M (λa=>(a=i\/a=i+1\/a=i+1+1)\/a=D+1) y aA/\aA.heap[D+1]? =ay.heap[D+1]?));have dQ:=Q (c7.oo ay _ t cS cd.now cM);have bL:oJ c g j d e av t=if eZ c g j d e t=0 then(if av.1=F\/cl g t<av.2.1 then(T,cl g t,t)else av)else av:=J;obtain⟨cV,dR⟩:=K (eZ c g j d e t);obtain⟨bk,dS⟩:=K (cl g t);have dT:=Q (λ(m:W) (x:B ay.heap.size ay m)=>c9 m _ t (cS.trans (x.mono (bi ax.size cc.size))) (cd.bw x).now cM);rw[<-dR]at dQ bL;rw[<-dS]at dT bL;obtain⟨aK,aL,aN,aP,aQ,aR⟩:=br;have dU:=Q dP;have es:=Q cd;have cv:=Q (⟨aK,aL,aN,aP,aQ,aR⟩:ci ay p _ _ _ _ _ _);change H _ at bL;clear ax dK dL dP cd cS ce dO dR dS;gi_upto_region 7 with fail;refine jY jI dI ?_;go_wp2_with fail;refine mU dQ λaA aX=>?_;change H _ at cQ aX;clear aK aL aN aP aQ aR;by_cases bm:cV=0;case neg=>
   have eu:(cV !=0)=T:=X bm
   have ai:=bL.oo;rw[ak bm]at ai;obtain⟨⟨bo,bq,cW⟩,cX⟩:∃ah,ah=av:=⟨av,J⟩
   have D4:=cT aA bH bI bJ (by rw[ai];exact dU.bw aX) (M.bw aX);have G:=Q (U D4.1 (U D4.2.1 D4.2.2));clear D4 ai bm cX;exact qt
  case pos=>
   have eu:(cV !=0)=F:=X bm
   have cf:=bL.oo;rw[am bm]at cf;obtain⟨⟨bo,bq,cW⟩,cX⟩:∃ah,ah=av:=⟨av,J⟩
   subst cX;obtain⟨aK,aL,aN,aP,aQ,aR⟩:=cv.bw aX;have cO:=s aX cQ;have ev:=Q (dT.oo aA aX);change H _ at cf;clear bm;go_wp2_with fail;gi_upto_region 8 with fail;refine jY jI dI ?_;go_wp2_with fail;refine mU ev λdV bF=>?_;have bN:=q aX bF;have aS:=dU.bw bN;have u0:=aS.b;have u1:=aS.l;have u2:=aS.f;have eQ:=aS.zb;have eR:=aS.zl;have eS:=aS.zf;try simp only at u1 u2
   have cO:=s bN cQ;have bO:=Q (U aS (U bN (es.oo.bw bN)));clear aK aL aN aP aQ aR bF bN aS;by_cases aU:bo=F\/bk<bq
   ·have ai:=cf.oo;rw[am aU]at ai;obtain⟨dW,dX⟩:=bO.1.store (v:=S a9 bc be) (c:=bk) (Jj:=t) bO.2.2;have D4:=cT (mw dV i (i+1) (i+1+1) (S a9 bc be) bk) a9 bc be (by rw[ai];exact dW) ((M.bw (I':=λ_=>False) bO.2.1).trans dX (λ_ _ k=>k.elim) I2);unfold mw at D4;have G:=Q (U D4.1 (U D4.2.1 D4.2.2));clear D4 ai dW dX;cases bo with
     |false=>clear aU;exact qt
     |true=>
      have ew:bk<bq:=by rcases aU with h|h;cases h;exact h
      have ex:decide (bk<bq)=T:=X ew
      clear aU;exact qt
   have ai:=cf.oo;rw[ak aU]at ai;have D4:=cT dV bH bI bJ (by rw[ai];exact bO.1) (M.bw bO.2.1);have G:=Q (U D4.1 (U D4.2.1 D4.2.2));clear D4 ai;cases bo with
    |false=>exact absurd (.inl J) aU
    |true=>
     have ex:decide (bk<bq)=F:=by simpa using λh=>aU (.inr h)
     clear aU;exact qt
 case done=>
  intro aW y cY cK cZ;obtain⟨⟨bH,bI,bJ,ad⟩,an⟩:=cK;try simp only at cY
  rw[cY]at ad;obtain⟨⟨bo,bq,cW⟩,bK⟩:=K (gH c g j d e d8);have ae:=cy.oo;have ag:=cz.oo;rw[<-bK]at ad ae ag;have ey:=GC.oo;have el:=an.size;have ez:=(bM.1 cZ).1;have Dk:=an.cell dD.1 O;have cw:=an.free dD.2 O O;have u0:=ad.b;have u2:=ad.f;try simp only at u0 u2
  have dY:B p n y:=dF.trans (an.bg O (λa z k=>O));have dZ:=a4.1;have d0:=Q (λ(u:Option Addr) (v r:Nat) (t:List (List (Int×Int))) (b':Int) (eA:aI bb (λa=>a<D+2) y (.slice u v r) t)=>(by have c0:M (λa=>a=p+1) y (y.setCell ⟨p+1,0,none⟩ (.slice u v r)):=M.grown (bn _ _ _) (λa k=>X k.symm);have cg:=hc (y.setCell ⟨p+1,0,none⟩ (.slice u v r)) (al:Nat) (.deferred none);refine⟨(c0.block _ ez O).trans cZ,cg.cell (World.cell?_setCell_same' _ _ _ nO) O,u,v,r,rfl,?_,?_⟩;exact(eA.set (G':=λa=>a<D+2) _ _ aF (λa z=>z)).step cg.size (λa z cR=>cg.block a z (λk=>cR O)) (λa _ z=>O);rw[<-dZ];have eB:=dY.trans (c0.bg O λa z k=>O);exact eB.trans (cg.bg (Y c0.size) λa z k=>O):(y.setCell ⟨p+1,0,none⟩ (.slice u v r)).heap[(al:Nat)]? =some (.deferred (some []))/\((y.setCell ⟨p+1,0,none⟩ (.slice u v r)).putObj (al:Nat) (.deferred none)).cell? ⟨p+1,0,none⟩=some (.slice u v r)/\r9 n t b' (.returned (.tuple #[.agg #[.slice u v r],.int .i64 b'])) ((y.setCell ⟨p+1,0,none⟩ (.slice u v r)).putObj (al:Nat) (.deferred none))));have eC:=Q ad;clear an ad cZ cY bK dY dZ ey;cases bo with
   |false=>simp only[gL,if_false]at ae ag;obtain⟨bP,bS,bT⟩:=d0 Z 0 0 [] 14 (λbE _ _=>jQ bE);have bU:=Q (U ae ag);change H _ at bP bS bT;clear ae ag;go_wp2_with fail;have D6:=bS.oo;rw[bU.1,bU.2];exact kK (Kl:=aZ #[ao #[S Z 0 0],(14:I)]) bP sq bT
   |true=>simp only[if_true]at ae ag;obtain⟨bP,bS,bT⟩:=d0 bH bI bJ cW 0 eC.off;have bU:=Q (U ae ag);change H _ at bP bS bT;clear ae ag;go_wp2_with fail;have D6:=bS.oo;rw[bU.1,bU.2];exact kK (Kl:=aZ #[ao #[S bH bI bJ],(0:I)]) bP sq bT
def r'(d:W)(b:N)(h:V->aP)(i:aV)(j:bp)(a:W):Prop:=(∃k,j=aq k)/\∃e f g,ax a b (h (S e f g))/\aH a ⟨b,6,Z⟩=F/\aI bq (λc=>c<(d:N)) a (S e f g) i/\M (λc=>c=b) d a
def Um(Dn b:Nat)(c u v w d e g:Int)(h i l:Value)(j:List Cu)(o:List (List Int))(k:List (List (List (Int×Int))))(Kw:World)(p:e5 Kw b h i j o)(s:bq Kw l k)(x:b8 b 128 k)(ha:∃JN:Nat,c=(JN:Int)/\JN<j.length)(a:ax Kw Dn [.int .i64 b,.int .i64 d,.int .i64 e,.int .i64 g,h,i,l,.int .i64 c,.int .i64 u,.int .i64 v,.int .i64 w])(y:Kw.frozen? ⟨Dn,6,none⟩=false):Calls prog 135 #[.pointer (some ⟨Dn,0,none⟩)] Kw (r' Kw Dn (λG=>[.int .i64 b,.int .i64 d,.int .i64 e,.int .i64 g,h,i,G,.int .i64 c,.int .i64 u,.int .i64 v,.int .i64 w]) (hx j o d e g b [c.toNat] k).2):=by
 have G9:=Q (λ(r:World) (z:Below (Kw:Nat) Kw r)=>(by obtain⟨JN,rfl,t⟩:=ha;exact SV b JN d e g h i l j o k r (p.bw z) (s.bw z) x t:Calls prog 171 #[.agg #[.int .i64 b,.int .i64 d,.int .i64 e,.int .i64 g,h,i],.agg #[l],.int .i64 c] r (fl r (hx j o d e g b [c.toNat] k))));obtain⟨K,O,P,rfl,_,_,_⟩:=p.gr.open;obtain⟨R,U,Y,rfl,_,_,_⟩:=p.cu.open;obtain⟨ad,ae,ag,rfl,_,_,_⟩:=s.open;have Fr:=a 0 _ rfl;have Fs:=a 1 _ rfl;have Ft:=a 2 _ rfl;have Fu:=a 3 _ rfl;have Fv:=a 4 _ rfl;have Fw:=a 5 _ rfl;have Fx:=a 6 _ rfl;have Fy:=a 7 _ rfl;have Fz:=a 8 _ rfl;have FA:=a 9 _ rfl;have FB:=a 10 _ rfl;have CL:=Q (And.intro a y);clear p s x a y;go_in;go_upto_region 0 with fail;refine bv [0,1,2,3,5,6,7,9,10,11,104,108,112,213,14,15,16,17,18,319] ?_;iterate 13 refine mS ?_
 exact vP
def nz(d:a0)(e:ai)(f g h:I)(i:N)(a b:I)(c:aV):Bool×aV:=if a=b then(F,c)else hx d e f g h i [a.toNat,b.toNat] c
def Un(Dn a:Nat)(g i u v b c d:Int)(j k o:Value)(e:List Cu)(p:List (List Int))(l:List (List (List (Int×Int))))(Kw:World)(EO:e5 Kw a j k e p)(h:bq Kw o l)(FV:b8 a 128 l)(ha:∃JN:Nat,g=(JN:Int)/\JN<e.length)(n:∃JN:Nat,i=(JN:Int)/\JN<e.length)(Cb:ax Kw Dn [.int .i64 a,.int .i64 b,.int .i64 c,.int .i64 d,j,k,o,.int .i64 g,.int .i64 i,.int .i64 u,.int .i64 v])(Gv:Kw.frozen? ⟨Dn,6,none⟩=false):Calls prog 136 #[.pointer (some ⟨Dn,0,none⟩)] Kw (r' Kw Dn (λx=>[.int .i64 a,.int .i64 b,.int .i64 c,.int .i64 d,j,k,x,.int .i64 g,.int .i64 i,.int .i64 u,.int .i64 v]) (nz e p b c d a g i l).2):=by
 have G9:=Q (λ(r:World) (s:Below (Kw:Nat) Kw r)=>(by obtain⟨JN,rfl,t⟩:=ha;obtain⟨w,rfl,y⟩:=n;unfold nz;by_cases f:JN=w;subst f;rw[if_pos rfl];exact SY a JN b c d j k o e p l r (EO.bw s) (h.bw s) FV;rw[if_neg O];exact SX a JN w b c d j k o e p l r (EO.bw s) (h.bw s) FV t y f:Calls prog 172 #[.agg #[.int .i64 a,.int .i64 b,.int .i64 c,.int .i64 d,j,k],.agg #[o],.int .i64 g,.int .i64 i] r (fl r (nz e p b c d a g i l))));exact wz
def Uo(Dn a:Nat)(r s c b k d e:Int)(g i l:Value)(u:List Cu)(o:List (List Int))(j:List (List (List (Int×Int))))(Kw:World)(EO:e5 Kw a g i u o)(h:bq Kw l j)(FV:b8 a 128 j)(w:∃JN:Nat,c=(JN:Int)/\JN<a)(x:b<=1000000)(Cb:ax Kw Dn [.int .i64 a,.int .i64 k,.int .i64 d,.int .i64 e,g,i,l,.int .i64 r,.int .i64 s,.int .i64 c,.int .i64 b])(Gv:Kw.frozen? ⟨Dn,6,none⟩=false):Calls prog 137 #[.pointer (some ⟨Dn,0,none⟩)] Kw (r' Kw Dn (λy=>[.int .i64 a,.int .i64 k,.int .i64 d,.int .i64 e,g,i,y,.int .i64 r,.int .i64 s,.int .i64 c,.int .i64 b]) (lf o d e c.toNat b.toNat j).2):=by
 have G9:=Q (λ(p:World) (v:Below (Kw:Nat) Kw p)=>(by obtain⟨JN,rfl,t⟩:=w;exact S0 a JN k d e b g i l u o j p (EO.bw v) (h.bw v) (FV.mono O) t x:Calls prog 173 #[.agg #[.int .i64 a,.int .i64 k,.int .i64 d,.int .i64 e,g,i],.agg #[l],.int .i64 c,.int .i64 b] p (fl p (lf o d e c.toNat b.toNat j))));exact wz
end
section
attribute [local go_sem] Oper.semAt_some
def AQ(d:a0)(a:ai)(e b c:I)(f:N)(h g i j:I)(k:aV):aV:=(lf a b c j.toNat h.toNat (nz d a e b c f g i (hx d a e b c f [g.toNat] k).2).2).2
def ln(a:a0)(d:ai)(e f g:I)(b:N)(h adb:I)(c:aV):E ar×I:=if (L a)=0 then(c,adb)else(AQ a d e f g b h (dc adb%a.length) (dc (cy adb)%a.length) (dc (cy (cy adb))%b) c,cy (cy (cy adb)))
def AR(acW:W)(ac0:N)(c:E ar×I)(g:bp)(a:W):Prop:=∃d e f,g=aq (ao #[S d e f])/\aI bq (λb=>b<(acW:N)) a (S d e f) c.1/\d' a ac0 c.2/\M (λb=>b=ac0) acW a
def Up(acW:W)(ada:aP):∃a,acW.alloc (az ada.toArray 213)=a/\B acW acW a/\a.heap.size=(acW:N)+1/\ax a acW ada/\∀b,aH a ⟨acW,b,Z⟩=F:=⟨_,J,aN _ _,D,X (ax.new acW ada _),λb=>by simp[go_sem]⟩
def AS{a:a0}{j:ai}{k l m c d:I}{b e:N}{f:aV}(n:∀g,g<L a->dR b (aQ a g))(o:b<=64)(h:b8 b (e+128) f)(ha:c.toNat<L a)(p:d.toNat<L a):b8 b e (nz a j k l m b c d f).2:=by unfold nz;split;exact h.mono O;exact uF (λq i=>by simp at i;rcases i with rfl|rfl<;>(apply n;assumption)) o (X h)
structure RS(g:W)(b e c f:N)(i:aD)(j f1 k l m n:V)(o:aP)(p:I)(q:V)(r:aV)(a:W):Prop where
 inst:ci a b j f1 k l m n
 res:C a ⟨b+2,0,Z⟩=A (S Z 0 0)
 fQ:aH a ⟨b+2,0,Z⟩=F
 aA:ax a c o
 bH:∀h,i h->aH a ⟨c,h,Z⟩=F
 off:aI bq (λd=>d<f\/d=c) a q r
 str:d' a e p
 aO:M (λd=>d=e) g a
 ord:e<b/\b+2<f/\f<=c/\g.heap.size=b
 lt:c<a.heap.size
section
variable{acW acX acY:W}{acZ ac0 ac1 ac2:N}{ac3:aD}{ac4 f1 ac5 ac6 ac7 ac8 ac9:V}{ada:aP}{adb adc:I}{add:aV}
def RS.draw(a:RS acW acZ ac0 ac1 ac2 ac3 ac4 f1 ac5 ac6 ac7 ac8 ada adb ac9 add acX)(e:acX.grownBy acY (A ac0))(f:d' acY ac0 adc):RS acW acZ ac0 ac1 ac2 ac3 ac4 f1 ac5 ac6 ac7 ac8 ada adc ac9 add acY:=by
 have b:M (λc=>c=ac0) acX acY:=M.grown e λ_ d=>X d.symm
 have g:=a.ord;exact⟨a.inst.bl b O,b.cell a.res O,b.free a.fQ (aR _ _ a.res) O,a.aA.bl b O,λh i=>b.free (a.bH h i) a.lt O,a.off.step b.size (λc j k=>b.block c j (λd=>k (.inl O))) (λc _ d=>d),f,a.aO.trans b I2 I2,g,cg a.lt b.size⟩
def RS.set(a:RS acW acZ ac0 ac1 ac2 ac3 ac4 f1 ac5 ac6 ac7 ac8 ada adb ac9 add acX)(c:N)(d:V)(g:c<L ada):RS acW acZ ac0 ac1 ac2 ac3 ac4 f1 ac5 ac6 ac7 ac8 (ada.set c d) adb ac9 add (aj acX ⟨ac1,c,Z⟩ d):=by have b:M (λe=>e=ac1) acX (aj acX ⟨ac1,c,Z⟩ d):=M.grown (bn _ _ _) (λe f=>X f.symm);have h:=a.ord;exact⟨a.inst.bl b O,b.cell a.res O,b.free a.fQ (aR _ _ a.res) O,a.aA.set c d g,λi j=>by rw[bs];exact a.bH i j,a.off.set _ _ (.inr J) (λe f=>f),⟨b.cell a.str.1 O,b.free a.str.2 a.str.lt O⟩,a.aO.trans b I2 (λe k f=>O),h,cg a.lt b.size⟩
def RS.bw(a:RS acW acZ ac0 ac1 ac2 ac3 ac4 f1 ac5 ac6 ac7 ac8 ada adb ac9 add acX)(b:B acX acX acY):RS acW acZ ac0 ac1 ac2 ac3 ac4 f1 ac5 ac6 ac7 ac8 ada adb ac9 add acY:=⟨a.inst.bw b,s b a.res,aY b (aR _ _ a.res) a.fQ,a.aA.bw b,λc d=>aY b a.lt (a.bH c d),a.off.bw b,⟨s b a.str.1,aY b a.str.lt a.str.2⟩,a.aO.then b,a.ord,cg a.lt b.size⟩
def RS.step{g:V->aP}{h:aV}{c:bp}(a:RS acW acZ ac0 ac1 ac2 ac3 ac4 f1 ac5 ac6 ac7 ac8 ada adb ac9 add acX)(k:r' acX ac1 g h c acY):∃d e f,RS acW acZ ac0 ac1 ac2 (λi=>i=6) ac4 f1 ac5 ac6 ac7 ac8 (g (S d e f)) adb (S d e f) h acY:=by obtain⟨_,d,e,f,l,m,n,b⟩:=k;have o:=a.ord;have r:=a.lt;exact⟨d,e,f,a.inst.bl b O,b.cell a.res O,b.free a.fQ (aR _ _ a.res) O,l,λi p=>by subst p;exact m,n.mono λq j=>(by rcases j with c|c<;>omega),⟨b.cell a.str.1 O,b.free a.str.2 a.str.lt O⟩,a.aO.trans b I2 (λq j c=>O),o,cg a.lt b.size⟩
end
def Uq(ac0 c:N)(h f g m adb:I)(ac7 ac8 bk:V)(j:a0)(v:ai)(k:aV)(acW:W)(a2:∀d,M (λa=>a=ac0) acW d->e5 d c ac7 ac8 j v)(a3:bq acW bk k)(bP:b8 c 320 k)(de:0<c)(bS:d' acW ac0 adb)(df:m<=1000000):ap ab 96 #[ao #[c,h,f,g,ac7,ac8],ao #[bk],aM (A ac0),m] acW (AR acW ac0 (ln j v h f g c m adb k)):=by
 have aK:=a2 acW (M.refl _ _);have bT:ln j v h f g c m adb k=if (L j)=0 then(k,adb)else(AQ j v h f g c m (dc adb%j.length) (dc (cy adb)%j.length) (dc (cy (cy adb))%c) k,cy (cy (cy adb))):=J;have⟨dg,cs⟩:=K (ln j v h f g c m adb k);rw[<-cs]at bT⊢;have⟨dh,ct,cv,bU,cw⟩:=bR acW c h f g ac7 ac8;have⟨cx,cz,bV,dY,bW⟩:=ec dh bk;have⟨l,cA,bm,di,aL,aP⟩:=gB cx (S Z 0 0);have bX:(cx:N)=(acW:N)+2:=O
 rw[bU]at bW;rw[bX]at aL aP;have bY:=q cv (q bV bm);have bZ:=s bm bW;have b2:=cw.bw (q bV bm);have cB:=Q (λd aC=>uo bk k d (a3.bw aC) bP.hL);have aQ:=aK.ok;have cC:=aK.dG;have cD:=aK.ln;obtain⟨w,x,y,rfl,_,_,_⟩:=aK.gr.open;obtain⟨z,e,G,rfl,cE,_,_⟩:=aK.cu.open;obtain⟨dZ,d0,d1,rfl,_,_,_⟩:=a3.open;have dj:=bS.lt;have⟨acZ,a4⟩:=K (acW:N);rw[<-a4]at cB bZ b2 aL aP dj;have b3:=Q (U a4 (bh ((l:N)=acZ+3)));have bo:=Q (U aL (U aP (bS.bw bY O)));have dk:=Q b2;have aD:=Q (U aQ (U cC (U cD cE)));have cF:B acZ acW l:=by rw[a4];exact bY
 obtain⟨aR,br,bs,bt,bu,bx⟩:=b2;have cG:=Q cF;have cH:=Q bP;change H _ at ct cz cA;clear cF bP;change H _ at bT a2;clear cs aK a3 cv bV bm di cw bY bW aL aP aQ cC cD cE bS;go_in;go_upto_region 1 with fail;rw[ct,cz,cA];try rw[bX]
 try rw[bU]
 rw[<-a4];clear bX bU a4;go_upto_region 1 with fail;go_cut [9] (λdl bA=>∃ac1 r ada p,dl=aM (A ⟨ac1,0,Z⟩)/\ax bA ac1 [c,h,f,g,S z e G,S w x y,S r ada p,(0:I),(0:I),(0:I),m]/\(∀i,aH bA ⟨ac1,i,Z⟩=F)/\aI bq (λa=>a<(l:N)\/a=ac1) bA (S r ada p) k/\B l l bA/\l<=ac1);case first=>
  refine bv [3,100,101,202,4,205,6] ?_;iterate 3 refine mS ?_
  refine aU λdm b5=>?_;go_simp;refine mF (cB _ (cG.trans ((an l).mono (Y b3.oo)))) λaS aT aW aX ⟨bB,R⟩=>?_;have b6:B l l aS:=q (an l) R;refine b5 _ _ (.mk b6) ?_;refine mS ?_;have⟨b7,dn,b9,b',dp,dq⟩:=Up aS [c,h,f,g,S z e G,S w x y,S aT aW aX,(0:I),(0:I),(0:I),m];have cI:=q b6 b9;refine aU λdm b5=>?_;go_simp;try rw[dn]
  refine b5 _ _ (.mk cI) ?_;clear aR br bs bt bu bx bZ;have dr:aI bq (λa=>a<(l:N)\/a=aS) b7 (S aT aW aX) k:=bB.step b9.size (λa cJ _=>b9.block a cJ) (λa cJ t=>by rcases t with t|t;exact t;omega);refine mS ?_;refine bc ?_;go_wp2;go_meet;exact⟨_,_,_,_,J,dp,dq,dr,cI,b6.size⟩
 obtain⟨ac1,aT,aW,aX,rfl,ca,cK,bB,R,bC⟩:=hcut;obtain⟨aS,rfl⟩:=K wc;clear aR br bs bt bu bx bZ;have cL:=b3.2;have cc:=b3.1;have ad:RS acW acZ ac0 ac1 l (λ_=>True) c h f g (S z e G) (S w x y) [c,h,f,g,S z e G,S w x y,S aT aW aX,(0:I),(0:I),(0:I),m] adb (S aT aW aX) k aS:=⟨dk.bw R,s R bo.1,aY R O bo.2.1,ca,λi _=>cK i,bB,⟨s R bo.2.2.1,aY R O bo.2.2.2⟩,(M.bw (I':=λa=>a=ac0) (show B acW acW l by rw[<-cc];exact cG)).then R,⟨O,O,bC,cc.symm⟩,ca.lt⟩
 have aE:=bT.oo;rw[aD.2.2.2]at aE;have cM:=Q (λ(acX:World) (ac3:Nat->Prop) (ada:List Value) (adc:Int) (r:Option Addr) (n p:Nat) (add:List (List (List (Int×Int)))) (b:RS acW acZ ac0 ac1 (l:Nat) ac3 (.int .i64 c) (.int .i64 h) (.int .i64 f) (.int .i64 g) (.slice z e G) (.slice w x y) ada adc (.slice r n p) add acX)=>(by have a:M (λu=>u=acZ+2) acX (acX.setCell ⟨acZ+2,0,none⟩ (.slice r n p)):=M.grown (bn _ _ _) (λu t=>X t.symm);have d3:=b.ord;exact⟨World.cell?_setCell_same' _ _ _ (by rw[b.res];rfl),_,_,_,rfl,b.off.set _ _ (.inl (by simp;omega)) (λu ds=>.inl O),⟨a.cell b.str.1 O,a.free b.str.2 b.str.lt O⟩,b.aO.trans a I2 (λu ds t=>O)⟩:(acX.setCell ⟨acZ+2,0,none⟩ (.slice r n p)).cell? ⟨acZ+2,0,none⟩=some (.slice r n p)/\AR acW ac0 (add,adc) (.returned (.agg #[.slice r n p])) (acX.setCell ⟨acZ+2,0,none⟩ (.slice r n p))));have dt:=Q ad;have du:=bC;clear ca cK bB R cc;have⟨aR,br,bs,bt,bu,bx⟩:=ad.inst;by_cases cN:e=0;·subst cN;rw[am J]at aE;have dv:=ad.aA 6 _ J;have aL:=ad.res;have aP:=ad.fQ;have⟨a5,aF⟩:=cM _ _ _ _ _ _ _ _ ad;rw[<-aE]at aF;change H _ at a5 aF;clear ad aE cL bC du;go_wp2_with fail;have cd:=a5.oo;exact b0 (v:=ao #[S aT aW aX]) (by simp[results,results96,go_sem,cd]) J aF
 rw[ak cN]at aE;have cO:(1:I)<=e:=O
 have d4:((e:I)==0)=F:=by simp;omega
 have cP:H ((e:I)<=9223372036854775807):=Q (Y aD.2.2);have dw:H ((c:I)<=9223372036854775807):=Q (Y aD.2.1);have dx:(1:I)<=c:=O
 have dy:=Q (p9 ac0 adb e aS ad.str cO cP);have dz:=Q (λd adc ce=>p9 ac0 adc e d ce cO cP);have dA:=Q (λd adc ce=>p9 ac0 adc c d ce dx dw);have cQ:=Q aE;have dB:=U (r7 adb) (U (r7 (cy adb)) (r7 (cy (cy adb))));have a1:H ((∃a:N,dc adb%e=(a:I)/\a<e)/\(∃a:N,dc (cy adb)%e=(a:I)/\a<e)/\(∃a:N,dc (cy (cy adb))%c=(a:I)/\a<c)):=Q (by
  have cf:∀(u:I) (n:N),0<n->∃a:N,u%(n:I)=a/\a<n:=λu n d5=>by have d6:=Int.emod_nonneg u (bh ((n:I)≠0));have d7:=Int.emod_lt_of_pos u (bh ((0:I)<n));exact⟨(u%(n:I)).toNat,O,O⟩
  exact⟨cf _ _ O,cf _ _ O,cf _ _ de⟩)
 clear ad aE cL bC dB;go_wp2_with fail;refine mU dy λb7 ⟨b',cR⟩=>?_;have⟨P,bE⟩:=K (dc adb%e);have⟨ac2,bF⟩:=K (dc (cy adb)%e);have⟨aG,cg⟩:=K (dc (cy (cy adb))%c);rw[<-bE,<-bF,<-cg]at a1 cQ;rw[<-bE];have bG:=dt.draw cR b';have dC:=bG.aA 7 _ J;have dD:=bG.bH 7 trivial;have bI:=bG.set 7 P D;have⟨dE,ch⟩:=K (aj b7 ⟨ac1,7,Z⟩ P);rw[<-ch]at bI;have a6:=Q (dz.oo dE _ bI.str);rw[<-bF]at a6;have dF:=Q bI;have dH:=Q (U bE (U bF cg));change H _ at ch;clear aR br bs bt bu bx bG bI b' cR bE bF cg;go_upto_region 6 with fail;rw[<-ch];clear dC dD;go_wp2_with fail;refine mU a6 λdI ⟨cS,cT⟩=>?_;have bJ:=dF.draw cT cS;have dJ:=bJ.aA 8 _ J;have dK:=bJ.bH 8 trivial;have a8:=bJ.set 8 ac2 D;have⟨dL,ci⟩:=K (aj dI ⟨ac1,8,Z⟩ ac2);rw[<-ci]at a8;have a6:=Q (dA.oo dL _ a8.str);rw[<-dH.2.2]at a6;have dM:=Q a8;have⟨aR,_,_,_,_,_⟩:=a8.inst;change H _ at ci;clear bJ a8 cS cT;go_upto_region 7 with fail;rw[<-ci];clear dJ dK;go_wp2_with fail;refine mU a6 λdN ⟨cU,cV⟩=>?_;have bK:=dM.draw cV cU;have dO:=bK.aA 9 _ J;have dP:=bK.bH 9 trivial;have bL:=bK.set 9 aG D;have⟨aJ,cj⟩:=K (aj dN ⟨ac1,9,Z⟩ aG);rw[<-cj]at bL;obtain⟨a9,cW,cX,dQ,o⟩:∃a9,aJ.alloc (az #[.func (.func 135) #[aM (A ⟨ac1,0,Z⟩)] #[],.func (.func 136) #[aM (A ⟨ac1,0,Z⟩)] #[],.func (.func 137) #[aM (A ⟨ac1,0,Z⟩)] #[]] 1)=a9/\B aJ aJ a9/\a9.heap.size=(aJ:N)+1/\ax a9 aJ [.func (.func 135) #[aM (A ⟨ac1,0,Z⟩)] #[],.func (.func 136) #[aM (A ⟨ac1,0,Z⟩)] #[],.func (.func 137) #[aM (A ⟨ac1,0,Z⟩)] #[]]:=⟨_,J,aN _ _,D,ax.new aJ _ _⟩
 have cY:=bL.bw cX;have⟨cZ,bM⟩:=K (aJ:N);rw[<-bM]at o;have d8:ac1<cZ:=by rw[bM];exact bL.lt
 have ck:=Q (U cY o);change H _ at cW;change H _ at cj bM;clear bK bL cY cU cV cX dQ o aR;go_upto_region 8 with fail;rw[<-cj];clear dO dP;go_wp2_with fail;rw[cW];try rw[<-bM]
 have⟨ba,bN⟩:=K ((hx j v h f g c [P.toNat] k).2);have⟨P2,bO⟩:=K ((nz j v h f g c P ac2 ba).2);have⟨c0,cl⟩:=K ((lf v f g aG.toNat m.toNat P2).2);have cm:=aD.2.2.2;have aQ:=aD.1;have cn:P.toNat<L j:=by have⟨a,t,a3⟩:=a1.1;omega
 have c1:ac2.toNat<L j:=by have⟨a,t,a3⟩:=a1.2.1;omega
 have co:b8 c 256 ba:=by rw[bN];exact uF (λp c2=>by simp at c2;subst c2;exact aQ _ cn) aD.2.1 (X cH.oo)
 have c3:b8 c 128 P2:=by rw[bO];exact AS aQ aD.2.1 co cn c1
 have c4:dg=(c0,cy (cy (cy adb))):=by rw[cQ,cl,bO,bN];rfl
 have cp:∃a:N,P=(a:I)/\a<L j:=by rw[cm];exact a1.1
 have c5:∃a:N,ac2=(a:I)/\a<L j:=by rw[cm];exact a1.2.1
 have c6:=Q (λ(d:W) (ac9:V) (aC:M (λa=>a=ac0) acW d) (bb:bq d ac9 k) be bf=>Um ac1 c P ac2 aG m h f g (S z e G) (S w x y) ac9 j v k d (a2 d aC) bb (cH.mono O) cp be bf);have c7:=Q (λ(d:W) (ac9:V) (aC:M (λa=>a=ac0) acW d) (bb:bq d ac9 ba) be bf=>Un ac1 c P ac2 aG m h f g (S z e G) (S w x y) ac9 j v ba d (a2 d aC) bb (co.mono O) cp c5 be bf);have c8:=Q (λ(d:W) (ac9:V) (aC:M (λa=>a=ac0) acW d) (bb:bq d ac9 P2) be bf=>Uo ac1 c P ac2 aG m h f g (S z e G) (S w x y) ac9 j v P2 d (a2 d aC) bb c3 a1.2.2 df be bf);rw[<-bN]at c6;rw[<-bO]at c7;rw[<-cl]at c8;change H _ at c4;clear bN bO cl cm aQ cn c1 co c3 cp c5;go_wp2;go_loopw [12,55] (λu cq wr=>∃(i:N) (c9:V) (r:bz) (ada p:N) (add:aV),c9=u/\cq=(i:I)/\i<=3/\RS acW acZ ac0 ac1 l (λi=>i=6) c h f g (S z e G) (S w x y) [c,h,f,g,S z e G,S w x y,S r ada p,P,ac2,aG,m] (cy (cy (cy adb))) (S r ada p) add wr/\ax wr cZ [.func (.func 135) #[aM (A ⟨ac1,0,Z⟩)] #[],.func (.func 136) #[aM (A ⟨ac1,0,Z⟩)] #[],.func (.func 137) #[aM (A ⟨ac1,0,Z⟩)] #[]]/\add=if i=0 then k else if i=1 then ba else if i=2 then P2 else c0) (λ_ cq _=>3-(aw cq).toNat);exact⟨0,_,_,_,_,_,J,J,O,{ck.1 with bH:=λi _=>ck.1.bH i trivial},ck.2,J⟩;obtain⟨i,c9,dR,dS,dT,add,rfl,rfl,ea,b,o,ae⟩:=hrel;obtain⟨cr,rfl⟩:=K wr;by_cases dU:i=3;·subst dU;simp at ae;subst ae;have dv:=b.aA 6 _ J;have aL:=b.res;have aP:=b.fQ;have⟨a5,aF⟩:=cM _ _ _ _ _ _ _ _ b;rw[<-c4]at aF;change H _ at a5 aF;clear b o;go_wp2_with fail;have cd:=a5.oo;exact b0 (v:=ao #[S dR dS dT]) (by simp[results,results96,go_sem,cd]) J aF
 by_cases dV:i=0
 ·subst dV;simp at ae;subst ae;have ac4:=o 0 _ J;have bg:=Q (c6.oo cr _ b.aO b.off.now b.aA (b.bH 6 J));have ag:=Q (U b o);clear b o;go_wp2_with fail;refine bg.mono ?_;rintro t c' ah;have⟨da,db,dd,al⟩:=ag.1.step ah;obtain⟨⟨bD,rfl⟩,bi⟩:=ah;obtain⟨_,_,_,_,_,_,ar⟩:=bi;have av:=ag.2.bl ar O;have ay:=Q (U al av);clear al av ar ac4;go_wp2;go_roundw;case rel=>exact⟨1,_,_,_,_,_,J,by go_num,O,ay.1,ay.2,D⟩
  simp[aw]
 by_cases dW:i=1
 ·subst dW;simp at ae;subst ae;have ac4:=o 1 _ J;have bg:=Q (c7.oo cr _ b.aO b.off.now b.aA (b.bH 6 J));have ag:=Q (U b o);clear b o;go_wp2_with fail;refine bg.mono ?_;rintro t c' ah;have⟨da,db,dd,al⟩:=ag.1.step ah;obtain⟨⟨bD,rfl⟩,bi⟩:=ah;obtain⟨_,_,_,_,_,_,ar⟩:=bi;have av:=ag.2.bl ar O;have ay:=Q (U al av);clear al av ar ac4;go_wp2;go_roundw;case rel=>exact⟨2,_,_,_,_,_,J,by go_num,O,ay.1,ay.2,D⟩
  simp[aw]
 have dX:i=2:=O
 subst dX;simp at ae;subst ae;have ac4:=o 2 _ J;have bg:=Q (c8.oo cr _ b.aO b.off.now b.aA (b.bH 6 J));have ag:=Q (U b o);clear b o;go_wp2_with fail;refine bg.mono ?_;rintro t c' ah;have⟨da,db,dd,al⟩:=ag.1.step ah;obtain⟨⟨bD,rfl⟩,bi⟩:=ah;obtain⟨_,_,_,_,_,_,ar⟩:=bi;have av:=ag.2.bl ar O;have ay:=Q (U al av);clear al av ar ac4;go_wp2;go_roundw;case rel=>exact⟨3,_,_,_,_,_,J,by go_num,O,ay.1,ay.2,D⟩
 simp[aw]
end
def nM(a b c d:I)(e f g:V)(h:I)(i j k:V):aP:=[a,b,c,d,e,f,g,h,i,j,k]
def nA(a:a0)(b:ai)(c d e:I)(f:ar)(g:I)(h:N):ar:=ny (L a) b c d e (g6 f h (L a)) g.toNat
def qa(a:a0)(b:ai)(c d e:I)(f:ar)(g:I)(h:N):I:=r8 (L a) b c d e (g6 f h (L a)) g.toNat
structure Zac where
 n:I
 i1:I
 i2:I
 i3:I
 cv:V
 dv:V
 vv:V
 gU:I
 pv:V
 fv:V
 oK:V
def Zac.adZ(a:Zac):aP:=nM a.n a.i1 a.i2 a.i3 a.cv a.dv a.vv a.gU a.pv a.fv a.oK
structure eL(e b:N)(a:Zac)(g:aV)(f:ad)(h:aP)(c:W):Prop where
 aA:ax c e a.adZ
 bH:∀i,aH c ⟨e,i,Z⟩=F
 day:cc 95 bb (λd=>d<b\/a.fv.ownBlock=A d) b c a.pv h g
 iX:c.ownsRow b 28 1 a.fv (L f) (f.map (aa ac))
 jC:∀d,a.pv.ownBlock=A d->a.fv.ownBlock≠A d
 lt:e<b
 size:b<=(c:N)
def eL.aO{IX:N}{i:Zac}{j:aV}{k:ad}{l:aP}{I':aD}(c:eL a IX i j k l w)(d:M I' w x)(f:∀b,b<(w:N)->I' b->b<IX/\b≠a):eL a IX i j k l x:=by have q:=c.lt;have o:=c.size;refine⟨c.aA.bl d λe=>(f a O e).2 J,λp=>d.free (c.bH p) O λe=>(f a O e).2 J,c.day.aO d λb d e=>⟨.inl (f b d e).1,λh=>?_⟩,c3 c.iX d λb h e=>?_,c.jC,c.lt,a1 o d.size⟩;have:=(bI c.day.1 b h).1;have:=(f b d e).1;omega;have:=bI c.iX b h;have:=(f b this.2 e).1;omega
def eL.bw{c:Zac}{d:aV}{e:ad}{f:aP}{Kx:W}(h:eL a b c d e f w)(k:B w w Kx):eL a b c d e f Kx:=h.aO (M.bw (I':=λ_=>False) k) λ_ _ l=>l.elim
def AT(i:w.grownBy x (af u))(l:∀d,af u=A d->b<=d):M (λd=>d=a\/b<=d) w (aj x ⟨a,c,Z⟩ v):=(M.grown (I':=λd=>b<=d) i λd e=>l d e).trans (ca x a c v) (λ_ _ e=>.inr e) (λ_ _ e=>.inl e)
def eL.Ww{h:Zac}{k:aV}{y:ar}{z:ad}{q:aP}(g:eL a b h k z q w)(P:aI bb (λe=>(e<b\/h.fv.ownBlock=A e)\/h.pv.ownBlock=A e) w u y)(Q:x.ownsRow b 95 1 (S (A c) (L k+1) d) (L k+1) (q++[u]))(G:w.grownBy x h.pv.ownBlock)(s:h.pv.ownBlock=A c\/c=w):eL a b {h with pv:=S (A c) (L k+1) d} (k++[y]) z (q++[u]) (aj x ⟨a,8,Z⟩ (S (A c) (L k+1) d)):=by
 have R:=g.lt;have U:=g.size;have p:M (λe=>h.pv.ownBlock=A e) w x:=M.grown G λe f=>f;have t:∀e,h.pv.ownBlock=A e->b<=e:=λe f=>(bI g.day.1 e f).1;have H:∀e,h.fv.ownBlock=A e->b<=e/\e<(w:N):=λe f=>bI g.iX e f;have ah:b<=c:=by rcases s with f|f;exact t c f;omega
 have v:=ca x a 8 (S (A c) (L k+1) d);have X:=g.day.push P Q G s;refine⟨(g.aA.bl p λf=>Y (t a f)).set 8 _ (by simp[Zac.adZ,nM]),λae=>?_,X.aO v λe _ f=>⟨.inl O,λj=>?_⟩,c3 (c3 g.iX p λe j f=>g.jC e f j) v λe j f=>?_,λe j f=>?_,R,a1 U (a1 p.size v.size)⟩;·simpa[go_sem]using p.free (g.bH ae) O λf=>Y (t a f)
 simp only[af,a2]at j;omega;have:=(H e j).1;omega;simp only[af,a2]at j;subst j;rcases s with K|K;exact g.jC c K f;have:=(H c f).2;omega
def eL.Wx{i f c l:Nat}{g:Zac}{q:List (List (List (Int×Int)))}{u:Int}{e:List Int}{r:List Value}{m j:World}(d:eL i f g q e r m)(w:j.ownsRow f 28 1 (.slice (some ⟨c,0,none⟩) (e.length+1) l) (e.length+1) (e.map (.int .i64)++[.int .i64 u]))(x:m.grownBy j g.fv.ownBlock)(s:g.fv.ownBlock=some c\/c=m.heap.size):eL i f {g with fv:=.slice (some ⟨c,0,none⟩) (e.length+1) l} q (e++[u]) r (j.setCell ⟨i,9,none⟩ (.slice (some ⟨c,0,none⟩) (e.length+1) l)):=by
 have p:=d.lt;have y:=d.size;have k:M (λb=>g.fv.ownBlock=some b) m j:=M.grown x λb a=>a;have n:∀b,g.fv.ownBlock=some b->f<=b:=λb a=>(World.ownsRow.lt d.iX b a).1;have v:∀b,g.pv.ownBlock=some b->f<=b/\b<m.heap.size:=λb a=>World.ownsRow.lt d.day.1 b a;have O:f<=c:=by rcases s with a|a;exact n c a;omega
 have t:=ca j i 9 (.slice (some ⟨c,0,none⟩) (e.length+1) l);have z:cc 95 bb (λb=>b<f\/(Value.slice (some ⟨c,0,none⟩) (e.length+1) l).ownBlock=some b) f j g.pv r q:=
  ⟨c3 d.day.1 k λb h a=>d.jC b h a,λD G=>(d.day.2 D G).step k.size (λb p n=>k.block b p λa=>n (.inl (.inr a))) λb p a=>by rcases a with(a|a)|a;exact .inl (.inl a);simp only[Value.ownBlock,Option.some.injEq]at a;subst a;rcases s with o|o;exact .inl (.inr o);omega;exact .inr a⟩
 refine⟨(d.aA.bl k λa=>by have:=n i a;omega).set 9 _ (by simp[Zac.adZ,nM]),λH=>?_,z.aO t λb _ a=>⟨.inl (by omega),λh=>?_⟩,?_,λb h a=>?_,p,Nat.le_trans y (Nat.le_trans k.size t.size)⟩;·simpa[go_sem]using k.free (d.bH H) (by omega) λa=>by have:=n i a;omega
 have:=(v b h).1;omega;rw[List.length_append,List.length_singleton,List.map_append];exact c3 w t λb h a=>by simp only[Value.ownBlock,Option.some.injEq]at h;omega
 simp only[Value.ownBlock,Option.some.injEq]at a;subst a;rcases s with o|o;exact d.jC c h o;have:=(v c h).2;omega
section
attribute [local go_sem] Oper.semAt_some
def Ur(i P aK e:N)(j:Zac)(aW:aV)(a8:ad)(ca:aP)(v:a0)(aD:ai)(y:ar)(b:W)(ag:e5 b aK j.cv j.dv v aD)(cc:j.n=(aK:I))(cd:L v<=2000)(bm:bb b j.vv y)(cN:L y=L v)(ce:∀cO,(ah y cO).length<=64)(cf:j.gU<=1000000)(a9:eL i P j aW a8 ca b)(ch:∃w G x,j.oK=S w G x)(dj:L aW<=1000)(hF:L a8<=1000):ap ab 168 #[aM (A i),(e:I)] b (λc ci=>c=aq (aZ #[])/\∃bn bo cQ,eL i P {j with pv:=bn,fv:=bo} (aW++[nA v aD j.i1 j.i2 j.i3 y j.gU e]) (a8++[qa v aD j.i1 j.i2 j.i3 y j.gU e]) cQ ci/\M (λe=>e=i\/P<=e) b ci):=by
 have⟨dk,dl,dm,cj,cR,_⟩:=a9.day.form;have ck:∃w G x,j.fv=S w G x:=by rcases bW a9.iX with⟨c,_⟩|⟨_,_,c,_⟩;exact⟨_,_,_,c⟩;exact⟨_,_,_,c⟩
 have hp:∃w G x,j.pv=S w G x:=⟨_,_,_,cj⟩
 clear cj cR;obtain⟨dn,ak,al,am,bK,ba,bL,aO,bn,bo,cS⟩:=j;dsimp only at ag cc bm cf ch hp ck⊢;subst cc;have R:ax b i (nM aK ak al am bK ba bL aO bn bo cS):=a9.aA;have cl:=Q (λaQ bM=>(by have⟨w,x,c⟩:=ag.cu.shape;have⟨cm,cn,co,cT,_⟩:=ag.gr.open;rw[c];exact T' aK ak al am w (L v) x ba bL y e aQ cd (bm.bw bM) cN ce ⟨cm,cn,co,cT⟩:ap ab 197 #[ao #[aK,ak,al,am,bK,ba],bL,(e:I)] aQ (AJ aQ (g6 y e (L v)))));have cp:(g6 y e (L v)).length<=1000000:=by have aX:=uX y e 64 ce (L v);have dq:L v*64<=2000*64:=Nat.mul_le_mul_right _ cd;omega
 have bq:=Q (λaQ cq bM cU=>(by have⟨w,x,c⟩:=ag.cu.shape;rw[c];exact Ul aK ak al am aO w (L v) x ba cq aD (g6 y e (L v)) aQ ag.ln (ag.gr.bw bM) cU cp cf:ap ab 196 #[ao #[aK,ak,al,am,bK,ba],cq,aO] aQ (r9 aQ (nA v aD ak al am y aO e) (qa v aD ak al am y aO e))));have⟨be,bN⟩:=K (nA v aD ak al am y aO e);have⟨br,bO⟩:=K (qa v aD ak al am y aO e);rw[<-bN,<-bO]at bq;rw[<-bN,<-bO];obtain⟨cm,cn,co,rfl,_,_,_⟩:=ag.gr.open;obtain⟨dr,ds,dt,rfl,_,_,_⟩:=ag.cu.open;obtain⟨du,dw,dx,rfl,_,_,_⟩:=bm.open;obtain⟨bf,bg,bh,rfl⟩:=hp;obtain⟨a1,a2,a3,rfl⟩:=ck;have aR:=Q a9;obtain⟨dy,dz,dA,rfl⟩:=ch;have bs:=R 0 _ J;have bt:=R 1 _ J;have bu:=R 2 _ J;have bx:=R 3 _ J;have bz:=R 4 _ J;have bA:=R 5 _ J;have bB:=R 6 _ J;have bC:=R 7 _ J;have cr:=R 8 _ J;have cs:=R 9 _ J;change H _ at R;clear ag bm bN bO cp a9;go_in;go_upto_region 0 with fail;go_cut [4,5] (λcV c bR=>∃bD w G x,cV=aM (A ⟨bD,0,Z⟩)/\c=br/\C bR ⟨bD,0,Z⟩=A (S w G x)/\aI bb (λg=>g<(b:N)) bR (S w G x) be/\B b b bR/\b<=bD);case first=>
  clear cr cs;refine i' ((.p 0 (.p 1 (.p 2 (.p 4 (.p 5 (.p 6 (.p 8 (.p 9 (.p 10 (.p 12 (.p 14 (.p 15 (.p 16 (.r 3 (.r 7 (.r 11 (.r 17 (.f 13 (.f 18 (.p 19 (.p 20 (.p 21 (.a 22 (.z 23 (.p 24 .d)))))) 22 (.a 18 (.p 19 (.p 20 (.p 21 (.z 23 (.p 24 .d))))))) 22 (.a 13 (.a 18 (.p 19 (.p 20 (.p 21 (.z 23 (.p 24 .d)))))))))))))))))))))))))) (dp b) aT aT (.mk nH) ?_;iterate 17 refine mS ?_
  refine gN (λay k=>?_) (λay k=>?_)
  ·go_simp;refine mF (cl _ (an _)) λh cW cX cY ⟨bi,ae⟩=>?_;have a4:B b b h:=q (an b) ae;refine k _ _ (.mk a4) ?_;refine gN (λay k=>?_) (λay k=>?_)
   ·go_simp;refine mF (bq h _ a4 bi.di) λl o t u ⟨cZ,aF⟩=>?_;have D:=q a4 aF;refine k _ _ (.mk D) ?_;iterate 3 refine mS ?_
    have⟨m,c0,aC,dB,Cm,CC⟩:=cP l (S Z 0 0);have aG:=q D aC;refine aU λay k=>?_;go_simp;try rw[c0]
    refine k _ _ (.mk aG) ?_;clear bs bt bu bx bz bA bB bC;have dC:=a4.size;have Cr:(aj m l (S o t u)).cell? l=A (S o t u)/\aI bb (λg=>g<(b:N)) (aj m l (S o t u)) (S o t u) be/\B b b (aj m l (S o t u)):=⟨bP _ _ _ kz,(cZ.bw (ie (Kl:=undef) (Kz:=b) aC (aL _))).mono λe bE=>O,ie (Kl:=undef) (Kz:=b) aG D.size⟩
    iterate 2 refine mS ?_
    refine bc ?_;clear Cm CC;go_wp2;go_meet;exact⟨_,_,_,_,J,J,Cr.1,Cr.2.1,Cr.2.2,D.size⟩
   have⟨l,c1,aF,dD,Cm,CC⟩:=cP h (S Z 0 0);have D:=q a4 aF;go_simp;try rw[c1]
   refine k _ _ (.mk (by first|exact D|exact q D (an _))) ?_;refine aU λay k=>?_;go_simp;refine mF (bq _ _ (by first|exact D|exact q D (an _)) (by first|exact(bi.bw aF).di|exact((bi.bw aF).bw (an _)).di)) λm o t u ⟨bT,aC⟩=>?_;have bU:B l l m:=by first|exact aC|exact q (an l) aC
   have aG:=q D bU;refine k _ _ (.mk aG) ?_;clear bs bt bu bx bz bA bB bC;iterate 3 refine mS ?_
   have Cm:=s bU Cm;have CC:=aY bU O CC;have dE:=a4.size;have a5:(h:N)<l:=O
   have Cr:(aj m h (S o t u)).cell? h=A (S o t u)/\aI bb (λg=>g<(b:N)) (aj m h (S o t u)) (S o t u) be/\B b b (aj m h (S o t u)):=⟨bP _ _ _ kz,bT.set _ _ a5 (λe bE=>by show e<l;have:e<b:=bE;omega),ie (Kl:=undef) (Kz:=b) aG O⟩
   exact wg
  have⟨h,c2,ae,ct,Cm,CC⟩:=cP b (S Z 0 0);go_simp;try rw[c2]
  refine k _ _ (.mk (by first|exact ae|exact q ae (an _))) ?_;refine aU λay k=>?_;go_simp;refine mF (cl _ (by first|exact ae|exact q ae (an _))) λl cW cX cY ⟨bi,aF⟩=>?_;have bF:B h h l:=by first|exact aF|exact q (an h) aF
  have D:=q ae bF;refine k _ _ (.mk D) ?_;refine aU λay k=>?_;go_simp;refine mF (bq l _ D bi.di) λm o t u ⟨bT,aC⟩=>?_;have aG:=q D aC;refine k _ _ (.mk aG) ?_;clear bs bt bu bx bz bA bB bC;iterate 3 refine mS ?_
  have dF:=bF.size;have Cm:=s aC (s bF Cm);have CC:=aY aC O (aY bF O CC);have a5:(b:N)<l:=O
  have Cr:(aj m b (S o t u)).cell? b=A (S o t u)/\aI bb (λg=>g<(b:N)) (aj m b (S o t u)) (S o t u) be/\B b b (aj m b (S o t u)):=⟨bP _ _ _ kz,bT.set _ _ a5 (λe bE=>by show e<l;have:e<b:=bE;omega),ie (Kl:=undef) (Kz:=b) aG O⟩
  exact wg
 obtain⟨bD,w,G,x,rfl,rfl,c3,cw,bV,c4⟩:=hcut;obtain⟨bG,rfl⟩:=K wc;have bX:=aR.bw bV;have⟨bY,bZ⟩:=K bG.drew;have cx:B bG bG bY:=bZ▸an bG;have⟨h,cy,ae,ct,cz,_⟩:=cP bY (S w G x);have bk:=q cx ae;have a6:=bX.bw bk;have cA:=cw.bw bk;have cB:∀g,(S a1 a2 a3).ownBlock=A g->g<(b:N):=λg c=>(bI aR.iX g c).2;have b0:∀g,(S bf bg bh).ownBlock=A g->P<=g/\g<(b:N):=λg c=>bI aR.day.1 g c;have c5:=aR.size;have cC:aI bb (λg=>(g<P\/(S a1 a2 a3).ownBlock=A g)\/(S bf bg bh).ownBlock=A g) h (S w G x) be:=cA.mono λg c6=>by rcases c6 with(c|c)|c;show g<b;omega;exact cB g c;exact(b0 g c).2
 have c7:=aR.lt;have b2:(S bf bg bh).ownBlock≠A i:=λc=>Y ((b0 i c).1)
 have b3:(S a1 a2 a3).ownBlock≠A i:=λc=>Y ((bI aR.iX i c).1)
 have c8:=bX.aA 8 _ J;have b5:C h ⟨i,8,Z⟩=A (S bf bg bh):=a6.aA 8 _ J;have b6:=a6.bH 8;have b7:=Q a6;have c9:=Q (d2 cz);have c':=Q (show P<=(h:N) from a6.size);have da:=Q (show i<h from cg aR.lt a6.size);have db:=Q (show M (λe=>e=i\/P<=e) b h from M.bw (q bV bk));change H _ at cy b2 b3;change H _ at bk cC;clear bs bt bu bx bz bA bB bC cr cs bV cx ae bX a6 cw cA cB b0 c5 c7 cz c4 ct;go_upto_region 1 with fail;refine bv [0,1,2,3,4,105,106,207,308,9,10,11,312] ?_;rw[<-bZ];clear bZ;iterate 7 refine mS ?_
 refine aU λay k=>?_;go_simp;try rw[cy]
 refine k _ _ (.mk bk) ?_;clear c8 c3;refine b4 λay k=>?_;refine iy (.tmp 33) (.tmp 35) 48 95 _ 1 24 underlying48 s3 J av av J h P (S bf bg bh) (L aW) ca [S w G x] bY J J c9 J eP b7.day.1 O c' ?_;intro g2 cD l aX X bl a5;have cE:=b7.Ww cC aX X bl;have cF:M (λe=>e=i\/P<=e) h (aj l ⟨i,8,Z⟩ (S (A g2) (L aW+1) cD)):=AT X λg c=>(bI b7.day.1 g c).1;have b5:=X.cell b5 (λc=>b2 c.symm);have b6:=eS X da (λc=>b2 c.symm) b6;have bJ:=Q (U cE (db.oo.tr cF));refine k _ _ ?_;clear aX X bl cE cF;iterate 4 refine mS ?_
 refine bc ?_;clear b5 b6;have⟨m,cG⟩:=K (aj l ⟨i,8,Z⟩ (S (A g2) (L aW+1) cD));rw[<-cG]at bJ⊢;clear cG;obtain⟨aJ,b8,b9,cH⟩:∃aJ,m.alloc (az #[br] 28)=aJ/\B m m aJ/\C aJ m=A (aa ac br):=⟨_,J,aN _ _,aE⟩
 have aS:=bJ.1.bw b9;have dc:=Q (bJ.oo.2.then b9);have dG:C m ⟨i,9,Z⟩=A (S a1 a2 a3):=bJ.1.aA 9 _ J;have cI:C aJ ⟨i,9,Z⟩=A (S a1 a2 a3):=aS.aA 9 _ J;have cJ:=aS.bH 9;have dd:=Q (show i<aJ.heap.size from cg aS.lt aS.size);have de:=aS.size;have df:=Q (d2 cH);have b':=Q aS;replace b8:=Q b8;clear b9 cH aS;go_wp2_with (at_builtin;rw[b8];refine fr J _ _ 201 28 (0:I) 1 8 underlying201 yr J av av J aJ P (S a1 a2 a3) (L a8) _ [br] m J J df J eP b'.iX O de ?_);intro g3 dg dh aX X _ bl _ a5;have cK:=b'.Wx aX X bl;have cL:M (λe=>e=i\/P<=e) aJ (aj dh ⟨i,9,Z⟩ (S (A g3) (L a8+1) dg)):=AT X λg c=>(bI b'.iX g c).1;have cI:=X.cell cI (λc=>b3 c.symm);have cJ:=eS X dd (λc=>b3 c.symm) cJ;have cM:=Q (U cK (dc.oo.tr cL));clear cK cL aX X bl a5;go_wp2;go_end0;exact⟨J,⟨_,_,_,cM.1⟩,cM.2⟩
end
def uY(f b d:N)(c:N->W->Prop)(m:d=168\/d=128\/d=133)(v:b<=1000)(n:∀a e,c a e->C e f=A (aa ac b))(o:∀a e,a<b->c a e->ap ab d #[aM (A f),(a:I)] e λi q=>i=aq (aZ #[])/\c (a+1) q)(j:W)(k:c 0 j):ap ab 127 #[aM (A f),.func (.func d) #[aM (A f)] #[]] j (λi r=>i=aq (aZ #[])/\c b r):=by
 have p:=n 0 j k;change H _ at o n k m;go_in;go_wp2;go_loopw [10] (λl wr=>∃(a:N),l=(a:I)/\a<=b/\c a wr) (λl _=>b-(aw l).toNat);exact⟨0,J,a3 _,k⟩;obtain⟨a,rfl,w,g⟩:=hrel;obtain⟨s,rfl⟩:=K wr;by_cases Ch:a<b
 ·have x:=aJ a;have y:(a:I)<b:=by omega
  have t:=Q (o.oo a s Ch g);clear g p;rcases m.oo with rfl|rfl|rfl;all_goals
   go_wp2_with fail;refine mU t λz h=>?_;change H _ at h;go_wp2;go_roundw;case rel=>exact⟨a+1,aK,O,h⟩
   exact bY
 have u:a=b:=O
 subst u;have h:=Q g;clear g p;go_wp2;go_end0;exact⟨J,h⟩
def eL.ints{c:Zac}{e:aV}{d:ad}{f:aP}(g:eL a b c e d f w):aX w c.fv d:=(aX.own g.iX).1
def hD(b:N)(c:a0)(d:ai)(a:Zac)(e:ar):aV:=(List.range b).map (nA c d a.i1 a.i2 a.i3 e a.gU)
def il(b:N)(c:a0)(d:ai)(a:Zac)(e:ar):ad:=(List.range b).map (qa c d a.i1 a.i2 a.i3 e a.gU)
structure oL(e d:N)(c:Zac)(b:a0)(f:ai)(g:W):Prop where
 cu:aI bG (λa=>a=e) g c.cv b
 gr:aI bt (λa=>a=e) g c.dv f
 l2:L b<=2000
 ok:∀a,a<L b->dR d (aQ b a)
 dG:d<=64
 tb:np b
 db:p2 f
 hn:c.n=(d:I)
 gU:c.gU<=1000000
def oL.aO{h:Zac}{i:a0}{j:ai}(c:oL a b h i j w)(e:M (λd=>d=a) w x):oL a b h i j x:=⟨c.cu.step e.size (λd f g=>e.block d f g) I2,c.gr.step e.size (λd f g=>e.block d f g) I2,c.l2,c.ok,c.dG,c.tb,c.db,c.hn,c.gU⟩
def oL.ino{d:Zac}{e:a0}{f:ai}(c:oL a b d e f w):e5 w b d.cv d.dv e f:=⟨c.cu.now,a1 c.l2 av,c.ok,c.dG,c.tb,c.gr.now,c.db⟩
def AU{e:W}(h:M (λc=>c=a) w x)(k:(w:N)<=b)(c:M (λc=>c=a\/b<=c) x e):M (λc=>c=a) w e:=h.trans c I2 (λl m d=>by rcases d with d|d;exact d;omega)
def AV(a:N)(h:Zac)(b:V)(i:aV)(c:ad)(d:W)(j:bp)(e:W):Prop:=j=aq (eK c)/\(∃f g k,eL a d {h with vv:=b,pv:=f,fv:=g} i c k e)/\M (λl=>l=a) d e
def Us(b k:N)(a:Zac)(c:V)(j:a0)(l:ai)(h:ar)(e:W)(m:oL b k a j l e)(o:ax e b a.adZ)(t:∀w,aH e ⟨b,w,Z⟩=F)(x:aI bb (λd=>d=b) e c h)(P:L h=L j)(R:∀U,(ah h U).length<=64)(X:∃ad ae ag,a.oK=S ad ae ag):ap ab 130 #[aM (A b),c] e (AV b a c (hD k j l a h) (il k j l a h) e):=by
 have ak:=aR _ _ (o 0 _ J);have⟨u,v⟩:=K (((aj e ⟨b,6,Z⟩ c).setCell ⟨b,8,Z⟩ (S Z 0 0)).setCell ⟨b,9,Z⟩ (S Z 0 0));have al:ax u b {a with vv:=c,pv:=S Z 0 0,fv:=S Z 0 0}.adZ:=by have:=((o.set 6 c (by simp[Zac.adZ,nM])).set 8 (S Z 0 0) (by simp[Zac.adZ,nM])).set 9 (S Z 0 0) (by simp[Zac.adZ,nM]);rw[<-v]at this;simpa[Zac.adZ,nM]using this
 have p:=v▸((ca e b 6 _).tr (ca _ b 8 _)).tr (ca _ b 9 _);have aY:=m.aO p;have a1:=x.step p.size (λd o y=>p.block d o y) I2;have am:eL b e {a with vv:=c,pv:=S Z 0 0,fv:=S Z 0 0} [] [] [] u:=⟨al,λw=>by rw[v];simpa[go_sem]using t w,cc.nil _ _ _ _ _,World.ownsRow_nil _ _ _ _,λd f=>f',ak,p.size⟩
 have an:=Q (uY b k 168 (λd r=>∃i g s,eL b e {a with vv:=c,pv:=i,fv:=g} ((List.range d).map (nA j l a.i1 a.i2 a.i3 h a.gU)) ((List.range d).map (qa j l a.i1 a.i2 a.i3 h a.gU)) s r/\M (λd=>d=b\/e<=d) u r) (.inl J) (Y m.dG) (λd r q=>by obtain⟨i,g,s,q,_⟩:=q;have:=q.aA 0 _ J;rwa [show({a with vv:=c,pv:=i,fv:=g}:Zac).n=(k:I)from m.hn]at this) (λd r a2 q=>by obtain⟨i,g,s,q,G⟩:=q;have z:=AU p (aL _) G;have av:=m.dG;refine mU (Ur b e k d {a with vv:=c,pv:=i,fv:=g} _ _ s j l h r (m.aO z).ino m.hn m.l2 (x.step z.size (λd o y=>z.block d o y) I2).now P R m.gU q X aF aF) λa3 ⟨ay,aC,aD,aE,aG⟩=>?_;refine⟨J,ay,aC,aD,?_,G.tr aG⟩;rw[fu,ck,ck];exact aE) u ⟨_,_,_,am,M.refl _ _⟩);have a4:=o 6 _ J;have a5:=o 8 _ J;have a6:=o 9 _ J;have a8:=t 6;have a9:=t 8;have ba:=t 9;have aJ:=Q v.symm;have av:=m.dG;obtain⟨aK,aN,aP,rfl,_⟩:=x.now.open;change H _ at p;go_in;go_wp2_with fail;rw[aJ];refine mU an λaQ ⟨i,g,s,D,aS⟩=>?_;have aT:=Q (Ua b g _ aQ (D.aA 9 _ J) D.ints aF);have aU:=Q D;have aV:=Q (AU p (aL _) aS);go_wp2_with fail;refine mU aT λaW O=>?_;have aX:=Q (show AV b a (S aK aN aP) (hD k j l a h) (il k j l a h) e (aq (eK (il k j l a h))) aW from⟨J,⟨_,_,_,aU.oo.bw O⟩,aV.oo.then O⟩);go_wp2;go_ret;exact aX
structure cN(f g:N)(b:aP)(c:ai)(e:W):Prop where
 len:L b=L c
 aA:ax e f b
 bH:∀d,aH e ⟨f,d,Z⟩=F
 lt:f<g
 size:g<=(e:N)
 row:∀a,a<L c->ay e g (b.getD a undef) (bo c a)
 jC:∀a d,a<L c->d<L c->a≠d->∀h,(b.getD a undef).ownBlock=A h->(b.getD d undef).ownBlock≠A h
def cN.aO{IX:N}{h:aP}{i:ai}{I':aD}(b:cN a IX h i w)(f:M I' w x)(g:∀c,c<(w:N)->I' c->c<IX/\c≠a):cN a IX h i x:=by have n:=b.lt;have o:=b.size;refine⟨b.len,b.aA.bl f λd=>(g a O d).2 J,λp=>f.free (b.bH p) O λd=>(g a O d).2 J,n,a1 o f.size,λk l=>(b.row k l).bl f λc q d=>?_,b.jC⟩;have:=(b.row k l).lt c q;have:=g c this.2 d;omega
def cN.bw{c:aP}{d:ai}{Kx:W}(f:cN a b c d w)(i:B w w Kx):cN a b c d Kx:=f.aO (M.bw (I':=λ_=>False) i) λ_ _ j=>j.elim
def Ut{b:aP}(d:a<L b):b[a]? =A (b.getD a undef):=by simp[List.getD,d]
def cN.cell{e:aP}{f:ai}(g:cN a b e f w)(j:c<L f):C w ⟨a,c,Z⟩=A (e.getD c undef):=g.aA c _ (Ut (by rw[g.len];exact j))
def cN.pi{Ju:N}{g:aP}{c:ai}(d:cN a b g c w)(i:L c<=Ju)(j:Ju<=9223372036854775807):bt w (S (A a) (L c) Ju) c:=⟨_,Ju,J,i,j,λk f=>⟨a,0,_,J,by rw[bX];exact d.cell f,(d.row k f).ints⟩⟩
def qb{d:Type}(a:E d)(b c:N)(e f:d)(g:b<L a):(a.set b e).getD c f=if b=c then e else a.getD c f:=by rw[List.getD,List.getD,List.getElem?_set];split;subst_vars;simp;rfl
def cN.put{l:aP}{p:ai}{t:ad}(g:cN a b l p w)(n:c<L p)(Q:ay x b u t)(ah:w.grownBy x (l.getD c undef).ownBlock)(R:∀d,af u=A d->(l.getD c undef).ownBlock=A d\/(w:N)<=d):cN a b (l.set c u) (p.set c t) (aj x ⟨a,c,Z⟩ u)/\M (λq=>q=a\/b<=q) w (aj x ⟨a,c,Z⟩ u):=by
 have ak:=g.lt;have al:=g.size;have U:=g.row c n;have r:=M.grown ah λd e=>e;have z:=ca x a c u;have X:(l.getD c undef).ownBlock≠A a:=λe=>Y ((U.lt a e).1)
 have H:c<L l:=by rw[g.len];exact n
 refine⟨⟨by rw[b',b',g.len],(g.aA.bl r X).set c u H,λh=>?_,ak,a1 al (a1 r.size z.size),λh j=>?_,λh K j D P d e i=>?_⟩,(r.trans z (I':=λq=>q=a\/b<=q) (λd _ e=>.inr (U.lt d e).1) (λd _ e=>.inl e))⟩;·simpa[go_sem]using r.free (g.bH h) O X
 rw[b']at j;rw[qb _ _ _ _ _ H,show bo (p.set c t) h=if c=h then t else bo p h from qb _ _ _ _ _ n];split;exact Q.bl z λd i e=>Y ((Q.lt d i).1)
 rename_i P;refine((g.row h j).bl r λd i e=>g.jC c h n j P d e i).bl z λd i e=>?_;have:=((g.row h j).lt d i).1;omega;rw[b']at j D;rw[qb _ _ _ _ _ H]at e i;split at e<;>split at i;omega;rename_i ae ag;rcases R d e with s|s;exact g.jC c K n D ag d s i;have:=((g.row K D).lt d i).2;omega;rename_i ae ag;rcases R d i with s|s;exact g.jC c h n j ae d s e;have:=((g.row h j).lt d e).2;omega;exact g.jC h K j D P d e i
section
attribute [local go_sem] Oper.semAt_some
def im(b c e:N)(f d:ai):Prop:=L d=b/\∀a,a<b->bo d a=List.replicate (if a<e then c+1 else c) (ge f [(a:I)])
def im.put{f e:ai}(h:im a b c f e)(l:c<a):im a b (c+1) f (e.set c (bo e c++[ge f [(c:I)]])):=by refine⟨by rw[b'];exact h.1,λg j=>?_⟩;rw[show bo (e.set c (bo e c++[ge f [(c:I)]])) g=if c=g then bo e c++[ge f [(c:I)]]else bo e g from qb _ _ _ _ _ (by rw[h.1];exact l)];split;subst_vars;rw[h.2 g j,ak O,am O,List.replicate_succ'];rw[h.2 g j];congr 1;split<;>split<;>omega
def im.next{I9:N}{I0 b:ai}(c:im I9 a I9 I0 b):im I9 (a+1) 0 I0 b:=⟨c.1,λf d=>by rw[c.2 f d,am d,ak O]⟩
def AW(a b:N)(f:ai->Prop)(g:W)(h:bp)(c:W):Prop:=h=aq (aZ #[])/\(∃i d,cN a b i d c/\f d)/\M (λe=>e=a\/b<=e) g c
def Uu(p i k aY l:N)(z:Zac)(t:a0)(u:ai)(y:aP)(j:ai)(n:W)(a1:bG n z.cv t)(X:aI bt (λa=>a=i\/k<=a) n z.dv u)(bJ:L t<=2000)(D:ax n p z.adZ)(a4:p<k)(a5:p≠i)(ar:z.oK=S (A i) (L t) (L t))(g:cN i k y j n)(m:im (L t) l 0 u j)(co:l<=1000):ap ab 128 #[aM (A p),(l:I)] n (AW i k (im (L t) (l+1) 0 u) n):=by
 have⟨bK,a6⟩:=K (L t);rw[<-a6]at ar m bJ⊢;have⟨av,h,aA,aC,bL,_,_⟩:=a1.open;have⟨a8,a9,ba,bb,_,_,_⟩:=X.now.open;have bM:h=bK:=O
 subst bM;have be:C n ⟨p,4,Z⟩=A (S av h aA):=aC▸D 4 _ J;have bN:=Q D;have bf:=Q (U a4 a5);obtain⟨bg,bh,bk,bm,cp,cq,bO,bP,bR,bS,cr⟩:=z;dsimp only at aC bb ar X;subst aC bb ar;have bT:=Q X;have aD:=Q (U g m);clear a1 X D a4 a5 a6 bL g m;go_in;go_wp2;go_loopw [11] (λaE wr=>∃(b:N) (y:aP) (j:ai),aE=b/\b<=h/\cN i k y j wr/\im h l b u j/\M (λa=>a=i\/k<=a) n wr) (λaE _=>h-(aw aE).toNat);exact⟨0,y,j,J,a3 _,aD.1,aD.2,M.refl _ _⟩;clear aD;obtain⟨b,y,j,rfl,bn,g,m,v⟩:=hrel;obtain⟨o,rfl⟩:=K wr;by_cases Ch:b<h;rotate_left
 ·have bV:b=h:=by omega
  subst bV;have bX:=Q (show AW i k (im b (l+1) 0 u) n (aq (aZ #[])) o from⟨J,⟨_,_,g,m.next⟩,v⟩);clear g m v be;go_wp2;go_end0;exact bX
 have cs:=aJ b;have ct:(b:I)<h:=O
 have ad:b<L j:=by rw[m.1];exact Ch
 have⟨ae,G⟩:=K (y.getD b undef);have P:=g.row b ad;have ag:(bo j b).length=l:=by rw[m.2 b Ch,ak O,gK]
 have aF:=g.cell ad;rw[<-G]at P aF;have aG:∀a,af ae=A a->k<=a:=λa c=>(P.lt a c).1;have cu:=g.lt;have r:ax o p (Zac.adZ ⟨bg,bh,bk,bm,S av h aA,S a8 a9 ba,bO,bP,bR,bS,S (A i) h h⟩):=bN.bl v λc=>Y bf.oo
 have s:¬(af ae=A p):=λc=>bi (aG p c) bf.oo
 have ah:¬(af ae=A i):=λc=>Y (aG i c)
 have⟨aL,aN⟩:=K o.drew;have bq:B o o aL:=aN▸an o;have br:=Q (λbZ b0 b2 bn=>w0 bg bh bk bm (S av h aA) (S a8 a9 ba) b0 u [(b:I)] bZ ((bT.step v.size (λl D b3=>v.block l D b3) I2).bw b2).now bn);have⟨bs,aO⟩:=K (ge u [(b:I)]);rw[<-aO]at br;obtain⟨d,e,f,rfl⟩:∃b5 aY bu,ae=S b5 aY bu:=by rcases bW P with⟨c,_⟩|⟨_,_,c,_⟩;exact⟨_,_,_,c⟩;exact⟨_,_,_,c⟩
 have b6:=bU.cell (G:=λa=>(S d e f).ownBlock=A a) (r 0 _ J) s;have b7:=bU.cell (G:=λa=>(S d e f).ownBlock=A a) (r 1 _ J) s;have b8:=bU.cell (G:=λa=>(S d e f).ownBlock=A a) (r 2 _ J) s;have b9:=bU.cell (G:=λa=>(S d e f).ownBlock=A a) (r 3 _ J) s;have b':=bU.cell (G:=λa=>(S d e f).ownBlock=A a) (r 4 _ J) s;have ca:=bU.cell (G:=λa=>(S d e f).ownBlock=A a) (r 5 _ J) s;have cc:=bU.cell (G:=λa=>(S d e f).ownBlock=A a) (r 10 _ J) s;have cd:=bU.cell (G:=λa=>(S d e f).ownBlock=A a) aF ah;have aQ:=Q g;have ce:=Q m;have cf:=Q v;have cw:=g.size;have bv:=g.bH b;have cg:=Q P;change H _ at G ah aO bq;clear P;change H _ at ag;clear g m v r s aF aG be;go_upto_region 3 with fail;refine od (λa=>(S d e f).ownBlock=A a) [0,1,2,4,5,6,7,9,12,13,14,16,103,108,10,111,115,217,218,219,220,21,322] ?_;rw[<-aN];clear aN;iterate 17 refine mS ?_
 have⟨bx,bz,ch,cx,ci⟩:=iz aL b;have aR:B o o bx:=q bq ch;refine aU λaS x=>?_;go_simp;try rw[bz]
 refine x _ _ (.mk (M.bw aR)) ?_;refine aU λaS x=>?_;go_simp;refine mU (br bx _ aR (by rw[<-bz];exact(xO aL (b:I)).ints)) λbA cj=>?_;have bB:=q aR cj;refine x _ _ (.mk (M.bw bB)) ?_;have⟨bC,ck,cl,cy,bD⟩:=iz bA bs;have R:=q bB cl;refine aU λaS x=>?_;go_simp;try rw[ck]
 refine x _ _ (.mk (M.bw R)) ?_;have aT:=aQ.bw R;have bE:ay bC k (S d e f) (bo j b):=cg.bw R;refine aU λaS x=>?_;refine kB (.tmp 25) (.tmp 33) J bC k (S d e f) (bo j b) bs bA J J bD bE (by rw[ag];omega) aT.size ?_;intro cz bu cm bF aV bI cA;have al:=aT.put ad bF (by rw[<-G];exact aV) (λl c=>by simp only[af,a2]at c;subst c;rw[<-G];rcases bI with c|c;exact .inl c;exact .inr O);have am:M (λa=>(S d e f).ownBlock=A a) o cm:=(M.bw (I':=λ_=>False) R).trans (M.grown (I':=λa=>(S d e f).ownBlock=A a) aV (λ_ c=>c)) (λ_ _ c=>c.elim) I2;have g1:=am.free bv (Y aQ.lt) ah;have g2:=am.cell (aQ.cell ad) ah;rw[<-G]at g2;have aW:=ce.put Ch;rw[<-aO]at aW;rw[ag]at al;have aX:=Q (U al.1 (U aW (cf.oo.tr ((M.bw R).tr al.2))));rw[ag];refine x _ _ (.mk am) ?_;clear b6 b7 b8 b9 b' ca cc cd bF aV bI al am aW aT bE bD ci bv;iterate 2 refine mS ?_
 refine bc ?_;clear g1 g2;go_wp2;go_roundw;case rel=>exact⟨b+1,_,_,aK,O,aX.1,aX.2.1,aX.2.2⟩
 exact bY
def ay.Wy{f:ad}(i:ay w a (S (A b) c d) f)(e:N)(g:I)(n:e<L f):ay (aj w ⟨b,e,Z⟩ g) a (S (A b) c d) (f.set e g):=by have:=i.set e g n;rwa [bX]at this
def lo(a:aP)(c:N):Prop:=∃b,b<L a/\(a.getD b undef).ownBlock=A c
def cN.kT{e:aP}{g:ai}(f:cN a b e g w)(j:lo e c):b<=c/\c<w:=by obtain⟨k,l,m⟩:=j;exact(f.row k (by rw[<-f.len];exact l)).lt c m
def uZ(c d:N)(a:aP)(e:ai)(f:W)(g:bp)(b:W):Prop:=g=aq (aZ #[])/\cN c d a e b/\M (lo a) f b
def cN.Wz{JN:N}{KD:I}{m:aP}{i:ai}(h:cN a b m i w)(o:c<L i)(p:m.getD c undef=S (A d) e g)(v:JN<(bo i c).length):cN a b m (i.set c ((bo i c).set JN KD)) (aj w ⟨d,JN,Z⟩ KD)/\M (lo m) w (aj w ⟨d,JN,Z⟩ KD):=by have s:=h.row c o;rw[p]at s;have Q:=s.lt d J;have q:=ca w d JN KD;have x:=h.lt;refine⟨⟨by rw[b',h.len],h.aA.bl q λr=>O,λj=>by simpa[go_sem]using h.bH j,x,a1 h.size q.size,λj l=>?_,λj y l z=>h.jC j y (by rwa [b']at l) (by rwa [b']at z)⟩,q.mono λD _ r=>⟨c,by rw[h.len];exact o,by rw[p,r];rfl⟩⟩;rw[b']at l;rw[show bo (i.set c ((bo i c).set JN KD)) j=if c=j then(bo i c).set JN KD else bo i j from qb _ _ _ _ _ o];split;subst_vars;rw[p];exact s.Wy JN KD v;rename_i G;exact(h.row j l).bl q λD H r=>h.jC c j o l G d (by rw[p];rfl) (by rw[H];exact cz A r)
def f8(a:N)(b:ad):ad:=b.set a (2*ae b a+1)
def jD(a:N)(c:ad)(b:ai):ai:=if ae c a=14 then b.map (f8 a)else b
def Uv{d:ai}(e:b<L d):((d.take b).map (f8 a)++d.drop b).set b (f8 a (bo d b))=(d.take (b+1)).map (f8 a)++d.drop (b+1):=by
 have g:bo d b=d[b]:=by simp[bo,e]
 rw[List.set_append_right _ _ aF,List.drop_eq_getElem_cons e,show b-((d.take b).map (f8 a)).length=0 by simp;omega,List.set_cons_zero,eR e,ck,ev,g];rfl
def Uw{d:ai}(f:b<L d):bo ((d.take b).map (f8 a)++d.drop b) b=bo d b:=by unfold bo;rw[List.getD,i1 aF,show b-((d.take b).map (f8 a)).length=0 by simp;omega];simp[List.getD]
def Ux(j f h d b:N)(u:Zac)(k:ad)(g:aP)(c:ai)(e:W)(hF:aX e u.fv k)(bq:b<L k)(br:d<=2000)(v:ax e j u.adZ)(aC:j<h)(aD:j≠f)(aE:u.oK=S (A f) d d)(o:cN f h g c e)(l:L c=d)(G:∀a,a<d->b<(bo c a).length/\(bo c a).length<=1000/\0<=ae (bo c a) b/\ae (bo c a) b<=1152921504606846976):ap ab 133 #[aM (A j),b] e (uZ f h g (jD b k c) e):=by
 have⟨aR,P,aT,aF,bs,bt,R⟩:=hF.open;obtain⟨bu,bx,bz,bA,bB,bC,bD,bE,bF,bG,bH⟩:=u;dsimp only at aF aE hF;subst aF aE;have aG:C e ⟨j,9,Z⟩=A (S aR P aT):=v 9 _ J;have X:C e ⟨j,10,Z⟩=A (S (A f) d d):=v 10 _ J;obtain⟨bI,bJ,rfl,aU⟩:=R b O;have⟨Y,p⟩:=K (ae k b);rw[<-p]at aU;have bK:b<P:=O
 have aV:=aJ b;have aW:(b:I)<P:=O
 have a0:=Q (λ(ag:Y≠14) m (aI:B e e m)=>show uZ f h g (jD b k c) e (aq (aZ #[])) m from⟨J,by rw[jD,ak (by rw[<-p];exact ag)];exact o.bw aI,M.bw aI⟩);by_cases ah:Y=14;rotate_left
 ·have a1:=Q (a0.oo ah);have bL:(Y !=14)=T:=by simpa using ah
  clear o G p hF v l R;go_in;go_wp2;go_end0;exact a1 _ (by first|exact aS _ _|exact eb (aS _ _) _)
 subst ah;have a2:=Q (λm (ag:cN f h g ((c.take d).map (f8 b)++c.drop d) m) (a4:M (lo g) e m)=>show uZ f h g (jD b k c) e (aq (aZ #[])) m from⟨J,by rw[jD,am p.symm];rwa [<-l,List.take_length,List.drop_length,e']at ag,a4⟩);have a5:=Q (U aC aD);change H _ at o G l;clear p hF v R aC aD;go_in;go_wp2;go_loopw [18] (λal wr=>∃(a:N),al=(a:I)/\a<=d/\cN f h g ((c.take a).map (f8 b)++c.drop a) wr/\M (lo g) e wr) (λal _=>d-(aw al).toNat);exact⟨0,J,a3 _,o,M.refl _ _⟩;clear o;obtain⟨a,rfl,bM,i,q⟩:=hrel;obtain⟨r,rfl⟩:=K wr;by_cases Ch:a<d;rotate_left
 ·have a6:a=d:=by omega
  subst a6;have a8:=Q (a2.oo r i q);clear i q aG X;go_wp2;go_end0;exact a8
 have aV:=aJ a;have aW:(a:I)<d:=O
 have ar:a<((c.take a).map (f8 b)++c.drop a).length:=by simp;have:=l.oo;omega
 have w:bo ((c.take a).map (f8 b)++c.drop a) a=bo c a:=Uw (by rw[l];exact Ch);have⟨a9,ba,bb,be⟩:=G a Ch;have av:=i.row a ar;rw[w]at av;have⟨bN,bO,x,bP,bf,bg,aL⟩:=av.out O;have⟨bh,aN⟩:=K ((bo c a).length);rw[<-aN]at a9 ba x bg;have⟨y,z⟩:=aL b O;rw[bX]at y z;have⟨n,ay⟩:=K (ae (bo c a) b);rw[<-ay]at y bb be;have aO:=i.cell ar;rw[x]at aO;have⟨bk,aA⟩:=K r.drew;have t:B r r bk:=aA▸an r;have z:=aY t bf z;have bl:=s t y;have D:=(i.bw t).Wz (JN:=b) (KD:=2*n+1) ar x (by rw[w];omega);rw[w,show(bo c a).set b (2*n+1)=f8 b (bo c a) by rw[f8,<-ay],Uv (by rw[l];exact Ch)]at D;have bm:=q.cell X (λbn=>bi ((i.kT bn).1) a5.oo);have bS:IntKind.i64.wrap (2*n)=2*n:=hf _ O;have bT:IntKind.i64.wrap (2*n+1)=2*n+1:=hf _ O;have bU:=aJ b;have bV:(b:I)<bh:=O
 have aQ:=Q (U D.1 ((q.then t).tr D.2));clear i q av aL x D w ay aN aG X t;go_upto_region 4 with fail;refine bv [0,1,2,4,7,8,9,10,12,15,103,5,106,111,13,114,16,117,18,19,20,321] ?_;rw[<-aA];clear aA;iterate 22 refine mS ?_
 clear bm aO y;refine bc ?_;clear z bl;go_wp2;go_roundw;case rel=>exact⟨a+1,aK,O,aQ.1,aQ.2⟩
 exact bY
end
def eM(b:a0)(c:I)(d:N)(e:ai):N->Option ar
 |0=>A []
 |a+1=>(eM b c d e a).bind λf=>if(eJ (aQ b a) c (bo e a) d).2 then A (f++[(eJ (aQ b a) c (bo e a) d).1])else Z
def Uy{e:a0}{f:ai}(g:eM e i a f b=Z)(c:N)(m:b<=c):eM e i a f c=Z:=by
 induction c with
  |zero=>rwa [show b=0 by omega]at g
  |succ c k=>by_cases l:b=c+1;rwa [l]at g;rw[eM,k O];rfl
def u'{g:a0}{h:ai}{d:ar}(c:eM g i a h b=A d):L d=b:=by
 induction b generalizing d with
  |zero=>rw[eM]at c;cases c;rfl
  |succ b j=>rw[eM]at c;have⟨n,k,f⟩:=Option.bind_eq_some_iff.1 c;split at f;cases f;simp[j k];cases f
def AX{k:a0}{n:ai}{f:ar}(l:∀c,c<b->dR a (aQ k c))(o:a<=64)(e:eM k i a n b=A f):∀g∈f,L g<=64:=by
 induction b generalizing f with
  |zero=>rw[eM]at e;cases e;exact λg p=>by cases p
  |succ b q=>rw[eM]at e;have⟨g,r,h⟩:=Option.bind_eq_some_iff.1 e;split at h;cases h;intro s t;rcases eh.1 t with j|j;exact q (λc v=>l c O) r s j;rw[List.mem_singleton.1 j];exact(rW (l b O) o).2;cases h
def AY{a:ar}(c:∀d∈a,L d<=64)(b:N):(ah a b).length<=64:=by unfold ah;by_cases e:b<L a;rw[List.getD,e7 e];exact c _ (dY _);rw[List.getD,List.getElem?_eq_none O];simp
def Uz{a:ar}(b:fa ba w u a)(e:L a<=1000000):bb w u a:=by obtain⟨f,g,h,_,_,i⟩:=b;exact⟨f,g,h,e,i⟩
def UA:(ab.info? 178).map (λa=>(a.zero,a.size,a.bytes))=A (A (S Z 0 0),1,24):=aT
def va(a:W)(b:Option ar)(c:bp)(d:W):Prop:=B a a d/\((b=Z/\c=aq (aZ #[S Z 0 0,(15:I)]))\/∃e f g h,b=A e/\c=aq (aZ #[S f g h,(0:I)])/\aI bb (λi=>i<(a:N)) d (S f g h) e)
def UB(d:N)(bv h bx:I)(aF aG bz:V)(c:a0)(e:ai)(i:W)(bA:bG i aF c)(cd:L c<=2000)(bB:∀q,q<L c->dR d (aQ c q))(aL:d<=64)(ce:∃k r l,aG=S k r l)(cf:bt i bz e)(ch:L e=L c)(bC:∀q,∀f∈bo e q,0<=f/\f<=9007199254740992):ap ab 129 #[ao #[(d:I),bv,h,bx,aF,aG],bz] i (va i (eM c h d e (L c))):=by
 have⟨m,bD,aO,ci,u⟩:=bR i (d:I) bv h bx aF aG;obtain⟨cL,cM,cN,rfl⟩:=ce;obtain⟨cO,aR,cP,rfl,R,_,bE⟩:=bA.open;obtain⟨cQ,cR,bF,bH,cj,aT⟩:=cf;have⟨v,bJ⟩:=K (L e);rw[<-bJ]at bF bH aT;subst bF;have⟨bK,ay⟩:=K (eM c h d e (L c));have bL:∀a,a<=L c->eM c h d e a=Z->∀t,B i i t->va i bK (aq (aZ #[S Z 0 0,(15:I)])) t:=λa X b t j=>⟨j,.inl ⟨by rw[ay];exact Uy b _ X,J⟩⟩
 have bM:∀g w ad t,eM c h d e aR=A g->cc 178 ba (λa=>a<(m:N)) m t ad w g->B i i t->∃k r l,ad=S k r l/\va i bK (aq (aZ #[S k r l,(0:I)])) t:=λg w ad t b bN j=>by obtain⟨k,r,l,rfl,_,_⟩:=bN.form;refine⟨k,r,l,J,j,.inr ⟨g,k,r,l,by rw[ay,R];exact b,J,?_⟩⟩;exact λck cl X=>Uz (bN.off (λ_ cm=>cm) ck cl λa R aL=>X a R λb=>aL (cg b aO.size)) (Y (u' b))
 have cn:=Q (λ(a:N) (o:W) (aU bO:V) (X:a<aR) (hp:cA o aU (aQ c a).ps) (co:aX o bO (bo e a))=>uy (aQ c a) aU bO h d (bo e a) o (bB a O) aL hp co (bC a));have cp:=u;rw[<-ay];change H _ at bL bM ay;have cq:=Q u;have aA:=Q aO;have cr:v=aR:=O
 subst cr;have cS:v<=2000:=O
 have cs:=Q R;change H _ at bD;clear R;change H _ at bE aT;clear bA cd bB bH cj ch bC bJ u aO ci;go_in;go_upto_region 1 with fail;rw[bD];obtain⟨aV,ct,aY,cu,cv,cw⟩:=cp;go_wp2_with fail;clear aV ct aY cu cv cw;go_loopw [6,15] (λad q wr=>∃(a:N) (w:aP) (g:ar),q=(a:I)/\a<=v/\eM c h d e a=A g/\cc 178 ba (λa=>a<(m:N)) m wr ad w g/\B m m wr) (λ_ q _=>v-(aw q).toNat);exact⟨0,[],[],J,a3 _,J,cc.nil _ _ _ _ _,aS _ _⟩;obtain⟨a,w,g,rfl,X,ae,z,j⟩:=hrel;obtain⟨bP,rfl⟩:=K wr;have D:=aA.trans (j.mono aA.size);obtain⟨a2,a4,a5,rfl,bS,_⟩:=z.form;by_cases Ch:a<v;rotate_left
 ·have cx:a=v:=by omega
  subst cx;have⟨k,r,l,b,bT⟩:=bM g w _ bP ae z D;have a6:=Q (b▸bT);clear b bT ae z j D bS;go_wp2;go_ret2;exact a6
 have cT:=aJ a;have cU:(a:I)<v:=O
 obtain⟨cV,cW,aU,rfl,_,G⟩:=bE a Ch;have G:=G.bw D;obtain⟨cX,cY,cZ,rfl,ag,ah⟩:=aT a Ch;have ag:=s D ag;have ah:=ah.bw D;obtain⟨cy,cz,cB,rfl,_,_,_⟩:=ah.open;have⟨n,ak⟩:=K (aQ c a);rw[<-ak]at G;have bU:=G.ft;obtain⟨bV,bX,rfl,_⟩:=G.ft;have⟨aC,bZ,p,cC,b0⟩:=da bP n.kd n.dm (S bV n.ps.length bX) n.rt n.sz n.st n.ru n.hd;have a8:=Q (cn.oo a aC (S bV n.ps.length bX) (S cy cz cB) Ch (ak▸bU.bw p) (ah.bw p));rw[<-ak]at a8;obtain⟨a9,bb,bc,be,bf,bg,bh,bi,_⟩:=G;have⟨cD,bk⟩:=K (bo e a);have⟨cE,bl⟩:=K (eJ n h cD d);rw[<-bk,<-bl]at a8;obtain⟨o,ok⟩:=cE;have bm:eM c h d e (a+1)=if ok then A (g++[o])else Z:=by rw[eM,ae,<-ak,<-bk,<-bl];rfl
 have bn:=j.trans (p.mono j.size);have M:=Q (U (z.bw p) (U bn (U (u' ae) (a1 j.size p.size))));have cF:=Q (show (m:N)<=aC from a1 j.size p.size);have cG:=Q (λf (b:(S a2 a4 a5).ownBlock=A f)=>cg (bI z.1 f b).2 p.size);have ag:=s p ag;have⟨aV,_,aY,_,_,_⟩:=cq.bw bn;change H _ at bZ bm;change H _ at b0;clear z j D bS ae ah bU ak p cC bn bk bl;go_upto_region 5 with fail;rw[bZ];clear a9 bb bc be bf bg bh bi;obtain⟨a9,bb,bc,be,bf,bg,bh,bi⟩:=b0;go_wp2_with fail;refine mE a8 λx b2 ⟨b3,aD⟩=>?_;have bq:aW 224 x aC b2 o:=b3;have br:=M.2.1.trans (aD.mono M.2.1.size);have bs:=Q (U br (aA.oo.trans (br.mono aA.oo.size)));obtain⟨al,am,an,rfl⟩:∃k d l,b2=S k d l:=by rcases bW bq with⟨b,_⟩|⟨_,_,b,_⟩;exact⟨_,_,_,b⟩;exact⟨_,_,_,b⟩
 have P:=Q (U (M.oo.1.bw aD) (U bq (U M.oo.2.2.1 (a1 M.oo.2.2.2 aD.size))));clear b3 bq aD br M aV aY ag a9 bb bc be bf bg bh bi;cases ok with
  |false=>have a6:=Q (bL (a+1) (by rw[cs];omega) (by rw[bm];rfl) x bs.2);go_wp2;go_ret2;exact a6
  |true=>
   obtain⟨y,bu,ax,b4⟩:∃y,x.alloc (az #[S al am an] 178)=y/\B x x y/\C y x=A (S al am an):=⟨_,J,aN _ _,aE⟩
   have b5:=P.1.bw ax;have b6:aI ba (λf=>f<(m:N)\/(S a2 a4 a5).ownBlock=A f) y (S al am an) o:=(qH P.2.1 (I5:=λf=>f<(aC:N)) (λf u=>u)).bw ax|>.mono λf u=>by rcases u with b|b;exact cg b cF;exact cG f b
   have b7:(m:N)<=y.heap.size:=a1 P.2.2.2 ax.size;have b8:L g+1<=1000000000000:=by rw[P.2.2.1];omega
   have cH:(S al am an).oneCell'=T:=J;have cI:=Q (U (bs.oo.1.trans (ax.mono bs.oo.1.size)) (U trivial P.oo.2.2.1));replace bu:=Q bu;clear ax P;go_wp2_with (at_builtin;rw[bu];refine n1 J _ _ 200 178 (S Z 0 0) 24 underlying200 UA J av J y m (S a2 a4 a5) w g (S al am an) o x J J b4 J b5 b6 b8 b7 ?_);intro c1 c2 c3 b9 cJ b' _ _ _;have ca:=Q (U b9 (cI.oo.1.trans (b')));have cK:=Q (show eM c h d e (a+1)=A (g++[o]) by rw[bm];rfl);clear b5 b6 b7 b8 cH b4 b9 cJ b';go_wp2;go_roundw;case rel=>exact⟨a+1,_,_,aK,O,cK,ca.1,ca.2⟩
   exact bY
def UC(a:I)(d:W):ap ab 132 #[a] d (k4 d (decide (a≠0/\a≠14))):=by
 by_cases b:a=0
 ·have e:(a !=0)=F:=by simpa using b
  have B6:H (decide (a≠0/\a≠14)=F):=Q (by simp[b]);exact nR
 have e:(a !=0)=T:=X b
 by_cases c:a=14
 ·have f:(a !=14)=F:=by simpa using c
  have B6:H (decide (a≠0/\a≠14)=F):=Q (by simp[c]);exact nR
 have f:(a !=14)=T:=X c
 have B6:H (decide (a≠0/\a≠14)=T):=Q (by simp[b,c]);exact nR
def mx(a:I):Bool:=decide (a≠0/\a≠14)
def jE(a:ad):Bool:=a.any mx
def UD(a:ad)(b:N)(c:b<L a)(d:mx (ae a b)=T):jE a=T:=by unfold jE;rw[List.any_eq_true];exact⟨a[b],dY c,by rw[show ae a b=a[b] by simp[ae,List.getD,c]]at d;exact d⟩
def UE(b:ad)(d:∀a,a<L b->mx (ae b a)=F):jE b=F:=by unfold jE;rw[List.any_eq_false];intro f e;obtain⟨a,c,rfl⟩:=gP e;have:=d a c;rw[show ae b a=b[a] by simp[ae,List.getD,c]]at this;simp[this]
def UF(t:V)(c:ad)(d:W)(u:aX d t c)(G:L c<=1000000):ap ab 170 #[t,.func (.func 132) #[] #[]] d (λo M=>∃v:I,o=aq (v:I)/\decide (0<=v)=jE c/\B d d M):=by
 obtain⟨am,e,an,rfl,Da,_,w⟩:=u.open;have P:=Q (UE c);have R:=Q (UD c);have U:=Q (λX o=>UC o X);have ar:e<=1000000:=O
 change H _ at Da w;clear u G;go_in;go_wp2;go_loopw [5,8] (λY a wr=>∃(b:N) (x:V),x=Y/\a=b/\b<=e/\(∀a,a<b->mx (ae c a)=F)/\B d d wr) (λ_ a _=>e-(aw a).toNat);exact⟨0,_,J,J,a3 _,λa h=>absurd h (fx _),aS _ _⟩;obtain⟨b,x,rfl,rfl,av,k,i⟩:=hrel;obtain⟨ag,rfl⟩:=K wr;by_cases Ch:b<e
 ·obtain⟨ax,ay,rfl,l⟩:=w b Ch;have l:=s i l;have m:=R b c1;have⟨f,p⟩:=K (ae c b);rw[<-p]at l m;have q:=Q (U.oo ag f);rw[show decide (f≠0/\f≠14)=mx f from J]at q;have y:∀(g:Bool),mx f=g->(g=F->∀a,a<b+1->mx (ae c a)=F):=λg j ah a h=>by by_cases ai:a<b;exact k a ai;rw[show a=b by omega,<-p,j];exact ah
  have⟨g,j⟩:=K (mx f);rw[<-j]at q m;have ak:=Q (y g j.symm);have aA:=aJ b;have aC:(b:I)<e:=O
  have n:=Q i;change H _ at m;clear k p i y j;go_wp2_with fail;refine mU q λaD z=>?_;have D:=Q (n.oo.trans (z.mono n.size));clear z l;cases g with
   |false=>
    go_wp2;go_roundw;case rel=>exact⟨b+1,_,J,aK,O,ak dk,D⟩
    exact bY
   |true=>have r:=Q (m dk);go_wp2;go_ret;exact⟨_,J,by rw[r];simp,D⟩
 have al:b=e:=O
 subst al;have r:=Q (P.oo (λa h=>k a (by rw[Da]at h;exact h)));have n:=Q i;clear k i;go_wp2;go_ret;exact⟨_,J,by rw[r];rfl,n⟩
def UG(c:V)(a:ad)(b:W)(d:aX b c a)(e:L a<=1000000):ap ab 131 #[c,.func (.func 132) #[] #[]] b (k4 b (jE a)):=by have i:=Q (UF c a b d e);obtain⟨j,k,l,rfl,_,_,_⟩:=d.open;clear d e;go_in;go_wp2_with fail;refine mE i λm n ⟨f,g⟩=>?_;have h:=Q (U f g);clear f g;go_wp2;go_ret;exact⟨by rw[<-h.1];first|rfl|(simp),h.2⟩
def hE(b:N)(c:ad)(a:ai):ai:=(List.range b).foldl (λa d=>jD d c a) a
def AZ(a:N)(b:ad)(c:ai):hE (a+1) b c=jD a b (hE a b c):=by unfold hE;rw[fu,List.foldl_append];rfl
def UH(b:N)(c:ad)(a:ai):(jD b c a).length=L a:=by unfold jD;split<;>simp
def A0{e:ad}{c:ai}(g:b<L c):bo (jD a e c) b=if ae e a=14 then f8 a (bo c b)else bo c b:=by unfold jD;split;simp[bo,List.getD,g];rfl
def lp(c e:N)(f:I)(a:ai):Prop:=L a=c/\∀b,b<c->(bo a b).length=e/\∀d,0<=ae (bo a b) d/\ae (bo a b) d<=f
def A1{I4:ad}{h:ai}(j:lp a b i h)(r:0<=i)(f:N)(s:f<=b):lp a b (2*i+1) (hE f I4 h)/\∀c,c<a->∀e,f<=e->ae (bo (hE f I4 h) c) e<=i:=by
 induction f with
  |zero=>refine⟨⟨j.1,λc d=>⟨(j.2 c d).1,λe=>?_⟩⟩,λc d e _=>((j.2 c d).2 e).2⟩;have:=(j.2 c d).2 e;show 0<=ae (bo h c) e/\ae (bo h c) e<=2*i+1;omega
  |succ f p=>have⟨⟨q,g⟩,o⟩:=p O;rw[AZ];refine⟨⟨by rw[UH,q],λc d=>?_⟩,λc d e t=>?_⟩;rw[A0 O];split;refine⟨by rw[f8,b'];exact(g c d).1,λe=>?_⟩;have l:=(g c d).2 e;have u:=(g c d).2 f;have v:=o c d f (aL _);rw[f8,nV (by rw[(g c d).1];omega)];split<;>omega;exact g c d;rw[A0 O];have l:=o c d e O;split;rw[f8,nV (by rw[(g c d).1];omega),ak O];exact l;exact l
def kr(a b:N)(c:ai):ai:=(List.range a).map λd:N=>List.replicate b (ge c [(d:I)])
def UI{f c:ai}(d:im a b 0 f c):c=kr a b f:=by refine List.ext_getElem (by rw[d.1];simp[kr]) λe g j=>?_;have:=d.2 e (by rw[<-d.1];exact g);rw[ak O,show bo c e=c[e] by simp[bo,g]]at this;rw[this];simp[kr]
def UJ{b:ai}(c:DB b)(a:I):0<=ge b [a]/\ge b [a]<=8589934591:=by have:=AH c [(a,0)] D;rw[show b2 b [(a,0)]=ge b [a]from J,show([(a,(0:I))]:ag).length=1 from J]at this;omega
def UK{d:N->I}(f:∀c,0<=d c/\d c<=i):lp a b i ((List.range a).map λc=>List.replicate b (d c)):=by
 refine⟨D,λc k=>?_⟩;have l:bo ((List.range a).map λc=>List.replicate b (d c)) c=List.replicate b (d c):=by simp[bo,List.getD,k]
 rw[l];refine⟨gK ..,λh=>?_⟩;by_cases m:h<b;rw[show ae (List.replicate b (d c)) h=d c by simp[ae,List.getD,m]];exact f c;rw[m1 aF];have:=f 0;omega
def UL{c:ai}(d:DB c):lp a b 8589934591 (kr a b c):=UK λg=>UJ d (g:I)
def lp.mem{d:ai}(h:lp a b i d)(o:i<=9007199254740992)(c:N):∀e∈bo d c,0<=e/\e<=9007199254740992:=by intro e f;by_cases l:c<a;obtain⟨g,m,rfl⟩:=gP f;have:=(h.2 c l).2 g;rw[show ae (bo d c) g=(bo d c)[g] by simp[ae,List.getD,m]]at this;omega;rw[show bo d c=[] by unfold bo;rw[List.getD,List.getElem?_eq_none (by rw[h.1];omega)];rfl]at f;cases f
def fn(a:N)(b:a0)(d:ai)(c:Zac):N->ai->I×aV
 |0,_=>(15,[])
 |g+1,f=>match eM b c.i2 a f (L b) with
  |none=>(15,[])
  |some e=>if eK (il a b d c e)=0 then(0,hD a b d c e)else if jE (il a b d c e)=T then(15,[])else fn a b d c g (hE a (il a b d c e) f)
def aX.dj:hT aX:=by rintro c o p q d r e;obtain⟨f,g,h,i,j,k⟩:=d;refine⟨f,g,h,i,j,λl m=>?_⟩;have⟨a,n,ha,b⟩:=k l m;exact⟨a,n,ha,(ey (e a (aR c _ b))).trans b⟩
def cA.dj:hT cA:=by rintro c o p q d r e;obtain⟨f,g,h,i,j,k⟩:=d;refine⟨f,g,h,i,j,λl m=>?_⟩;have⟨a,n,ha,b⟩:=k l m;exact⟨a,n,ha,(ey (e a (aR c _ b))).trans b⟩
def bt.dj:hT bt:=by rintro a e s t f g b;obtain⟨h,i,j,k,l,m⟩:=f;refine⟨h,i,j,k,l,λn o=>?_⟩;have⟨c,p,q,ha,d,r⟩:=m n o;exact⟨c,p,q,ha,(ey (b c (aR a _ d))).trans d,aX.dj a e _ _ r g b⟩
def bG.dj:hT bG:=by rintro f g u v j k h;obtain⟨i,l,m,n,o,p⟩:=j;refine⟨i,l,m,n,o,λq r=>?_⟩;have⟨c,s,t,ha,a⟩:=p q r;have b:∀d e,C f ⟨c,d,Z⟩=A e->C g ⟨c,d,Z⟩=A e:=λd e hp=>(ey (a:=⟨c,d,Z⟩) (h c a.lt)).trans hp;exact⟨c,s,t,ha,b _ _ a.c0,b _ _ a.c1,b _ _ a.c2,b _ _ a.c3,b _ _ a.c4,b _ _ a.c5,b _ _ a.c6,b _ _ a.c7,cA.dj f g _ _ a.ft k h⟩
def hT.later{f:Type}{c:W->V->f->Prop}(j:hT c){d:f}(k:c w u d)(e:B w w x){h:aD}(m:∀a,h a->(w:N)<=a):aI c h x u d:=λn o p=>j w n u d k (a1 e.size o) λa i=>(p a (cg i e.size) λq=>Y (m a q)).trans (e.block a i)
def UM:(ab.info? 22).map (λa=>(a.zero,a.size,a.bytes))=A (A (S Z 0 0),1,24):=aT
def UN(a:W)(c:N)(s:c<=100000):∃b,(Instr.makeSlice 25 (c:I) (c:I)).run ab a= .ok (S (A (a:N)) c c) b/\(a:N)<b.heap.size/\ax b a (List.replicate c (S Z 0 0))/\(∀e,aH b ⟨a,e,Z⟩=F)/\B a a b:=by
 have⟨g,d,i,j,IC⟩:=ew UM;have⟨b,k,o,l⟩:=run_make_full (P:=ab) a a 25 22 g (S Z 0 0) 1 underlying25 d i j ac ac c jJ eQ (aL _);rw[Nat.mul_one]at o;have m:(a:N)<b.heap.size:=by rcases o.2 with⟨h,_⟩|⟨H9,H',Jw,D7,_,n,_⟩;cases h;cases D7;exact(bM.1 n).1
 refine⟨b,k,m,λp q d=>?_,λe=>?_,(aS a a).grown l (aL _) D⟩;have⟨H9,f,r⟩:=hb o p q (by rw[show(S Z 0 0).cells= #[S Z 0 0]from J,toList_madeCells_one];exact d);simp only[af,a2]at f;subst f;exact r;exact wu
def cN.new(m:ax w a (List.replicate c (S Z 0 0)))(n:∀i,aH w ⟨a,i,Z⟩=F)(o:a<b)(p:b<=(w:N)):cN a b (List.replicate c (S Z 0 0)) (List.replicate c []) w:=by
 have k:∀d,d<c->(List.replicate c (S Z 0 0)).getD d undef=S Z 0 0:=λd e=>by simp[List.getD,e]
 refine⟨D,m,n,o,p,λd e=>?_,λd i e q _ r l=>?_⟩;rw[gK]at e;rw[k d e,show bo (List.replicate c ([]:ad)) d=[] by simp[bo,List.getD,e]];exact ay.nil _ _;rw[gK]at e;rw[k d e]at l;cases l
def UO(a:N)(b:ai):im a 0 0 b (List.replicate a []):=⟨D,λd c=>by rw[ak O];simp[bo,List.getD,c]⟩
section
attribute [local go_sem] Oper.semAt_some
def fo(a b c d:I):Zac:=⟨0,a,b,c,undef,undef,undef,d,undef,undef,undef⟩
def oM(a:W)(b:I×aV)(g:bp)(c:W):Prop:=∃d e f,g=aq (aZ #[ao #[S d e f],b.1])/\aI bq (λh=>h<(a:N)) c (S d e f) b.2/\B a a c
def UP(a:W)(c:aP)(e:bj):∃b,a.alloc (az c.toArray e)=b/\B a a b/\b.heap.size=(a:N)+1/\ax b a c/\∀d,aH b ⟨a,d,Z⟩=F:=⟨_,J,aN _ _,D,ax.new a c _,λd=>aE⟩
def UQ{a:aV}(b:fa bb w u a)(e:L a<=1000000):bq w u a:=by obtain⟨f,g,h,_,_,i⟩:=b;exact⟨f,g,h,e,i⟩
def eL.off{f:Zac}{e:aV}{i:ad}{j:aP}(g:eL a b f e i j w)(l:L e<=1000000):aI bq (λd=>d<b) w f.pv e:=λm n o=>UQ (cc.adF (λd=>d<b) ⟨g.day.1,λp q=>(g.day.2 p q).mono λd c=>by rcases c with c|c;exact .inl (.inl c);exact .inr c⟩ (λ_ c=>c) m n o) l
def A2(a:W)(b:aD):aI bq b a (S Z 0 0) []:=λc _ _=>m2 c
def UR(a:N)(o l p x:I)(aT aV:V)(b:a0)(t:ai)(m:W)(P:e5 m a aT aV b t)(df:DB t)(cp:L b<=2000)(dg:x<=1000000):ap ab 95 #[ao #[a,o,l,p,aT,aV],x] m (oM m (fn a b t (fo o l p x) 8 (kr (L b) a t))):=by
 have⟨bq,dh,di,dQ,cq⟩:=bR m a o l p aT aV;have⟨aK,dk,bS,dR,dl,dm⟩:=gB bq (S Z 0 0);have⟨aW,bk⟩:=K aK.drew;have aD:B aK aK aW:=bk▸an aK;have⟨a9,cr⟩:=K (L b);have⟨cs,ct,dn,cw,cx,bm⟩:=UN aW a9 O;have⟨u,dp⟩:=K (aW:N);rw[<-dp]at ct dn cw cx;have⟨R,cy,ba,dS,cz,cA⟩:=UP cs (nM a o l p aT aV (S Z 0 0) x (S Z 0 0) (S Z 0 0) (S (A u) a9 a9)) 203;unfold nM at cy;have⟨r,cB⟩:=K (cs:N);rw[<-cB]at cz cA;obtain⟨k,bT⟩:∃k:Zac,k=⟨a,o,l,p,aT,aV,S Z 0 0,x,S Z 0 0,S Z 0 0,S (A u) a9 a9⟩:=⟨_,J⟩
 have bU:ax R r k.adZ:=by rw[bT];exact cz
 have bV:r<R:=O
 have bW:u<R:=O
 have cC:r≠u:=O
 have dT:=Q (bh (u<r));have cD:cN u R (List.replicate a9 (S Z 0 0)) (List.replicate a9 []) R:=cN.new (λy br v=>s ba (cw y br v)) (λy=>aY ba O (cx y)) bW (aL _);have dq:=aD.size;have dU:=bm.size;have cE:bq<u:=O
 have cF:(m:N)<bq:=O
 have dr:B m m R:=di.trans ((bS.trans ((aD.trans ((bm.trans (ba.mono O)).mono O)).mono O)).mono O);have ar:ci R m a o l p aT aV:=cq.bw (bS.trans ((aD.trans ((bm.trans (ba.mono O)).mono O)).mono O));have cG:C R bq=A (S Z 0 0):=s (aD.trans ((bm.trans (ba.mono O)).mono O)) dl;have cH:aH R bq=F:=aY (aD.trans ((bm.trans (ba.mono O)).mono O)) O dm;have dV:=P.dG;have⟨ag,ds⟩:=K (R:N);rw[<-ds]at bV bW cD;have⟨ad,cI⟩:=K (bq:N);rw[<-cI]at cE cF cG cH;have a1:=Q (λ(g:W) (ay:M (λc=>c=r\/c=u\/ag<=c) R g)=>show(B m m g/\ci g m a o l p aT aV/\C g ad=A (S Z 0 0)/\aH g ad=F/\ax g m [a,o,l,p,aT,aV]) by
  have bs:B m m g:=dr.trans (ay.bg O λah ay h=>O);have aE:∀y br,C R ⟨m,y,Z⟩=A br->C g ⟨m,y,Z⟩=A br:=λy br z=>ay.cell z O;refine⟨bs,⟨aE _ _ ar.c0,aE _ _ ar.c1,aE _ _ ar.c2,aE _ _ ar.c3,aE _ _ ar.c4,aE _ _ ar.c5⟩,ay.cell cG O,ay.free cH O O,λy br v=>?_⟩;match y,v with
   |0,v=>simp at v;subst v;exact aE _ _ ar.c0
   |1,v=>simp at v;subst v;exact aE _ _ ar.c1
   |2,v=>simp at v;subst v;exact aE _ _ ar.c2
   |3,v=>simp at v;subst v;exact aE _ _ ar.c3
   |4,v=>simp at v;subst v;exact aE _ _ ar.c4
   |5,v=>simp at v;subst v;exact aE _ _ ar.c5
   |y+6,v=>simp at v)
 have cJ:k.oK=S (A u) (L b) (L b):=by rw[bT,cr]
 have bD:k.cv=aT/\k.dv=aV/\k.n=a/\k.i1=o/\k.i2=l/\k.i3=p/\k.gU=x:=by rw[bT];exact⟨J,J,J,J,J,J,J⟩
 have dW:=Q (uY r a 128 (λah g=>∃w j,cN u ag w j g/\im (L b) ah 0 t j/\M (λc=>c=u\/ag<=c) R g) (.inr (.inl J)) O (λah g z=>by obtain⟨_,_,_,_,ay⟩:=z;have:=ay.cell (bU 0 _ J) O;rwa [show k.n=a from bD.2.2.1]at this) (λah g cK z=>by obtain⟨w,j,aG,aC,ay⟩:=z;have bs:=(a1 g (ay.mono λc _ h=>.inr h)).1;refine(Uu r u ag a ah k b t w j g (by rw[bD.1];exact P.cu.bw bs) (by rw[bD.2.1];exact bt.dj.later P.gr bs λc h=>O) cp (bU.bl ay O) bV cC cJ aG aC O).mono ?_;rintro h dX ⟨rfl,⟨dt,dY,d0,d1⟩,d2⟩;exact⟨J,dt,dY,d0,d1,ay.tr d2⟩) R ⟨_,_,cD,by rw[cr];exact UO _ _,M.refl _ _⟩);have⟨aN,cL⟩:=K (fn a b t (fo o l p x) 8 (kr (L b) a t));rw[<-cL];have cM:=Q (λ(g:World) (bs:Below (m:Nat) m g) (h:aN=(15,[]))=>show oM m aN (.returned (.tuple #[.agg #[.slice none 0 0],.int .i64 15])) (g.setCell ⟨ad,0,none⟩ (.slice none 0 0))from⟨none,0,0,by rw[h],by rw[h];exact A2 _ _,bs.setCell (p:=⟨ad,0,none⟩) (by show (m:Nat)<=ad;omega) _⟩);have bu:=Q (U bV (U bW (U cC (U cE cF))));have cO:=Q (U bU cA);have aF:=Q (U cJ bD);have aQ:=Q (U P (U df (U cp dg)));have ep:(aK:N)<=aW:=dq;obtain⟨cP,cQ,cR,rfl,_,_,_⟩:=P.gr.open;obtain⟨cS,bX,cT,rfl,d4,_,_⟩:=P.cu.open;have d5:bX=a9:=O
 subst d5;obtain⟨bZ,b2,b3,b5,b6,b7⟩:ci aK m a o l p (S cS bX cT) (S cP cQ cR):=cq.bw bS;have cU:B aK aK cs:=q aD bm;have du:B aK aK R:=q cU ba;change H _ at dh dk cy ct cL dp cB cI cU du bT;clear cq di bS aD bm ba dQ dR dn dS cw cx cz cA bU bV bW cC cD dq dU cE cF dr ar cG cH ds cJ bD P df cp dg dl dm cr d4;go_in;go_upto_region 1 with(first|rw[dh]|rw[dk])
 refine bv [1,2,100,103,4,205,6,207,8] ?_;rw[<-bk];clear bk;iterate 5 refine mS ?_
 refine aU λdw ae=>?_;go_simp;try rw[ct]
 go_simp;refine ae _ _ (.mk cU) ?_;refine mS ?_;refine aU λdw ae=>?_;go_simp;try rw[cy]
 refine ae _ _ (.mk du) ?_;clear bZ b2 b3 b5 b6 b7;refine mS ?_;refine bc ?_;rw[<-cB,<-cI];go_wp2_with fail;refine mU dW λb8 ⟨d6,eq,dx,dy,b9⟩=>?_;have d7:=UI dy;subst d7;have dz:=Q (show∃(i:N) (w:aP) (j:ai) (d e f:V),(0:I)=i/\i<=8/\ax b8 r ({k with vv:=d,pv:=e,fv:=f}:Zac).adZ/\(∀y,aH b8 ⟨r,y,Z⟩=F)/\cN u ag w j b8/\lp (L b) a (8589934592*((2^i:N):I)-1) j/\aN=fn a b t (fo o l p x) (8-i) j/\M (λc=>c=r\/c=u\/ag<=c) R b8 from⟨0,d6,_,k.vv,k.pv,k.fv,J,O,cO.oo.1.bl b9 (Y bu.oo),λy=>b9.free (cO.2 y) (aR _ _ (cO.1 0 _ J)) (Y bu.oo),dx,UL aQ.2.1,cL,b9.mono λc _ h=>.inr h⟩);clear dx dy b9;go_wp2;go_loopw [21] (λKl wr=>∃(i:N) (w:aP) (j:ai) (d e f:V),Kl=i/\i<=8/\ax wr r ({k with vv:=d,pv:=e,fv:=f}:Zac).adZ/\(∀y,aH wr ⟨r,y,Z⟩=F)/\cN u ag w j wr/\lp (L b) a (8589934592*((2^i:N):I)-1) j/\aN=fn a b t (fo o l p x) (8-i) j/\M (λc=>c=r\/c=u\/ag<=c) R wr) (λKl _=>8-(aw Kl).toNat);obtain⟨i,w,j,d,e,f,cV,z⟩:=dz;exact⟨i,w,j,d,e,f,by rw[cV],z⟩;clear dz;obtain⟨i,w,j,d,e,f,rfl,d8,b',cW,aG,aC,ca,bE⟩:=hrel;obtain⟨a2,rfl⟩:=K wr;by_cases Ch:i<8;rotate_left
 ·have d9:i=8:=by omega
  subst d9;have ae:=a1 a2 bE;have Dk:=ae.2.2.1;have CJ:=ae.2.2.2.1;have G:=Q (cM.oo a2 ae.1 (by rw[ca];rfl));clear b' cW aG aC ca bE ae;go_wp2_with fail;have II:(aj a2 ad (S Z 0 0)).cell? ad=A (S Z 0 0):=bP _ _ _ nO;exact sK
 have er:=aJ i;have es:(i:I)<8:=O
 have ae:=a1 a2 bE;have⟨aW,bk⟩:=K a2.drew;have aD:B a2 a2 aW:=bk▸an a2;have dA:(2^i:N)<=2^8:=Nat.pow_le_pow_right av d8;have bb:8589934592*((2^i:N):I)-1<=9007199254740992/\0<=8589934592*((2^i:N):I)-1:=by have bF:1<=(2^i:N):=Nat.one_le_two_pow;generalize(2^i:N)=d' at dA bF⊢;omega
 have dB:B m m aW:=ae.1.trans (aD.mono ae.1.size);have dC:=Q (UB a o l p (S cS bX cT) (S cP cQ cR) (S (A u) (L b) (L b)) b j aW (aQ.1.cu.bw dB) aQ.2.2.1 aQ.1.ok aQ.1.dG ⟨_,_,_,J⟩ (by have:=(aG.bw aD).pi (Ju:=L b) (by rw[aC.1];exact aL _) (Y aQ.2.2.1);rwa [aC.1]at this) aC.1 (aC.mem bb.1));have cc:aN=match eM b l a j (L b) with
  |none=>(15,[])
  |some aS=>if eK (il a b t (fo o l p x) aS)=0 then(0,hD a b t (fo o l p x) aS)else if jE (il a b t (fo o l p x) aS)=T then(15,[])else fn a b t (fo o l p x) (7-i) (hE a (il a b t (fo o l p x) aS) j):=by
  rw[ca,show 8-i=(7-i)+1 by omega,fn];rfl
 have⟨eu,cX⟩:=K (eM b l a j (L b));rw[<-cX]at dC cc;have cY:=b' 10 _ J;rw[show({k with vv:=d,pv:=e,fv:=f}:Zac).oK=S (A u) (L b) (L b) from aF.1]at cY;have⟨bZ,b2,b3,b5,b6,b7⟩:=ae.2.1;have al:=Q (U b' (U cW (U aG (U aC (U bE (U aD (U cX bb)))))));change H _ at cc;clear b' cW aG aC ca bE aD cX bb dA dB ae;go_upto_region 5 with fail;refine bv [1,2,3,100,104,205,6,7,8,9,10] ?_;rw[<-bk];clear bk;iterate 5 refine mS ?_
 refine aU λdw ae=>?_;go_simp;refine dC.mono ?_;rintro h aI ⟨bx,⟨bz,rfl⟩|⟨aS,cd,ce,cf,bz,rfl,dD⟩⟩
 ·refine ae _ _ (.mk (q al.2.2.2.2.2.1 bx)) ?_;clear bZ b2 b3 b5 b6 b7 cY;iterate 5 refine mS ?_
  refine bc ?_;have bA:=al.2.2.2.2.1.then (q al.2.2.2.2.2.1 bx);have be:=a1 aI bA;have Dk:=be.2.2.1;have CJ:=be.2.2.2.1;have G:=Q (cM.oo aI be.1 (by rw[cc,bz]));clear bx bz bA be;go_wp2_with fail;have II:(aj aI ad (S Z 0 0)).cell? ad=A (S Z 0 0):=bP _ _ _ nO;exact sK
 refine ae _ _ (.mk (q al.2.2.2.2.2.1 bx)) ?_;clear bZ b2 b3 b5 b6 b7 cY;iterate 5 refine mS ?_
 refine bc ?_;have bJ:=q al.2.2.2.2.2.1 bx;have bA:=al.2.2.2.2.1.then bJ;have be:=a1 aI bA;have P:=aQ.1;have eb:m<=r:=bi bu.oo dT.oo
 have dE:r<a2:=aR _ _ (al.1 0 _ J);have cZ:=bz.symm.trans al.2.2.2.2.2.2.1;have dF:=Q (Us r a {k with vv:=d,pv:=e,fv:=f} (S cd ce cf) b t aS aI ⟨by rw[show({k with vv:=d,pv:=e,fv:=f}:Zac).cv=S cS bX cT from aF.2.1];exact bG.dj.later P.cu be.1 (λc h=>O),by rw[show({k with vv:=d,pv:=e,fv:=f}:Zac).dv=S cP cQ cR from aF.2.2.1];exact bt.dj.later P.gr be.1 (λc h=>O),aQ.2.2.1,P.ok,P.dG,P.tb,P.db,aF.2.2.2.1,by rw[show({k with vv:=d,pv:=e,fv:=f}:Zac).gU=x from aF.2.2.2.2.2.2.2];exact aQ.2.2.2⟩ (al.1.bw bJ) (λy=>aY bJ dE (al.2.1 y)) (dD.mono λc h=>by have:=al.2.2.2.2.2.1.size;show c<aW;omega) (u' cZ.symm) (AY (AX P.ok P.dG cZ.symm)) ⟨_,_,_,aF.1⟩);have⟨D,hF⟩:=K (il a b t (fo o l p x) aS);have⟨cg,aG⟩:=K (hD a b t (fo o l p x) aS);have a3:({k with vv:=d,pv:=e,fv:=f}:Zac).i1=o/\({k with vv:=d,pv:=e,fv:=f}:Zac).i2=l/\({k with vv:=d,pv:=e,fv:=f}:Zac).i3=p/\({k with vv:=d,pv:=e,fv:=f}:Zac).gU=x:=⟨aF.2.2.2.2.1,aF.2.2.2.2.2.1,aF.2.2.2.2.2.2.1,aF.2.2.2.2.2.2.2⟩
 rw[show il a b t {k with vv:=d,pv:=e,fv:=f} aS=D by rw[hF];unfold il;rw[a3.1,a3.2.1,a3.2.2.1,a3.2.2.2];rfl,show hD a b t {k with vv:=d,pv:=e,fv:=f} aS=cg by rw[aG];unfold hD;rw[a3.1,a3.2.1,a3.2.2.1,a3.2.2.2];rfl]at dF;have dH:L D=a:=by rw[hF];simp[il]
 have dI:L cg=a:=by rw[aG];simp[hD]
 have ec:=Q (show aN=if eK D=0 then(0,cg)else if jE D=T then(15,[])else fn a b t (fo o l p x) (7-i) (hE a D j) by rw[cc,bz];dsimp only;rw[<-hF,<-aG]);have bf:=Q (U bA (U (al.oo.2.2.1.bw bJ) (U dH dI)));have dV:=P.dG;clear bx bz bA be P eb dE cZ hF aG a3 dH dI dD bJ;go_wp2_with fail;refine dF.mono ?_;rintro h bK ⟨rfl,⟨ev,bL,dt,bB⟩,c6⟩;have c7:=bf.1.tr (c6.mono λc _ h=>.inl h);have bM:=a1 bK c7;have Dk:=bM.2.2.1;have CJ:=bM.2.2.2.1;obtain⟨a4,a5,a6,rfl,ed,ee⟩:=bB.day.form;clear ed ee;have dJ:cN u ag w j bK:=bf.2.1.aO c6 λc _ h=>Y bu.oo
 have c8:=bB.aA 8 _ J;have ch:=bB.aA 9 _ J;dsimp only at c8 ch;have⟨cj,c9⟩:=K (eK D);have c':=Q (show aN=if cj=0 then(0,cg)else if jE D=T then(15,[])else fn a b t (fo o l p x) (7-i) (hE a D j) by rw[c9];exact ec);have ck:=Q (U bB (U c7 (U dJ bM.1)));rw[<-c9];have ef:=Q (λ(h:cj=0)=>show oM m aN (aq (aZ #[ao #[S a4 a5 a6],(0:I)])) (aj bK ad (S a4 a5 a6))from⟨a4,a5,a6,by rw[c',am h],by
  rw[c',am h];have eg:ad<aI/\(m:N)<=aI:=by have bF:=aR _ _ ((a1 aI bf.1).2.2.1);exact⟨bF,(a1 aI bf.1).1.size⟩
  exact(bB.off (by rw[bf.2.2.2];omega)).set ⟨ad,0,Z⟩ _ eg.1 (λc h=>by show c<aI;omega),bM.1.setCell (p:=⟨ad,0,Z⟩) (by show m<=ad;have:=bu.oo;omega) _⟩)
 clear c9 bB c7 bM dJ c6;by_cases bN:cj=0;·have G:=Q (ef.oo bN);subst bN;clear ch;go_wp2_with fail;clear c8;have II:(aj bK ad (S a4 a5 a6)).cell? ad=A (S a4 a5 a6):=bP _ _ _ nO;clear Dk CJ;exact b0 (v:=aZ #[ao #[S a4 a5 a6],(0:I)]) vv J G
 have dK:=Q (UG bL D bK ck.1.ints (by rw[bf.2.2.1];omega));have⟨dL,da⟩:=K (jE D);rw[<-da]at dK;have dM:=Q (show aN=if dL=T then(15,[])else fn a b t (fo o l p x) (7-i) (hE a D j) by rw[da,c'.oo,ak bN]);have ew:(cj==0)=F:=X bN
 clear da bN Dk CJ c8;go_wp2_with fail;refine mU dK λbn bO=>?_;have cl:=ck.2.1.then bO;have a8:=ck.1.bw bO;have dc:=ck.2.2.1.bw bO;cases dL with
  |true=>have cm:=a1 bn cl;have Dk:=cm.2.2.1;have CJ:=cm.2.2.2.1;have G:=Q (cM.oo bn cm.1 (by rw[dM];rfl));clear bO cl a8 dc cm ch;go_wp2_with fail;have II:(aj bn ad (S Z 0 0)).cell? ad=A (S Z 0 0):=bP _ _ _ nO;exact sK
  |false=>have aC:=al.2.2.2.1;have bb:=al.2.2.2.2.2.2.2;have dd:=bu.oo;have bo:∀c,lo w c->ag<=c/\c<(aI:N):=λc h=>bf.2.1.kT h;have dN:∀g,M (lo w) bn g->aX g bL D:=λg ay=>(aX.own (c3 a8.iX ay λc eh h=>bi ((bI a8.iX c eh).1) ((bo c h).2))).1;have dO:=aF.2.2.2.1;have ei:=Q (uY r a 133 (λah g=>cN u ag w (hE ah D j) g/\M (lo w) bn g) (.inr (.inr J)) O (λah g z=>by have:=z.2.cell (a8.aA 0 _ J) (λh=>Y ((bo r h).1));rwa [show({k with vv:=S cd ce cf,pv:=S a4 a5 a6,fv:=bL}:Zac).n=(a:I)from dO]at this) (λah g cK z=>by have⟨⟨ej,de⟩,ek⟩:=A1 (I4:=D) aC bb.2 ah O;refine mU (Ux r u ag (L b) ah {k with vv:=S cd ce cf,pv:=S a4 a5 a6,fv:=bL} D w (hE ah D j) g (dN g z.2) (by rw[bf.2.2.1];exact cK) aQ.2.2.1 (a8.aA.bl z.2 λh=>Y ((bo r h).1)) dd.1 dd.2.2.1 aF.1 z.1 ej λcn co=>⟨by rw[(de cn co).1];exact cK,by rw[(de cn co).1];omega,((de cn co).2 ah).1,Int.le_trans (ek cn co ah (aL _)) (Int.le_trans bb.1 av)⟩) λdX ⟨bF,el⟩=>?_;exact⟨J,by rw[AZ];exact bF,z.2.tr el⟩) bn ⟨dc,M.refl _ _⟩);have em:=Q (λ(g:W) (z:cN u ag w (hE a D j) g/\M (lo w) bn g)=>show(∃(bC:N) (w:aP) (j:ai) (d e f:V),((i:I)+1=(bC:I))/\bC<=8/\ax g r ({k with vv:=d,pv:=e,fv:=f}:Zac).adZ/\(∀y,aH g ⟨r,y,Z⟩=F)/\cN u ag w j g/\lp (L b) a (8589934592*((2^bC:N):I)-1) j/\aN=fn a b t (fo o l p x) (8-bC) j/\M (λc=>c=r\/c=u\/ag<=c) R g)from⟨i+1,w,hE a D j,S cd ce cf,S a4 a5 a6,bL,O,O,a8.aA.bl z.2 λh=>Y ((bo r h).1),λy=>z.2.free (a8.bH y) (aR _ _ (a8.aA 0 _ J)) λh=>Y ((bo r h).1),z.1,by have:=(A1 (I4:=D) aC bb.2 a (aL _)).1;rwa [show 2*(8589934592*((2^i:N):I)-1)+1=8589934592*((2^(i+1):N):I)-1 by rw[Nat.pow_succ];generalize(2^i:N)=d';omega]at this,by rw[dM,show 8-(i+1)=7-i by omega];rfl,cl.trans z.2 I2 λc _ h=>.inr (.inr (bo c h).1)⟩);clear bO cl a8 dc aC bb dd bo dN dO ch;go_wp2_with fail;refine mU ei λen dP=>?_;have eo:=Q (em.oo en dP);clear dP;go_wp2;go_roundw;obtain⟨bC,w,j,d,e,f,cV,z⟩:=eo;exact⟨bC,w,j,d,e,f,by rw[<-cV],z⟩;exact bY
end
def US(a:ar):(a.filter λb=>decide (b≠[])).length<=a6 a:=by
 unfold a6;induction a with
  |nil=>simp
  |cons b a d=>rw[List.filter_cons];split;rename_i c;have:0<L b:=List.length_pos_iff.2 (X c);simp only[dx,dE,d5];omega;simp only[dE,d5];omega
def UT(b:N)(I0:ai)(c d e:I)(a:ag):(hq b I0 c d e a).length<=L a:=by have f:=(gt.fold (I9:=b) (I0:=I0) (veh:=c) (cap:=d) (len:=e) (f0 I0 (cF (a.map (·.1)))) (λJ4 h=>vA) _ (gt.start a (L a:I))).1.sum;unfold hq ro;refine a1 (US _) ?_;rw[f];exact aL _
def UU(b:N)(c:ai)(d e f:I)(g:N):∀(a:ar)(left:ag),(iN b c d e f g a left).2.length<=L a+g:=by
 induction g with
  |zero=>intro a left;simp[iN]
  |succ g h=>intro a left;rw[iN];split;have i:=h (dF a (al left (cO b c d e f a left)).1 (al left (cO b c d e f a left)).2 (c0 b c d e f a (al left (cO b c d e f a left)))) (left.eraseIdx (cO b c d e f a left));have j:=pS a (al left (cO b c d e f a left)).1 (al left (cO b c d e f a left)).2 (c0 b c d e f a (al left (cO b c d e f a left)));omega;simp
def UV{f:ai}{c:ag}:∀g∈f7 a f i j k c b,L g<=L c:=by intro g e;unfold f7 at e;simp only[cK]at e;rcases e with rfl|rfl|rfl|d;simp[dT];exact a1 (lU _ _ _ _ _).2 (UT _ _ _ _ _ _);exact a1 (lU _ _ _ _ _).2 (by simp[dT]);split at d;rename_i o;simp only[List.mem_singleton]at d;subst d;unfold mu;rw[am o];refine a1 (lU _ _ _ _ _).2 ?_;have:=UU a f i j k (L c) [] c;unfold e2;simpa using this;cases d
def UW(e:N)(f:ai)(g h i:I)(a:aV):(gH e f g h i a).2.2=[]\/(gH e f g h i a).2.2∈a:=by
 have l:∀(b:aV) (c:Bool×I×ar),(c.2.2=[]\/c.2.2∈a)->(∀j∈b,j∈a)->((b.foldl (oJ e f g h i) c).2.2=[]\/(b.foldl (oJ e f g h i) c).2.2∈a):=by
  intro b;induction b with
   |nil=>intro c d _;exact d
   |cons j b m=>intro c d k;refine m _ ?_ λn o=>k n (fs _ o);unfold oJ;split;split;exact .inr (k j (fV ..));exact d;exact d
 exact l a (F,0,[]) (.inl J) λ_ d=>d
def UX(b:N)(c:ai)(d e f:I)(a:ag)(h:N):a6 (ny b c d e f a h)<=L a/\(ny b c d e f a h).length<=L a:=by unfold ny;split;simp[a6];split;rcases UW b c d e f (f7 b c d e f a h)with g|g;rw[g];simp[a6];exact⟨AP _ g,UV _ g⟩;simp[a6]
def UY{c:a0}{f:ai}{b:Zac}{e:ar}(j:L c<=2000)(k:∀d,(ah e d).length<=64):b8 a 192320 (hD a c f b e):=by
 refine⟨by simp[hD],λd=>?_⟩;by_cases i:d<a;have h:aC (hD a c f b e) d=nA c f b.i1 b.i2 b.i3 e b.gU d:=by simp[aC,hD,List.getD,i]
 have l:=UX (L c) f b.i1 b.i2 b.i3 (g6 e (d:I) (L c)) b.gU.toNat;have m:=uX e (d:I) 64 k (L c);have n:L c*64<=2000*64:=Nat.mul_le_mul_right _ j;rw[h];unfold nA;omega;have h:aC (hD a c f b e) d=[]:=by simp[aC,hD,List.getD,i]
 rw[h];simp[a6]
def A3{c:a0}{h:ai}{i:Zac}(k:L c<=2000)(l:∀j,j<L c->dR a (aQ c j))(m:a<=64)(e:N)(f:ai)(b:(fn a c h i e f).1=0):b8 a 192320 (fn a c h i e f).2:=by
 induction e generalizing f with
  |zero=>exact absurd b (by simp[fn])
  |succ e n=>rw[fn]at b⊢;split at b;exact absurd b D;rename_i q o;split at b;rename_i g;rw[am g];exact UY k (AY (AX l m o));rename_i g;rw[ak g];split at b;exact absurd b D;rename_i p;rw[ak p];exact n _ b
def UZ{e:a0}{q:ai}{r:I}{h:aV}(m:∀n,n<L e->dR a (aQ e n))(o:a<=64)(u:0<a)(p:b8 a (b+192) h):b8 a b (ln e q i j k a l r h).1:=by
 unfold ln;split;exact p.mono O;rename_i z;have g:∀d:I,(d%(L e:I)).toNat<L e:=λd=>bi (Int.emod_nonneg d (bh ((L e:I)≠0))) (Int.emod_lt_of_pos d (bh ((0:I)<L e)))
 have s:∀d:I,(d%(a:I)).toNat<a:=λd=>bi (Int.emod_nonneg d (bh ((a:I)≠0))) (Int.emod_lt_of_pos d (bh ((0:I)<a)))
 exact SZ (AS m o (uF (JZ:=b+128) (λG t=>by rw[List.mem_singleton.1 t];exact m _ (g _)) o (p.mono D)) (g _) (g _)) (s _)
def iY(a:a0)(b:ai)(c d e:I)(f:N)(g:I)(h:E ar×I):N->E ar×I
 |0=>h
 |i+1=>ln a b c d e f g (iY a b c d e f g h i).2 (iY a b c d e f g h i).1
def A4{d:a0}{g:ai}{e:E ar×I}(h:∀f,f<L d->dR a (aQ d f))(m:a<=64)(n:0<a)(o:b8 a 192320 e.1)(c:N)(q:c<=1000):b8 a (192320-192*c) (iY d g i j k a l e c).1:=by
 induction c with
  |zero=>exact o
  |succ c p=>exact UZ h m n ((p O).mono O)
def lq(a:N)(b:a0)(c:ai)(d e f h i g:I):I×aV:=if(fn a b c (fo d e f g) 8 (kr (L b) a c)).1=0 then(0,(iY b c d e f a g ((fn a b c (fo d e f g) 8 (kr (L b) a c)).2,IntKind.u64.wrap h) i.toNat).1)else((fn a b c (fo d e f g) 8 (kr (L b) a c)).1,[])
def A5(a:N)(b:bz)(c d:N)(n:V)(e:W)(l:C e a=A n)(o:aH e a=F):ap ab 65 #[ao #[S b c d],aM (A a)] e (λf i=>(∃p,f=aq p)/\C i a=A (S b c d)/\aH i a=F/\M (λg=>g=a) e i):=by have⟨j,m,k,t,u⟩:=ec e (S b c d);have g1:=s k l;have q:=aY k (aR _ _ l) o;have h:=U (show(aj j a (S b c d)).cell? a=A (S b c d)from bP _ _ _ (by rw[g1];rfl)) (U (show(aj j a (S b c d)).frozen? a=F by rw[bs];exact q) ((M.bw (I':=λ_=>False) k).trans (M.grown (I':=λg=>g=a) (bn j ⟨a,0,Z⟩ (S b c d)) (λg f=>X f.symm)) (λ_ _ f=>f.elim) I2));change H _ at m h;go_in;go_upto_region 1 with fail;rw[m];go_wp2;go_end0;exact⟨⟨_,J⟩,h.1,h.2.1,h.2.2⟩
def vb(b:N)(d:I×aV)(e:W)(i:bp)(a:W):Prop:=i=aq d.1/\(∃f g h,C a b=A (S f g h)/\aI bq (λc=>c<(e:N)) a (S f g h) d.2)/\aH a b=F/\M (λc=>c=b) e a
def A6(a:W)(c:aP):∃b,a.alloc (az c.toArray 55)=b/\B a a b/\b.heap.size=(a:N)+1/\ax b a c:=⟨_,J,aN _ _,D,ax.new a c _⟩
def U0(c e:N)(h i j m g aV:I)(o:N)(a9 ba:V)(k:a0)(l:ai)(n:W)(bA:∀bb,M (λb=>b=c) n bb->e5 bb e a9 ba k l)(cf:DB l)(bc:L k<=2000)(cg:0<e)(bB:g<=1000000)(dm:o<=1000)(bC:C n c=A (S Z 0 0))(ch:aH n c=F):ap ab 64 #[ao #[e,h,i,j,a9,ba],ao #[m,o,g,aV],.func (.func 65) #[] #[aM (A c)]] n (vb c (lq e k l h i j m o g) n):=by
 have ad:=bA n (M.refl _ _);have⟨bD,cj,ck,cl,cm⟩:=bR n e h i j a9 ba;have⟨x,cn,bE,ar,bF⟩:=A6 bD [m,o,g,aV];rw[cl]at bF ar;have⟨v,bG⟩:=K (n:N);have aW:B n n x:=q ck bE;have bH:=cm.bw bE;have aX:ax x ((n:N)+1) [m,o,g,aV]:=bF;have bI:c<n:=aR _ _ bC;rw[<-bG]at bH aX ar;have co:=Q (UR e h i j g a9 ba k l x (ad.bw aW) cf bc bB);have⟨av,be⟩:=K (fn e k l (fo h i j g) 8 (kr (L k) e l));have bJ:av.1=0->b8 e 192320 av.2:=λbf=>by rw[be]at bf⊢;exact A3 bc ad.ok ad.dG 8 _ bf
 have ay:lq e k l h i j m o g=if av.1=0 then(0,(iY k l h i j e g (av.2,IntKind.u64.wrap m) o).1)else(av.1,[]):=by rw[be];rfl
 have⟨bK,a1⟩:=K (lq e k l h i j m o g);rw[<-be]at co;rw[<-a1]at ay⊢;obtain⟨bL,D⟩:=av;dsimp only at bJ ay;obtain⟨cp,cq,cr,rfl,_,_,_⟩:=ad.gr.open;obtain⟨cs,ct,cv,rfl,_,_,_⟩:=ad.cu.open;have G:=Q (U bH (U aX (U aW (U (s aW bC) (U (aY aW bI ch) (U bI (U ar bG)))))));have cY:=Q (U ad.ok (U ad.dG (U bc (U cg bB))));have a2:=Q (bh ((bD:N)=v+1));change H _ at cj cn ay bJ a1 be;change H _ at bA;clear ad ck bE cl ar cm bF aW bI bC ch cf bc cg bB;clear bG;go_in;go_upto_region 1 with(first|rw[cj]|rw[cn])
 rw[show (bD:N)=v+1 from a2,<-G.2.2.2.2.2.2.2];obtain⟨bM,bN,bO,bS,bT,bU⟩:=bH;have cZ:=aX 0 _ J;have bg:=aX 1 _ J;have bV:=aX 2 _ J;go_wp2_with fail;refine mF co λcw p r t ⟨ae,bW⟩=>?_;have⟨aA,cx,bi,c0,a4,bX⟩:=gB cw (S p r t);have⟨d,bZ⟩:=K (cw:N);rw[<-bZ]at a4 bX;have aC:=q bW bi;have cy:=G.1.bw aC;have cz:ax aA (v+1) [m,o,g,aV]:=λc1 c2 c3=>s aC (G.2.1 c1 c2 c3);have cA:=s aC G.2.2.2.1;have cB:=aY aC (aR _ _ G.2.2.2.1) G.2.2.2.2.1;have c4:=bW.size;have c5:=G.2.2.2.2.2;have aD:=Q (U cy (U cz (U cA (U cB (U (show aI bq (λa=>a<(x:N)\/a=d) aA (S p r t) D from ae.step bi.size (λb b0 _=>bi.block b b0) (λb b0 f=>by rcases f with f|f;exact f;omega)) (U (G.2.2.1.trans (aC.mono O)) (U (bh (v+1<d)) (bh (c<v)))))))));have bk:=Q (U a4 bX);change H _ at cx bZ;clear ae bW bi c0 a4 bX aC cy cz cA cB c4 c5 bM bN bO bS bT bU cZ bg bV;go_upto_region 2 with(rw[cx])
 rw[<-bZ];by_cases bm:bL=0;rotate_left
 ·have dn:(bL !=0)=T:=by simpa using bm
  have b2:=Q (show vb c bK n (aq bL) aA from⟨by rw[ay,ak bm],⟨Z,0,0,aD.oo.2.2.1,by rw[ay,ak bm];exact A2 _ _⟩,aD.2.2.2.1,M.bw aD.2.2.2.2.2.1⟩);go_wp2;go_ret;exact b2
 subst bm;have a1:=Q (show bK=(0,(iY k l h i j e g (D,IntKind.u64.wrap m) o).1) by rw[ay,am J]);have c6:=Q (A5 c p r t _ aA aD.2.2.1 aD.2.2.2.1);have a4:=bk.1;go_wp2_with fail;refine c6.mono ?_;rintro f aE ⟨⟨c7,rfl⟩,b3,cC,aF⟩;have ar:=G.2.2.2.2.2.2.1;have u:=aD.oo;have bn:d≠c:=Y u.2.2.2.2.2.2
 have cD:d<aA:=aR _ _ bk.1;have c8:c<x:=Y u.2.2.2.2.2.2.2
 have c9:aE.cell? ⟨v+1,0,none⟩=some (.int .i64 m):=aF.cell (u.2.1 0 _ rfl) (Y u.2.2.2.2.2.2.2);have b4:=AF m aE;have⟨y,b5⟩:=K (aE:N);rw[<-b5]at b4;have c':=aF.size;have da:=Q (show(∀w,B aE aE w->ci w v e h i j (S cs ct cv) (S cp cq cr)/\ax w (v+1) [m,o,g,aV]/\C w d=A (S p r t)/\aH w d=F/\C w c=A (S p r t)/\aH w c=F/\aI bq (λa=>a<(x:N)\/a=d\/a=y) w (S p r t) D/\M (λb=>b=c) n w)from λw a5=>by have dp:=u.2.2.2.2.2.2.2;have a6:M (λb=>b=c) aA w:=aF.then a5;refine⟨u.1.bl a6 O,u.2.1.bl a6 O,a6.cell bk.1 bn,a6.free bk.2 cD bn,s a5 b3,aY a5 (aR _ _ b3) cC,?_,(M.bw u.2.2.2.2.2.1).tr a6⟩;have db:aI bq (λa=>a<(x:N)\/a=d) aE (S p r t) D:=u.2.2.2.2.1.step aF.size (λb aG b6=>aF.block b aG λf=>b6 (.inl O)) I2;exact db.step a5.size (λb aG _=>a5.block b aG) (λb aG f=>by rcases f with f|f|f;exact .inl f;exact .inr f;omega));have al:=Q (show d≠c/\y≠c/\y≠d/\c<v/\v+1<d/\v+1<y/\x<=d/\x<=y/\v=(n:N)/\(x:N)=v+1+1 from⟨bn,O,O,u.2.2.2.2.2.2.2,u.2.2.2.2.2.2.1,Y u.2.2.2.2.2.2.1,Y u.2.2.2.2.2.2.1,Y u.2.2.2.2.2.2.1,G.2.2.2.2.2.2.2,O⟩);have dc:=Q b4;change H _ at b5;clear ar u bn cD c8 b4 c' aF b3 cC a4;go_wp2_with fail;refine mU dc λw ⟨cE,cF⟩=>?_;have R:=Q (da.oo w (b5.oo▸cF));have bg:=R.2.1 1 _ J;change H _ at cE;clear cF c9;go_wp2;go_loopw [28] (λb7 wr=>∃(b:N) (p:bz) (r t:N),b7=(b:I)/\b<=o/\C wr d=A (S p r t)/\aH wr d=F/\C wr c=A (S p r t)/\aH wr c=F/\aI bq (λa=>a<(x:N)\/a=d\/a=y) wr (S p r t) (iY k l h i j e g (D,IntKind.u64.wrap m) b).1/\d' wr y (iY k l h i j e g (D,IntKind.u64.wrap m) b).2/\M (λa=>a=c\/a=d\/a=y) w wr) (λb7 _=>o-(aw b7).toNat);exact⟨0,p,r,t,J,a3 _,R.2.2.1,R.2.2.2.1,R.2.2.2.2.1,R.2.2.2.2.2.1,R.2.2.2.2.2.2.1,cE,M.refl _ _⟩;obtain⟨b,p,r,t,rfl,b0,b9,b',bo,br,ae,a8,aL⟩:=hrel;obtain⟨ag,rfl⟩:=K wr;have bt:M (λa=>a=c) n ag:=R.2.2.2.2.2.2.2.trans aL I2 (λa cG f=>Y al.oo);by_cases Ch:b<o;rotate_left
 ·have dd:b=o:=by omega
  subst dd;have b2:=Q (show vb c bK n (aq (0:I)) ag from⟨by rw[a1],⟨p,r,t,bo,by rw[a1];exact ae.mono λa cG=>.inl (Y al.oo)⟩,br,bt⟩);clear b9 b' bo br ae a8 aL bt bg;go_wp2;go_ret;exact b2
 have dq:=aJ b;have dr:(b:I)<o:=O
 have⟨X,bu⟩:=K (iY k l h i j e g (D,IntKind.u64.wrap m) b);have aN:=cY.oo;have cH:b8 e 320 X.1:=by rw[bu];exact(A4 aN.1 aN.2.1 aN.2.2.2.1 (bJ dk) b O).mono O
 rw[<-bu]at ae a8;have de:=Q (Uq y e h i j g X.2 (S cs ct cv) (S cp cq cr) (S p r t) k l X.1 ag (λbb df=>bA bb (bt.trans df I2 (λa cG f=>Y al.oo))) ae.now cH aN.2.2.2.1 a8 aN.2.2.2.2);have a2:iY k l h i j e g (D,IntKind.u64.wrap m) (b+1)=ln k l h i j e g X.2 X.1:=by rw[bu];rfl
 have⟨bM,bN,bO,bS,bT,bU⟩:=R.1.bl aL (Y al.oo);have bV:C ag ⟨v+1,2,Z⟩=A (aa ac g):=aL.cell (R.2.1 2 _ J) (Y al.oo);have dg:=Q (U b9 (U b' (U bo (U br (U a8.lt aL)))));change H _ at a2;clear bu;clear ae a8 aL bt aN cH b' bo br bg;go_wp2_with fail;refine mF de λcc aO aP aQ ⟨cI,bv,an⟩=>?_;have P:=dg.oo;have cd:=al.oo;have bx:d<ag:=aR _ _ P.1;have ce:c<ag:=aR _ _ P.2.2.1;have cJ:=an.cell P.1 O;have cK:=an.free P.2.1 bx O;have⟨aS,aT⟩:=K (aj cc d (S aO aP aQ));have aU:M (λa=>a=d) cc aS:=aT▸ca cc d 0 _;have cL:C aS d=A (S aO aP aQ):=by rw[aT];exact bP _ _ _ (by rw[cJ];rfl)
 have cM:aH aS d=F:=by rw[aT,bs];exact cK
 have cN:=aU.cell (an.cell P.2.2.1 O) (bh (¬c=d));have cO:=aU.free (an.free P.2.2.2.1 ce O) (aR _ _ (an.cell P.2.2.1 O)) (bh (¬c=d));have dh:=Q (A5 c aO aP aQ _ aS cN cO);have cP:aI bq (λa=>a<(ag:N)) aS (S aO aP aQ) (ln k l h i j e g X.2 X.1).1:=by rw[aT];exact cI.set ⟨d,0,Z⟩ _ bx (λ_ bf=>bf)
 have cQ:d' aS y (ln k l h i j e g X.2 X.1).2:=⟨aU.cell bv.1 O,aU.free bv.2 bv.lt O⟩
 have di:=Q (U cL (U cM (U cP (U cQ (U ((P.2.2.2.2.2.trans an I2 (λa _ f=>.inr (.inr f))).trans aU I2 (λa _ f=>.inr (.inl f))) (U bx (U ce P.2.2.2.2.1)))))));have dj:=Q aT.symm;clear P cd bx ce aT aU cL cM cN cO cP cQ cI bv an bM bN bO bS bT bU bV b9;go_wp2_with fail;rw[dj];refine dh.mono ?_;rintro f cR ⟨⟨c7,rfl⟩,cS,cT,ah⟩;have z:=di.oo;have cd:=al.oo;have cU:=ah.cell z.1 O;have cV:=ah.free z.2.1 (aR _ _ z.1) O;have cW:aI bq (λa=>a<(x:N)\/a=d\/a=y) cR (S aO aP aQ) (iY k l h i j e g (D,IntKind.u64.wrap m) (b+1)).1:=by rw[a2];exact z.2.2.1.step ah.size (λa aG b6=>ah.block a aG λf=>b6 (by rw[f];exact z.2.2.2.2.2.2.1)) (λa _ f=>by have ds:=z.2.2.2.2.2.1;have dt:=z.2.2.2.2.2.2.2;show a<ag;omega)
 have cX:d' cR y (iY k l h i j e g (D,IntKind.u64.wrap m) (b+1)).2:=by rw[a2];exact⟨ah.cell z.2.2.2.1.1 O,ah.free z.2.2.2.1.2 z.2.2.2.1.lt O⟩
 have dl:=Q (U cU (U cV (U cS (U cT (U cW (U cX (z.2.2.2.2.1.trans ah I2 (λa _ f=>.inl f))))))));clear z cd cU cV cW cX cS cT ah cJ cK;go_wp2;go_roundw;case rel=>exact⟨b+1,aO,aP,aQ,aK,O,dl⟩
 exact bY
def U1(b:N)(l m n f c t:I)(d:N)(u v:V)(o:a0)(p:ai)(e:W)(w:e5 e b u v o p)(al:DB p)(am:L o<=2000)(an:0<b)(ar:c<=1000000)(av:d<=1000):ap ab 40 #[ao #[b,l,m,n,u,v],ao #[f,d,c,t]] e (oM e (lq b o p l m n f d c)):=by
 have⟨ay,aA,aC,aU,aD⟩:=bR e b l m n u v;have⟨aE,aF,G,aV,aG⟩:=A6 ay [f,d,c,t];have⟨aI,aJ,x,aW,M,P⟩:=gB aE (S Z 0 0);have⟨y,aK,g,aX,R,X⟩:=gB aI (S Z 0 0);have⟨a,ad⟩:=K (aE:N);have⟨ae,ag⟩:=K (aI:N);rw[<-ad]at M P;rw[<-ag]at R X;have z:=q (q (q aC G) x) g;have aL:e<a/\a<ae/\ae<y:=O
 have aN:=Q (U0 ae b l m n f c t d u v o p y (λbr a1=>w.bw (z.trans (a1.bg z.size λa2 a3 ah=>O))) al am an ar av R X);have⟨a4,a5,a6,a8,a9,ba⟩:=aD.bw (q (q G x) g);have r:ax y ay [f,d,c,t]:=λbb bc be=>s (q x g) (aG bb bc be);have bf:=r 0 _ J;have bh:=r 1 _ J;have bi:=r 2 _ J;have bk:=r 3 _ J;have⟨ak,aO⟩:=K (lq b o p l m n f d c);rw[<-aO]at aN⊢;obtain⟨bs,bt,bu,rfl,_,_,_⟩:=w.gr.open;obtain⟨bv,bx,bz,rfl,_,_,_⟩:=w.cu.open;have bl:=Q (U (s g M) (U (aY g O P) (U z aL)));change H _ at aA aF aJ aK ad ag aO;clear w al am an ar av aC G x g aU aV aW aX aD aG M P z aL r R X;go_in;go_upto_region 2 with(first|rw[aA]|rw[aF]|rw[aJ]|rw[aK])
 rw[<-ad,<-ag];go_wp2_with fail;refine aN.mono ?_;rintro ah aP ⟨rfl,⟨h,i,j,bA,aQ⟩,bm,D⟩;have k:=bl.oo;have bn:=D.cell k.1 O;have bB:=D.free k.2.1 O O;have aR:=Q (show oM e ak (aq (aZ #[ao #[S h i j],ak.1])) (aj aP a (S h i j))from⟨h,i,j,J,aQ.set ⟨a,0,Z⟩ _ (by show a<y;omega) (λbC ah=>Y k.2.2.1.size),(k.2.2.1.trans (D.bg k.2.2.1.size λa2 a3 ah=>O)).setCell (p:=⟨a,0,Z⟩) (by show e<=a;omega) _⟩);have aS:(aj aP a (S h i j)).cell? a=A (S h i j):=bP _ _ _ (by rw[bn];rfl);have⟨bo,aT⟩:=K ak.1;rw[<-aT]at aR⊢;change H _ at aS;clear k aQ D aT bm a4 a5 a6 a8 a9 ba bf bh bi bk;go_wp2_with fail;have bq:=aS.oo;exact b0 (v:=aZ #[ao #[S h i j],bo]) (by simp[results,results40,go_sem,bq]) J aR
def A7(a:W):∃b,a.alloc (az #[(0:I),(0:I),(0:I),(0:I)] 100)=b/\B a a b/\b.heap.size=(a:N)+1/\ax b a [(0:I),(0:I),(0:I),(0:I)]/\∀c,aH b ⟨a,c,Z⟩=F:=⟨_,J,aN _ _,D,ax.new a _ _,λc=>aE⟩
def U2{c:V}(d:ax w a [u,v,y,c])(u0 u1 u2 u3:V):ax (w.setCells a 0 [u0,u1,u2,u3]) a [u0,u1,u2,u3]:=by have:=(((d.set 0 u0 D).set 1 u1 D).set 2 u2 D).set 3 u3 D;simpa[World.setCells]using this
def U3(b:W)(a:N)(u0 u1 u2 u3:V):M (λc=>c=a) b (b.setCells a 0 [u0,u1,u2,u3]):=by have:=(((ca b a 0 u0).tr (ca _ a 1 u1)).tr (ca _ a 2 u2)).tr (ca _ a 3 u3);simpa[World.setCells]using this
def A8(a:N)(b:W):(Instr.sliceAt 100 (aM (A a)) Z Z Z).run ab b= .ok (S (A a) 4 4) b:=aT
def U4(aP:V)(f b c d:I)(k:W)(aQ:aX k aP [f,b,c,d])(ha:0<=b/\b<=1000)(aS:0<=c/\c<=1000)(aU:0<=d/\d<=1000):ap ab 25 #[aP] k (nv k f b c d):=by
 have⟨aV,aW,w,bf,ai,ak⟩:=nw k 0 0 0 0;have⟨o,a0,m,bh,l,x⟩:=A7 aV;have⟨e,al⟩:=K (aV:N);have⟨g,am⟩:=K (k:N);rw[<-al]at l x;rw[<-am]at ai ak;have bi:=aQ.bw (q w m);obtain⟨bL,bk,p,bm,bn,y⟩:=bi;rw[show([f,b,c,d]:ad).length=4 from J]at p y;subst p;obtain⟨an,ar,rfl,_⟩:=y 0 O;have av:=run_copy_cells (P:=ab) o 22 22 3 3 e 0 4 4 ⟨an,ar,Z⟩ 4 bk [f,b,c,d] underlying22 aT D (λa a1 j=>by
  have z:a<4:=by have:=(mX.1 j).1;simpa using this
  have⟨bO,bP,a3,bo⟩:=y a z;simp only[a2,bN,bT]at a3;obtain⟨rfl,rfl⟩:=a3;have ha:(⟨an,ar,Z⟩:bQ).add a=⟨an,ar+a,Z⟩:=hM
  rw[ha,bo];match a,z with
   |0,_=>simp at j;subst j;rfl
   |1,_=>simp at j;subst j;rfl
   |2,_=>simp at j;subst j;rfl
   |3,_=>simp at j;subst j;rfl) (λa j=>by
  have z:a<4:=X j
  rw[bX];match a,z with
   |0,_=>rw[l 0 _ J];rfl
   |1,_=>rw[l 1 _ J];rfl
   |2,_=>rw[l 2 _ J];rfl
   |3,_=>rw[l 3 _ J];rfl) (λa j=>x _) (by intro a1 a4;simp at a4;rcases a4 with rfl|rfl|rfl|rfl<;>rfl)
 have G:=U2 l f b c d;have ay:=U3 o e f b c d;have⟨P,aA⟩:=K (o.setCells e 0 [f,b,c,d]);rw[<-aA]at av G ay;have a5:∀i:I,0<=i/\i<=1000->dm i 0 1000=i:=λi a6=>qm
 have aC:H (∀(i:I) (R:W),0<=i/\i<=1000->ap ab 37 #[(i:I),(0:I),(1000:I)] R λp bq=>p=aq (i:I)/\R=bq):=Q λi R a6=>by have:=pB i 0 1000 R;rwa [a5 i a6]at this
 have br:e<o:=aR _ _ (l 0 _ J);have aD:∀a,aH P ⟨e,a,Z⟩=F:=λa=>by rw[aA];simpa[World.setCells,bs]using x a
 have⟨r,s⟩:=K (aj P ⟨e,1,Z⟩ b);have⟨t,u⟩:=K (aj r ⟨e,2,Z⟩ c);have⟨n,ae⟩:=K (aj t ⟨e,3,Z⟩ d);have aE:ax r e [f,b,c,d]:=by rw[s];exact G.set 1 _ D
 have aF:ax t e [f,b,c,d]:=by rw[u];exact aE.set 2 _ D
 have a8:ax n e [f,b,c,d]:=by rw[ae];exact aF.set 3 _ D
 have aG:∀a,aH r ⟨e,a,Z⟩=F:=λa=>by rw[s,bs];exact aD a
 have a9:∀a,aH t ⟨e,a,Z⟩=F:=λa=>by rw[u,bs];exact aG a
 have ag:M (λba=>ba=e) o n:=((ay.tr (s▸ca P e 1 _)).tr (u▸ca r e 2 _)).tr (ae▸ca t e 3 _);have v:g<e/\k<=g:=O
 have aI:ax n g [(0:I),(0:I),(0:I),(0:I)]:=(ai.bw m).bl ag O;have bb:∀a,aH n ⟨g,a,Z⟩=F:=λa=>ag.free (aY m O (ak a)) (Y m.size) O;have bc:B k k n:=(q w m).trans (ag.bg (q w m).size λba bR p=>O);have bt:=Q (show nv k f b c d (.returned (.agg #[.int .i64 f,.int .i64 b,.int .i64 c,.int .i64 d])) ((((n.setCell ⟨g,0,none⟩ (.int .i64 f)).setCell ⟨g,1,none⟩ (.int .i64 b)).setCell ⟨g,2,none⟩ (.int .i64 c)).setCell ⟨g,3,none⟩ (.int .i64 d))from⟨rfl,(((bc.setCell (p:=⟨g,0,none⟩) v.2 _).setCell (p:=⟨g,1,none⟩) v.2 _).setCell (p:=⟨g,2,none⟩) v.2 _).setCell (p:=⟨g,3,none⟩) v.2 _⟩);have ah:=Q (show ax ((((aj n g f).setCell ⟨g,1,Z⟩ b).setCell ⟨g,2,Z⟩ c).setCell ⟨g,3,Z⟩ d) g [f,b,c,d] by have:=(((aI.set 0 f D).set 1 b D).set 2 c D).set 3 d D;simpa using this);have aK:=Q (U ha (U aS aU));have h:=Q (U aE (U aG (U aF (U a9 (U a8 (U aI bb))))));have bS:=A8 e o;have be:=Q (U G aD);have bu:=Q s.symm;have bv:=Q u.symm;have bx:=Q ae.symm;change H _ at aW a0 al am av;clear aQ bm bn y w bf ai ak m bh l x aA G ay a5 br aD s u ae aE aF a8 aG a9 ag v aI bb bc ha aS aU;go_in;go_upto_region 2 with(first|rw[aW]|rw[a0])
 rw[<-al,<-am];go_upto_region 3 with(rw[av])
 have aL:=be.1 1 _ J;have bz:=be.2 1;go_wp2_with fail;refine wp_loop_rounds 4 ?_;rw[dA];go_wp2_with fail;refine mR (aC b P aK.1) ?_;go_wp2_with fail;try rw[bu]
 clear aL bz;have aN:=h.1 2 _ J;have bA:=h.2.1 2;rw[dA];go_wp2_with fail;refine mR (aC c r aK.2.1) ?_;go_wp2_with fail;try rw[bv]
 clear aN bA;have aO:=h.2.2.1 3 _ J;have bB:=h.2.2.2.1 3;rw[dA];go_wp2_with fail;refine mR (aC d t aK.2.2) ?_;go_wp2_with fail;try rw[bx]
 clear aO bB;have bC:=h.2.2.2.2.1 0 _ J;have aL:=h.2.2.2.2.1 1 _ J;have aN:=h.2.2.2.2.1 2 _ J;have aO:=h.2.2.2.2.1 3 _ J;have bD:=h.2.2.2.2.2.1 0 _ J;have bE:=h.2.2.2.2.2.1 1 _ J;have bF:=h.2.2.2.2.2.1 2 _ J;have bG:=h.2.2.2.2.2.1 3 _ J;have bH:=h.2.2.2.2.2.2 0;have bI:=h.2.2.2.2.2.2 1;have bJ:=h.2.2.2.2.2.2 2;have bK:=h.2.2.2.2.2.2 3;rw[dA];go_wp2_with fail;clear bC aL aN aO bD bE bF bG bH bI bJ bK;have Eb:=ah 0 _ J;have Dc:=ah 1 _ J;have Kg:=ah 2 _ J;have Fq:=ah 3 _ J;exact b0 (v:=ao #[f,b,c,d]) vH J bt
def nB(a:aV)(b:I):ad:=(dL b (dq a (L a))).map (·.1)
def U5(n:V)(g:I)(c:aV)(h:W)(r:bq h n c)(t:kj c):ap ab 141 #[ao #[n],g] h (l1 h (nB c g)):=by
 have⟨an,G,u,ar,av⟩:=ec h n;have v:=Q (tb n c g an (r.bw u) t);have⟨b,o⟩:=K (dL g (dq c (L c)));have aW:L b<=100000000000:=by rw[o];exact a1 (xf _ _) t
 have M:nB c g=b.map (·.1):=by rw[o];rfl
 unfold ta at v;rw[<-o]at v;rw[M];obtain⟨aX,aY,a0,rfl,_,_,_⟩:=r.open;change H _ at G u;clear r t ar o M;go_in;go_upto_region 1 with(rw[G])
 go_wp2_with fail;refine mF v λi a2 j a4 ⟨d,w⟩=>?_;have⟨a5,a6,a8,P,ax,_,R⟩:=d.di.open;simp only[bf]at P;obtain⟨rfl,rfl,rfl⟩:=P;have X:=Q ax;have x:=Q (U w (q u.oo w));change H _ at R;clear d w av;go_wp2;go_loopw [5,12] (λe y wr=>∃(a:N) (z:V),z=e/\y=a/\a<=j/\ay wr i z ((b.take a).map (·.1))/\B i i wr) (λ_ y _=>j-(aw y).toNat);exact⟨0,_,J,J,a3 _,ay.nil _ _,aS _ _⟩;obtain⟨a,aA,rfl,rfl,a9,d,k⟩:=hrel;obtain⟨f,rfl⟩:=K wr;by_cases Ch:a<j;rotate_left
 ·have aC:a=j:=by omega
  subst aC;rw[cm (by rw[X];exact aL _)]at d;have aD:=Q (show∀e,ay f i e (b.map (·.1))->l1 h (b.map (·.1)) (aq e) f from λe aF=>⟨e,J,aF.mono x.2.size,x.2.trans (k.mono x.2.size)⟩);have aG:=Q d;go_wp2;go_ret;exact aD _ aG
 have ba:=aJ a;have bb:(a:I)<j:=O
 obtain⟨bc,be,rfl,p,f1⟩:=R a Ch;have p:=s k p;have f1:=s k f1;have l:(b.take (a+1)).map (·.1)=(b.take a).map (·.1)++[(al b a).1]:=by rw[iq b a (by rw[X];exact Ch),ck];rfl
 have⟨aI,aO⟩:=K (al b a);rw[<-aO]at p f1 l;obtain⟨D,aP⟩:=aI;dsimp only at p f1 l;obtain⟨m,Y,ad,bg⟩:∃m,f.alloc (az #[D,aP] 224)=m/\B f f m/\C m f=A (aa ac D):=⟨_,J,aN _ _,aE⟩
 have ae:=d.bw ad;have ag:=k.trans (ad.mono k.size);have ah:((b.take a).map (·.1)).length+1<=17592186044416:=qk
 have⟨aQ,ai⟩:=K ((b.take a).map (·.1));rw[<-ai]at ae ah l;clear ai;have aR:=Q ag;have aT:=ag.size;change H _ at Y l;go_upto_region 5 with(rw[Y])
 go_wp2_with (at_builtin;refine hP J _ _ J m i aA aQ D J J ae ah aT ?_);intro z bh ak bi aU;rw[<-l]at ak;have am:=Q (U ak (aR.oo.trans aU));go_wp2;go_roundw;case rel=>exact⟨a+1,_,J,aK,O,am.1,am.2⟩
 exact bY
def U6{b:br}{JB:N->Bool}(c:a<L b)(e:JB (b6 b a)=T):b.any JB=T:=List.any_eq_true.2 ⟨_,m0 c,e⟩
def U7{J7:br}{JB:N->Bool}(c:∀a,a<L J7->JB (b6 J7 a)=F):J7.any JB=F:=by rw[List.any_eq_false];intro e d;obtain⟨a,b,rfl⟩:=gP d;have:=c a b;rw[show b6 J7 a=J7[a] by simp[b6,List.getD,b]]at this;simp[this]
def U8(o:V)(d:br)(e:I)(f:W)(hp:cA f o d)(z:L d<=1000000):ap ab 180 #[o,aa b1 e] f λr t=>∃g:I,r=aq (g:I)/\decide (0<=g)=d.any (λb=>decide (e=(b:I)))/\B f f t:=by
 obtain⟨D,h,G,rfl,k,_,_,p⟩:=hp.open;have M:h<=1000000:=O
 change H _ at p k;go_in;go_wp2;go_loopw [8] (λg wr=>∃a:N,a<=h/\g=(a:I)/\(∀c,c<a->decide (e=(b6 d c:I))=F)/\B f f wr) (λg _=>h-(aw g).toNat);exact⟨0,a3 _,J,λc i=>O,aS _ _⟩;obtain⟨a,P,rfl,l,m⟩:=hrel;obtain⟨R,rfl⟩:=K wr;have q:=Q m;change H _ at l;by_cases Ch:a<h
 ·obtain⟨U,Y,rfl,ad,n⟩:=p a Ch;have n:=s m n;obtain⟨b,hp⟩:∃b:I,b=(b6 d a:I):=⟨_,J⟩
  rw[<-hp]at n;have ae:=aJ a;have ag:(a:I)<h:=O
  by_cases j:e=b;·have u:=Q (U6 (JB:=λb=>decide (e=(b:I))) (show a<L d by rw[k];exact Ch) (by rw[<-hp];simpa using j));subst j;go_wp2;go_ret;exact⟨_,J,by rw[u];simp,q⟩
  have w:=Q (show∀c,c<a+1->decide (e=(b6 d c:I))=F from λc i=>by rcases Nat.lt_succ_iff_lt_or_eq.1 i with x|rfl;exact l c x;rw[<-hp];simpa using j);have ah:(e==b)=F:=X j
  go_wp2;go_roundw;case rel=>exact⟨a+1,O,aK,w,q⟩
  exact bY
 have y:=Q (U7 (J7:=d) (JB:=λb=>decide (e=(b:I))) λc i=>l c (by rw[k]at i;omega));go_wp2;go_ret;exact⟨-1,J,by rw[y];rfl,m⟩
def U9(d:V)(a:br)(c:I)(b:W)(hp:cA b d a)(h:L a<=1000000):ap ab 142 #[d,aa b1 c] b (k4 b (a.any (λe=>decide (c=(e:I))))):=by have i:=Q (U8 d a c b hp h);go_in;go_wp2_with fail;refine i.mono ?_;rintro m j ⟨k,rfl,f,g⟩;have l:=Q (show k4 b (a.any (λe=>decide (c=(e:I)))) (aq (au (decide (0<=k)))) j from⟨by rw[f],g⟩);clear f g;go_wp2;go_ret;exact l
def sa(c:Cu)(a:aV)(b:I):I:=if(dL b (dq a (L a))).any (λd=>decide (d.2≠c.dm))=T then 9 else if c.ps.any (λe=>decide ((kS (nB a b) (nB a b).length:I)=(e:I)))=T then 0 else 10
def U'{b:ag}{JB:a4->Bool}(d:a<L b)(e:JB (al b a)=T):b.any JB=T:=by rw[show al b a=b[a] by simp[al,List.getD,d]]at e;exact List.any_eq_true.2 ⟨_,dY d,e⟩
def Va{b:ag}{JB:a4->Bool}(d:∀a,a<L b->JB (al b a)=F):b.any JB=F:=by rw[List.any_eq_false];intro f e;obtain⟨a,c,rfl⟩:=gP e;have:=d a c;rw[show al b a=b[a] by simp[al,List.getD,c]]at this;simp[this]
def Vb(an ar av ay:I)(aA aC aD:V)(r:a0)(f:aV)(b:N)(g:W)(bc:bG g aA r)(bM:b<L r)(aF:(aQ r b).ps.length<=1000000)(bN:∃be t c,aC=S be t c)(M:bq g aD f)(aG:kj f):ap ab 101 #[ao #[an,ar,av,ay,aA,aC,aD,b]] g (ch g (sa (aQ r b) f b)):=by
 have⟨bO,bg,aI,bP,P⟩:=um g an ar av ay aA aC aD b;obtain⟨ct,t,bR,rfl,bS,cu,bh⟩:=bc.open;obtain⟨bT,bU,bV,rfl⟩:=bN;obtain⟨aL,aO,aP,rfl,_,_,_⟩:=M.open;obtain⟨bW,bX,cv,rfl,_,bi⟩:=bh b O;have R:=bi.bw aI;have⟨a,bk⟩:=K (aQ r b);rw[<-bk]at R aF⊢;have bl:=R.ft;obtain⟨bm,bn,rfl,_⟩:=R.ft;have⟨Y,bo,ad,bZ,br⟩:=da bO a.kd a.dm (S bm a.ps.length bn) a.rt a.sz a.st a.ru a.hd;have aR:=q aI ad;have aT:=Q (tb (S aL aO aP) f b Y (M.bw aR) aG);have⟨u,aU⟩:=K (dL (b:I) (dq f (L f)));unfold ta at aT;rw[<-aU]at aT;have b0:=Q (λn d=>U5 (S aL aO aP) b f n (M.bw d) aG);obtain⟨ae,aW⟩:∃ae:I,ae=(kS (nB f b) (nB f b).length:I):=⟨_,J⟩
 have bs:=Q (λ(n:World) (i:Value) (b2:aX n i (nB f b))=>MS i _ n b2);rw[<-aW]at bs;have bt:=Q (λn d=>U9 (S bm a.ps.length bn) a.ps ae n (bl.bw d) aF);have⟨aY,a1⟩:=K (a.ps.any (λb3=>decide (ae=(b3:I))));rw[<-a1]at bt;have⟨v,a2⟩:=K (sa a f b);have bu:=Q (show v=if u.any (λi=>decide (i.2≠a.dm))=T then 9 else if aY=T then 0 else 10 by rw[a2,a1,aW,aU];rfl);rw[<-a2];have bv:ax Y g [an,ar,av,ay,S (A ⟨bW,bX,Z⟩) t bR,S bT bU bV,S aL aO aP,b]:=λe b4 k=>s ad (P e b4 k);have h:=Q (U bv (U br (U aR ad)));have b5:=P 4 _ J;have w:=P 7 _ J;obtain⟨b6,b7,b8,b9,b',ca,cc,cd,_⟩:=R;have Ch:b<t:=O
 have ce:=aJ b;have cf:(b:I)<t:=O
 change H _ at bg bo;clear bc bM aF M aG bS bh bi bk bl aI ad bP bZ aR br aU aW a1 a2 P bv Ch;go_in;go_upto_region 1 with(rw[bg])
 go_upto_region 2 with(rw[bo])
 clear b6 b7 b8 b9 b' ca cc cd b5 w;have a4:=h.1 6 _ J;have w:=h.1 7 _ J;go_wp2_with fail;refine mF aT λbx be ag cw ⟨bz,bA⟩=>?_;have⟨cx,cy,cz,bB,cg,_,bC⟩:=bz.di.open;simp only[bf]at bB;obtain⟨rfl,rfl,rfl⟩:=bB;have bD:=Q cg;change H _ at bC bA;clear bz a4 w;go_wp2;go_loopw [20] (λa5 wr=>∃(c:N),a5=(c:I)/\c<=ag/\(∀e,e<c->decide ((al u e).2≠a.dm)=F)/\B bx bx wr) (λa5 _=>ag-(aw a5).toNat);exact⟨0,J,a3 _,λe k=>absurd k (fx _),aS _ _⟩;obtain⟨c,rfl,cA,a6,d⟩:=hrel;obtain⟨l,rfl⟩:=K wr;have j:B Y Y l:=q bA d;have m:B g g l:=h.2.2.1.trans (j.mono h.2.2.1.size);change H _ at a6;by_cases Ch:c<ag
 ·obtain⟨cB,cC,rfl,o,f1⟩:=bC c Ch;have o:=s d o;have f1:=s d f1;have⟨ci,x⟩:=K (al u c);rw[<-x]at o f1;obtain⟨cj,y⟩:=ci;dsimp only at o f1;obtain⟨z,ah,D,cD⟩:∃z,l.alloc (az #[cj,y] 224)=z/\B l l z/\C z ⟨l,1,Z⟩=A (aa ac y):=⟨_,J,aN _ _,aE⟩
  have cE:=s (q j D) h.2.1.c1;have ce:=aJ c;have cf:(c:I)<ag:=O
  have bE:=Q (U (d.trans (D.mono d.size)) (m.trans (D.mono m.size)));by_cases p:y=a.dm
  ·have ck:(y !=a.dm)=F:=by simpa using p
   have cl:=Q (show∀e,e<c+1->decide ((al u e).2≠a.dm)=F from λe k=>by rcases Nat.lt_succ_iff_lt_or_eq.1 k with cm|rfl;exact a6 e cm;rw[<-x];simpa using p);have a8:=Q ah;clear ah;clear x p d j m D;go_upto_region 5 with(rw[a8])
   clear o f1;go_wp2;go_roundw;case rel=>exact⟨c+1,aK,O,cl,bE.1⟩
   exact bY
  have ck:(y !=a.dm)=T:=X p
  have G:=Q (show ch g v (aq (9:I)) z from⟨by rw[bu,am (U' (JB:=λi=>decide (i.2≠a.dm)) (show c<L u by rw[bD];exact Ch) (by rw[<-x];simpa using p))],bE.2⟩);have a8:=Q ah;clear ah;clear x p d j m D;go_upto_region 5 with(rw[a8])
  clear o f1;go_wp2;go_ret;exact G
 have bF:=Q (show v=if aY=T then 0 else 10 by rw[bu,ak (by rw[Va (JB:=λi=>decide (i.2≠a.dm)) λe k=>a6 e (by rw[bD]at k;omega)];simp)]);have co:=Q (b0.oo l m);have a4:=s j (h.1 6 _ J);have w:=s j (h.1 7 _ J);have a9:=Q (U j m);clear d j m;go_wp2_with fail;refine mE co λbH cp ⟨bI,ba⟩=>?_;have cq:=Q (bs.oo bH cp bI.ints);have bb:=q a9.1 ba;have cr:=s bb h.2.1.c2;have cs:=Q (bt.oo bH (q h.2.2.2 bb));have bJ:=Q (a9.oo.2.trans (ba.mono a9.2.size));clear bI ba bb a4 w;go_wp2_with fail;refine mR cq ?_;go_wp2_with fail;refine mU cs λbK bL=>?_;have ai:=bJ.trans (bL.mono bJ.size);clear cr bL;cases aY with
  |true=>have G:=Q (show ch g v (aq (0:I)) bK from⟨by rw[bF];rfl,ai⟩);clear ai;go_wp2;go_ret;exact G
  |false=>have G:=Q (show ch g v (aq (10:I)) bK from⟨by rw[bF];rfl,ai⟩);clear ai;go_wp2;go_ret;exact G
section
attribute [local go_sem] Oper.semAt_some
def sb(a:Cu)(b:aV)(c d:I):I:=eF a.st a.rt a.sz a.ru (jr b c d)
def Vc(d m n o:I)(p r i:V)(f:a0)(e:aV)(a:N)(g:W)(R:bG g p f)(X:a<L f)(Y:np f)(ad:(aQ f a).kd=2)(aA:∃aC h aD,r=S aC h aD)(s:bq g i e)(ae:kj e):ap ab 102 #[ao #[d,m,n,o,p,r,i,a]] g (ch g (sb (aQ f a) e d a)):=by
 have⟨ag,ah,j,aE,c⟩:=um g d m n o p r i a;have k:=Y a X ad;obtain⟨aF,h,aG,rfl,aI,a5,ai⟩:=R.open;obtain⟨aK,aL,aN,rfl⟩:=aA;have ak:=Q (λt aO=>zz d m n o (S aF h aG) (S aK aL aN) i e a t ⟨_,_,_,J⟩ ⟨_,_,_,J⟩ (s.bw aO) ae);obtain⟨a6,a8,a9,rfl,_,_,_⟩:=s.open;obtain⟨ba,bb,be,rfl,_,al⟩:=ai a O;have u:=al.bw j;have⟨b,am⟩:=K (aQ f a);rw[<-am]at u k⊢;obtain⟨aP,aR,rfl,_⟩:=u.ft;have v:me b.st b.rt b.sz (jr e d a):=⟨k.1,O,k.2.2.1,O,a1 (zy e d a) av⟩
 have⟨ar,w⟩:=K (jr e d a);rw[<-w]at v ak;have ax:=Q (λt x aS=>t7 b.kd b.dm (S aP b.ps.length aR) b.rt b.sz b.st b.ru b.hd x ar t aS v);have⟨y,z⟩:=K (eF b.st b.rt b.sz b.ru ar);rw[<-z]at ax;rw[show sb b e d a=y by rw[z,w];rfl];have⟨aT,D⟩:=K ag.drew;have G:=D▸an ag;have l:=Q (U j (U (q j G) G));have bf:=c 0 _ J;have bg:=c 1 _ J;have bh:=c 2 _ J;have bi:=c 3 _ J;have bk:=c 4 _ J;have bl:=c 5 _ J;have bm:=c 6 _ J;have bn:=c 7 _ J;obtain⟨bo,br,bs,bt,bu,bx,bz,bA,_⟩:=u;have aW:a<h:=O
 have bB:=aJ a;have bC:(a:I)<h:=O
 change H _ at ah;clear R X Y ad s ae aI ai al am j G aE c aW v k w z;go_in;go_upto_region 1 with(rw[ah])
 refine bv [0,1,3,102,104,5,106,107,208,209,10] ?_;rw[<-D];clear D;iterate 8 refine mS ?_
 refine aU λaX M=>?_;go_simp;refine mE (ak aT l.2.1) λaY x ⟨a2,P⟩=>?_;refine M _ _ (.mk (q l.2.2 P)) ?_;refine aU λaX M=>?_;go_simp;refine mU (ax aY x a2.ints) λa3 ay=>?_;refine M _ _ (.mk (q (q l.2.2 P) ay)) ?_;refine mS ?_;refine bc ?_;have a4:=Q (show ch g y (aq y) a3 from⟨J,q (q l.2.1 P) ay⟩);go_wp2;go_ret;exact a4
end
def lr(a:N):V:=.func (.func a) #[] #[]
def A9(a:W)(b:N):Prop:=a.heap[b]? =A (.map #[{key:=aa ac 1,val:=lr 101,born:=0},{key:=aa ac 2,val:=lr 102,born:=1}] 2)
def Vd(a:W):∃d c,(Instr.mapUpdate 172 (.map (A (a:N))) (1:I) (.func (.func 101) #[] #[])).run ab (a.alloc (.map #[] 0))= .ok () d/\(Instr.mapUpdate 172 (.map (A (a:N))) (2:I) (.func (.func 102) #[] #[])).run ab d= .ok () c/\A9 c a/\B a a c:=by have f:(a.alloc (.map #[] 0)).heap[(a:N)]? =A (.map #[] 0):=heap_alloc_last a _;have g:=rv (abp:=ab) (abr:=172) (abx:=aa ac 1) (aby:=lr 101) f underlying172 (λb=>iA underlying3 b _) underlying3 J;refine⟨_,_,g,(rv (abp:=ab) (abr:=172) (abx:=aa ac 2) (aby:=lr 102) (lX (Kw:=a.alloc (.map #[] 0)) (Js:=(a:N)) (J3:=.map ((#[]:Array MapEntry).push {key:=aa ac 1,val:=lr 101,born:=0}) (0+1)) D) underlying172 (λb=>iA underlying3 b _) underlying3 J),?_,?_⟩;exact lX (by simp[fe]);refine((aS a a).alloc (aL _) _).trans ((lW _ a _).bg D λk l b=>O)|>.trans ((lW _ a _).bg (by simp[fe]) λk l b=>O)
def Ve(f:A9 w a)(c:I):(c=1->(Instr.lookup 172 (.map (A a)) c T).run ab w= .ok (aZ #[lr 101,au T]) w)/\(c=2->(Instr.lookup 172 (.map (A a)) c T).run ab w= .ok (aZ #[lr 102,au T]) w):=by refine⟨λd=>rx (JL:=0) f underlying172 (λe=>iA underlying3 e _) underlying3 ?_,λd=>rx (JL:=1) f underlying172 (λe=>iA underlying3 e _) underlying3 ?_⟩;subst d;rfl;subst d;rfl
def nC(a:Cu)(b:aV)(d c:I):I:=if a.kd=1 then sa a b c else sb a b d c
def Vf(d:N)(w x y:I)(m i n:V)(e:a0)(a8:ai)(f:aV)(a:N)(c:W)(g:e5 c d m i e a8)(z:a<L e)(j:bq c n f)(M:kj f):ap ab 67 #[ao #[(d:I),w,x,y,m,i],ao #[n],a] c (ch c (nC (aQ e a) f d a)):=by
 obtain⟨aC,aD,aE,a9,aF⟩:=bR c (d:I) w x y m i;obtain⟨aG,aI,P,ba,R⟩:=ec aC n;obtain⟨bm,aK,bb,bc,X,D⟩:=Vd aG;have be:= @run_makeMap ab;obtain⟨bn,Y⟩:=K (aG:N);rw[<-Y]at X;obtain⟨bo,ad⟩:=K (aC:N);rw[<-ad]at R;have aL:=q aE P;have ae:=q aL D;have aN:=aF.bw P;have aO:=aN.bw D;have ag:=s D R;have ah:∃aP d aR,i=S aP d aR:=by obtain⟨aP,br,aR,bf,_⟩:=g.gr.open;exact⟨_,_,_,bf⟩
 have al:=g.ok a z;have aS:=Q (λ(o:W) (p:B c c o) (h:(aQ e a).ps.length<=1000000)=>Vb d w x y m i n e f a o (g.cu.bw p) z h ah (j.bw p) M);have an:=Q (λ(o:W) (p:B c c o) (h:(aQ e a).kd=2)=>Vc d w x y m i n e f a o (g.cu.bw p) z g.tb h ah (j.bw p) M);obtain⟨bs,bt,bu,rfl⟩:=ah;obtain⟨bv,aT,bx,rfl,bg,bz,aU⟩:=g.cu.open;obtain⟨bA,bB,bC,rfl,_,_,_⟩:=j.open;obtain⟨bD,bE,bF,rfl,_,aW⟩:=aU a O;have aX:=(aW.bw ae).c0;obtain⟨r,aY⟩:=K (aQ e a);rw[<-aY]at aS an al aX⊢;obtain⟨t,ar⟩:=K r.kd;rw[<-ar]at an aX;have bh:t=1/\r.ps.length<=1000000\/t=2:=by rw[ar];rcases al with⟨b,h,_⟩|⟨b,_⟩;exact .inl ⟨b,O⟩;exact .inr b
 obtain⟨k,G⟩:=K (nC r f d a);have bi:=Q (λ(j:t=1)=>show sa r f a=k by rw[G,nC,am O]);have bk:=Q (λ(j:t=2)=>show sb r f d a=k by rw[G,nC,ak O]);rw[<-G];have av:=Ve X t;have bl:a<aT:=O
 have bG:=aJ a;have bH:(a:I)<aT:=O
 have bI:¬((a:I)<0):=O
 obtain⟨a1,a2,a3,a4,a5,a6⟩:=aN;have l:=Q (U aO (U ag ae));change H _ at aD aI Y ad;clear g z j M aE P D a9 ba aF aO ag aL ae bg aU aW aY al ar G X bl R;go_in;go_upto_region 3 with(first|rw[aD]|rw[aI])
 clear a1 a2 a3 a4 a5 a6;go_upto_region 4 with fail;rw[<-Y,<-ad];clear bb bc be;obtain⟨a1,a2,a3,a4,a5,a6⟩:=l.1;have ag:=l.2.1;change H _ at av;rcases bh with⟨b,h⟩|b;·have ax:=av.1 b;have u:=Q (aS.oo aK l.2.2 h);rw[bi b]at u;clear b h;unfold lr at ax;go_wp2_with fail;refine mU u λay v=>?_;have aA:=Q (show ch c k (aq k) ay from⟨J,q l.2.2 v⟩);clear v;go_wp2;go_ret;exact aA
 have ax:=av.2 b;have u:=Q (an.oo aK l.2.2 b);rw[bk b]at u;clear b;unfold lr at ax;go_wp2_with fail;refine mU u λay v=>?_;have aA:=Q (show ch c k (aq k) ay from⟨J,q l.2.2 v⟩);clear v;go_wp2;go_ret;exact aA
def hG(a:a0)(d:ai)(e:N)(f g h:I)(b:aV):ad:=b.map (eZ (L a) d f g h)++(List.range (L a)).map λc:N=>nC (aQ a c) b e (c:I)
def A'{d:a0}{e:ai}{c:aV}(g:b<L c):ae (hG d e a i j k c) b=eZ (L d) e i j k (aC c b):=by simp[hG,ae,List.getD,aC,g,List.getElem?_append]
def Vg{c:a0}{f:ai}{d:aV}(g:b<L c):ae (hG c f a i j k d) (L d+b)=nC (aQ c b) d a (b:I):=by simp[hG,ae,List.getD,g]
def Ba(a:a0)(c:ai)(d:N)(e f g:I)(b:aV):(hG a c d e f g b).length=L b+L a:=by simp[hG]
def Vh(i:N)(n o p:I)(R Y ax:V)(r:a0)(u:ai)(j:aV)(v:W)(w:e5 v i R Y r u)(bD:L r<=2000)(bb:iH r)(bc:iG i n o p r u=0)(aN:bq v ax j)(be:kj j)(bf:eE j)(bE:L j=i):ap ab 41 #[ao #[i,n,o,p,R,Y],ao #[ax]] v (ch v (eK (hG r u i n o p j))):=by
 have⟨bg,bh,bi,bF,bk⟩:=bR v i n o p R Y;have⟨bG,bl,k,bH,aO⟩:=ec bg ax;have⟨b',aP⟩:=K (bg:N);rw[<-aP]at aO;have bm:=q bi k;have bn:=bk.bw k;have bo:=Q (λad d=>yQ i n o p R Y r u ad (w.cu.bw d) (w.gr.bw d) bb O);rw[bc]at bo;have bI:=Q (λad G d br=>Vf i n o p R Y ax r u j G ad (w.bw d) br (aN.bw d) be);obtain⟨bJ,bK,bL,rfl,_,_,_⟩:=w.gr.open;obtain⟨bM,l,bN,rfl,aR,_,_⟩:=w.cu.open;have bO:=Q (λad bP bS d hp bT=>tR i n o p bM l bN (S bJ bK bL) bP u bS ad (w.gr.bw d) hp O bT);have bU:=Q (λa=>cx.of (a1 (bf a).1 av));obtain⟨ca,f,cc,rfl,aT,cd,bs⟩:=aN.open;have bV:f=i:=O
 subst bV;have⟨e,hF⟩:=K (hG r u f n o p j);have bW:=Q (λb (bX:b<f)=>show eZ l u n o p (aC j b)=ae e b by rw[hF,A' O,aR]);have bZ:=Q (λG (br:G<l)=>show nC (aQ r G) j f (G:I)=ae e (f+G) by rw[hF,<-aT,Vg O,aT]);have bt:L e=f+l:=by rw[hF,Ba];omega
 rw[<-hF];have aU:=Q (AM e);have bu:=Q (AL e);have ay:=Q (U aR bt);have aA:=Q (U bn (U aO bm));have ce:l<=2000:=O
 have⟨aW,bv⟩:=K (eK e);rw[<-bv]at aU bu⊢;change H _ at bh bl aP;change H _ at bs;clear w bb bc aN be bf bE bi k bF bH bk bm aT hF bt aR bv bD;go_in;go_upto_region 1 with(first|rw[bh]|rw[bl])
 rw[<-aP];obtain⟨x,ag,ah,ak,t,al⟩:=bn;go_wp2_with fail;refine mU (bo bG aA.2.2) λaD aE=>?_;have m:=Q (U (aA.oo.1.bw aE) (U (s aE aA.oo.2.1) (q aA.oo.2.2 aE)));clear x ag ah ak t al aO aE;have⟨x,_,_,_,t,_⟩:=m.1;have aX:=m.2.1;go_wp2;go_loopw [22] (λa wr=>∃(b:N),a=(b:I)/\b<=f/\(∀a,a<b->ae e a=0)/\B aD aD wr) (λa _=>f-(aw a).toNat);exact⟨0,J,a3 _,λa M=>absurd M (fx _),aS _ _⟩;clear x t aX;obtain⟨b,rfl,bX,aF,d⟩:=hrel;obtain⟨b0,rfl⟩:=K wr;change H _ at aF;have P:=m.2.2.trans (d.mono m.2.2.size);by_cases Ch:b<f
 ·obtain⟨cf,cg,bx,bz,bA,rfl,aY,hp⟩:=bs b Ch;have aY:=s P aY;have b2:=aJ b;have b3:(b:I)<f:=by omega
  have⟨b4,bB,a2,b5,b6⟩:=c8 b0 (S bx bz bA);have aG:=P.trans (a2.mono P.size);have a4:=d.trans (a2.mono d.size);have a5:=Q (bO.oo b4 (S bx bz bA) (aC j b) aG (hp.bw aG) (bU b));rw[bW b Ch]at a5;have⟨y,g⟩:=K (ae e b);rw[<-g]at a5;have⟨x,ag,ah,ak,t,al⟩:=m.1.bw a4;have z:=Q (U aG a4);change H _ at bB g;clear d P a2 b5 aG a4 hp;go_upto_region 8 with(rw[bB])
  clear aY;go_wp2_with fail;refine mU a5 λa6 D=>?_;have am:=Q (U (q z.oo.1 D) (q z.oo.2 D));clear D x ag ah ak t al b6;by_cases h:y=0
  ·have a8:=Q (show∀a,a<b+1->ae e a=0 from λa M=>by rcases Nat.lt_succ_iff_lt_or_eq.1 M with a9|rfl;exact aF a a9;rw[<-g];exact h);subst h;go_wp2;go_roundw;case rel=>exact⟨b+1,aK,O,a8,am.2⟩
   exact bY
  have b7:(y !=0)=T:=X h
  have an:=Q (show ch v aW (aq y) a6 from⟨by rw[aU b (by rw[ay.2];omega) aF (by rw[<-g];exact h),g],am.1⟩);clear h;go_wp2;go_ret;exact an
 have b8:b=f:=O
 subst b8;have⟨_,_,_,_,t,_⟩:=m.1.bw d;have z:=Q (U d P);clear d P;go_wp2_with fail;clear t;go_loopw [36] (λa wr=>∃(c:N),a=c/\c<=l/\(∀a,a<b+c->ae e a=0)/\B aD aD wr) (λa _=>l-(aw a).toNat);exact⟨0,J,a3 _,aF,z.1⟩;obtain⟨c,rfl,ci,aI,k⟩:=hrel;obtain⟨bC,rfl⟩:=K wr;change H _ at aI;have ar:=m.2.2.trans (k.mono m.2.2.size);by_cases aL:c<l
 ·have ba:=Q (bI.oo bC c ar (by rw[ay.1];exact aL));rw[bZ c aL]at ba;have⟨y,g⟩:=K (ae e (b+c));rw[<-g]at ba;have⟨x,ag,ah,ak,t,al⟩:=m.1.bw k;have aX:=s k m.2.1;have b2:=aJ c;have b3:(c:I)<l:=by omega
  have z:=Q (U ar k);change H _ at g;clear k ar;go_wp2_with fail;refine mU ba λa6 D=>?_;have am:=Q (U (q z.oo.1 D) (q z.oo.2 D));clear D x ag ah ak t al aX;by_cases h:y=0
  ·have a8:=Q (show∀a,a<b+(c+1)->ae e a=0 from λa M=>by by_cases a9:a<b+c;exact aI a a9;rw[show a=b+c by omega,<-g];exact h);subst h;go_wp2;go_roundw;case rel=>exact⟨c+1,aK,O,a8,am.2⟩
   simp only[aw];first|exact dZ aL|exact ea aL O
  have b7:(y !=0)=T:=X h
  have an:=Q (show ch v aW (aq y) a6 from⟨by rw[aU (b+c) (by rw[ay.2];omega) aI (by rw[<-g];exact h),g],am.1⟩);clear h;go_wp2;go_ret;exact an
 have b9:c=l:=O
 have an:=Q (show ch v aW (aq (0:I)) bC from⟨by rw[bu λa M=>aI a (by rw[ay.2]at M;omega)],ar⟩);subst b9;clear k ar;go_wp2;go_ret;exact an
def oH.ino{d:a0}{c:ai}(b:oH (a:I) i j k d c)(g:bG w u d)(l:bt w v c):e5 w a u v d c/\DB c/\0<a:=⟨⟨g,a1 b.ln av,λn o=>by have:=b.cu n o;rwa [cW]at this,Y b.n1,b.vn,l,T2 b.db⟩,b.db,Y b.n1⟩
def Vi{c:a0}{g:ai}{h:I}(q:L c<=2000)(m:∀n,n<L c->dR a (aQ c n))(o:a<=64)(r:0<a)(w:b<=1000)(f:(lq a c g i j k l b h).1=0):b8 a 320 (lq a c g i j k l b h).2:=by unfold lq at f⊢;split at f;rename_i e;rw[am e];exact(A4 m o r (A3 q m o 8 _ e) _ O).mono O;rename_i e;exact absurd f e
structure cT where
 n:I
 dl:I
 cap:I
 len:I
 L:a0
 D:ai
instance:Inhabited cT:=⟨⟨0,0,0,0,[],[]⟩⟩
def Bb(b:Zaa)(a d:ad)(f:N):Option (cT×Bool):=(gx (ae a 0) b (ae d 0).toNat f [] F).bind λc=>(op (ae d 0) b c.2.2).bind λe=>if e.2=L b then A (⟨ae a 0,ae a 1,ae a 2,ae a 3,c.1,e.1⟩,c.2.1)else Z
def nD(a:Zaa):Option (cT×Bool):=if cp a 0=pw then if(d6 (cp a (em (L a) 0)) ji).2 then if(d6 (cp a (em (L a) (em (L a) 0))) iF).2 then Bb a (d6 (cp a (em (L a) 0)) ji).1 (d6 (cp a (em (L a) (em (L a) 0))) iF).1 (em (L a) (em (L a) (em (L a) 0)))else Z else Z else Z
def nE:Option (cT×Bool)->I×cT
 |none=>(2,default)
 |some (a,b)=>if b=T\/iG a.n a.dl a.cap a.len a.L a.D≠0 then(3,default)else(0,a)
def c7(a:ByteArray):I×cT:=nE ((fc a.size a).bind nD)
def Vj(a:ByteArray):0<=(c' a).1/\(c' a).1<=1000000000000000000:=by unfold c';split;simp;split;rename_i b;exact xm a _ b;simp
def Vk(c d:bD):∀b∈(d6 c d).1,0<=b/\b<=1000000000000000000:=by intro b a;unfold d6 at a;split at a;unfold dy at a;split at a;obtain⟨e,_,rfl⟩:=List.mem_map.1 a;exact Vj e;cases a;cases a
def Vl{a:ad}(e:∀c∈a,0<=c/\c<=i)(g:0<=i)(b:N):0<=ae a b/\ae a b<=i:=by by_cases f:b<L a;exact e _ (hO f);rw[m1 O];omega
def Vm{j:Zaa}{e g:a0}{h k:Bool}(d:gx i j a b e h=A (g,k,c)):L g=L e+a:=by
 induction a generalizing b e h with
  |zero=>rw[gx]at d;cases d;omega
  |succ a m=>rw[gx]at d;have⟨q,_,n⟩:=Option.bind_eq_some_iff.1 d;have:=m n;rw[bL,eu]at this;omega
def Bc{b:bD}{c:Cu}{e:Bool}(a:ry i b=A (c,e)):(∀d∈c.ps,d<18446744073709551616)/\c.ps.length<=L b:=by
 cases b with
  |nil=>cases a
  |cons j f=>
   rw[ry]at a;split at a;cases f with
   |nil=>cases a
   |cons k l=>rw[ng]at a;split at a;cases a;refine⟨λd hp=>?_,aF⟩;obtain⟨g,_,rfl⟩:=List.mem_map.1 hp;exact Pf g;cases a
   split at a;unfold kZ at a;split at a;cases a;exact⟨λd hp=>(by cases hp),D⟩;cases a;cases a
def Bd{h:Zaa}{d j:a0}{k p:Bool}(q:∀b,(cp h b).length<=1000000)(f:gx i h a b d k=A (j,p,c))(m:iH d):iH j:=by
 induction a generalizing b d k with
  |zero=>rw[gx]at f;cases f;exact m
  |succ a r=>
   rw[gx]at f;have⟨⟨w,x⟩,n,s⟩:=Option.bind_eq_some_iff.1 f;refine r s λg t=>?_;rw[bL,eu]at t;by_cases o:g<L d;rw[sV o];exact m g o;have:g=L d:=O
   subst this;rw[sW];exact⟨(Bc n).1,a1 (Bc n).2 (q b)⟩
section
attribute [local go_sem] Oper.semAt_some
def Be(a:cT)(b c:V):aP:=[a.n,a.dl,a.cap,a.len,b,c]
def Bf(a:W)(b:I×cT)(k:bp)(c:W):Prop:=∃e f g h i j,k=aq (aZ #[ao (Be b.2 (S e f g) (S h i j)).toArray,b.1])/\B a a c/\aI bG (λd=>d<(a:N)) c (S e f g) b.2.L/\aI bt (λd=>d<(a:N)) c (S h i j) b.2.D
def vc(a:W)(c:aP)(e:bj):∃b,a.alloc (az c.toArray e)=b/\B a a b/\ax b a c/\∀d,aH b ⟨a,d,Z⟩=F:=⟨_,J,aN _ _,ax.new a c _,λd=>aE⟩
def oN(b:W)(a:N)(c d e f g h:V):W:=(((((aj b a c).setCell ⟨a,1,Z⟩ d).setCell ⟨a,2,Z⟩ e).setCell ⟨a,3,Z⟩ f).setCell ⟨a,4,Z⟩ g).setCell ⟨a,5,Z⟩ h
def Vn{i j k:V}(l:ax w a [u,v,y,i,j,k])(b c d e f g:V):ax (oN w a b c d e f g) a [b,c,d,e,f,g]:=by have:=(((((l.set 0 b D).set 1 c D).set 2 d D).set 3 e D).set 4 f D).set 5 g D;simpa[oN]using this
def Vo(b:W)(a:N)(c d e f g h:V):M (λi=>i=a) b (oN b a c d e f g h):=(((((ca b a 0 c).tr (ca _ a 1 d)).tr (ca _ a 2 e)).tr (ca _ a 3 f)).tr (ca _ a 4 g)).tr (ca _ a 5 h)
def zI:aP:=[(0:I),(0:I),(0:I),(0:I),S Z 0 0,S Z 0 0]
def Bg(i j:W)(b:N)(k c d e f:I)(g h:V)(l:I×cT):Prop:=∃a,a=oN j b c d e f g h/\C a b=A (aa ac c)/\C a ⟨b,1,Z⟩=A (aa ac d)/\C a ⟨b,2,Z⟩=A (aa ac e)/\C a ⟨b,3,Z⟩=A (aa ac f)/\C a ⟨b,4,Z⟩=A g/\C a ⟨b,5,Z⟩=A h/\Bf i l (aq (aZ #[ao #[c,d,e,f,g,h],k])) a
def Bh{I3:I}{I7:cT}{i j:bz}(G:a=w)(l:ax x a zI)(v:B w w x)(y:aI bG (λf=>f<=a) x (S i b c) I7.L)(z:aI bt (λf=>f<=a) x (S j d e) I7.D):Bg w x a I3 I7.n I7.dl I7.cap I7.len (S i b c) (S j d e) (I3,I7):=by have g:=Vn l I7.n I7.dl I7.cap I7.len (S i b c) (S j d e);have h:=Vo x a I7.n I7.dl I7.cap I7.len (S i b c) (S j d e);refine⟨_,J,g 0 _ J,g 1 _ J,g 2 _ J,g 3 _ J,g 4 _ J,g 5 _ J,i,b,c,j,d,e,J,v.trans (h.bg v.size λf h s=>O),?_,?_⟩;exact y.step h.size (λf l u=>h.block f l λs=>u O) (λf _ s=>O);exact z.step h.size (λf l u=>h.block f l λs=>u O) (λf _ s=>O)
def Vp(a:aD)(b:W):aI bG a b (S Z 0 0) []:=λc _ _=>bG.nil c
def Vq(a:aD)(b:W):aI bt a b (S Z 0 0) []:=λc _ _=>bt.nil c
def oO(c a:W)(b:N)(d e f g h:I)(i j:V)(k:I×cT):Prop:=(ax a b zI/\∀l,aH a ⟨b,l,Z⟩=F)/\Bg c a b d e f g h i j k
def ls(c:I)(g:I×cT)(h:a=w)(f:(ax x a zI/\∀i,aH x ⟨a,i,Z⟩=F)/\B w w x/\p)(j:g=(c,default)):oO w x a c 0 0 0 0 (S Z 0 0) (S Z 0 0) g:=⟨f.1,j▸Bh (I3:=c) (I7:=default) h f.1.1 f.2.1 (Vp _ x) (Vq _ x)⟩
def lt{c:I}{d:I×cT}(b:oO w x a i j k l c u v d)(z:H (oO w x a i j k l c u v d)->p:=by intro b;have ad:=b.oo.1.1 0 _ J;have ae:=b.oo.1.2 0;have ag:=b.oo.1.1 1 _ J;have ah:=b.oo.1.2 1;have ai:=b.oo.1.1 2 _ J;have ak:=b.oo.1.2 2;have al:=b.oo.1.1 3 _ J;have am:=b.oo.1.2 3;have an:=b.oo.1.1 4 _ J;have ar:=b.oo.1.2 4;have av:=b.oo.1.1 5 _ J;have ax:=b.oo.1.2 5;have⟨G,e,f⟩:=b.oo.2;have g:=Q e.symm;have K:=Q f;clear e f;unfold oN at g;go_wp2_with fail;rw[show _=G from g];obtain⟨M,O,P,R,U,X,Y⟩:=K;exact b0 (by simp[results,results38,go_sem,M,O,P,R,U,X]) J Y):p:=z (Q b)
def Vr{c:I}{d:I×cT}(b:oO w x a i j k l c u v d)(z:H (oO w x a i j k l c u v d)->p:=by intro b;have ad:=b.oo.1.1 0 _ J;have ae:=b.oo.1.2 0;have ag:=b.oo.1.1 1 _ J;have ah:=b.oo.1.2 1;have ai:=b.oo.1.1 2 _ J;have ak:=b.oo.1.2 2;have al:=b.oo.1.1 3 _ J;have am:=b.oo.1.2 3;have an:=b.oo.1.1 4 _ J;have ar:=b.oo.1.2 4;have av:=b.oo.1.1 5 _ J;have ax:=b.oo.1.2 5;have⟨G,e,f⟩:=b.oo.2;have g:=Q e.symm;have K:=Q f;clear e f;unfold oN at g;go_wp2_with fail;rw[dA];go_wp2_with fail;rw[show _=G from g];obtain⟨M,O,P,R,U,X,Y⟩:=K;exact b0 (by simp[results,results38,go_sem,M,O,P,R,U,X]) J Y):p:=z (Q b)
def Vs(aK:ByteArray)(x:W)(aC:hU x)(dl:aK.size<=60000):ap ab 38 #[a7 aK] x (Bf x (c7 aK)):=by
 have⟨ck,cl,bC,bD,bE⟩:=vc x [(0:I),(0:I),(0:I),(0:I),S Z 0 0,S Z 0 0] 27;have⟨h,aL⟩:=K (c7 aK);rw[<-aL];have cR:=Q (Lr aK ck (aC.bw bC) O);have⟨X,i⟩:=K (x:N);rw[<-i]at bD bE;have aN:=Q (U (show ax ck X zI from bD) (U bE bC));unfold c7 at aL;change H _ at cl;change H _ at i aL;clear aC bD bE bC;go_in;go_upto_region 1 with fail;rw[cl];rw[<-i];go_wp2_with fail;refine cR.mono ?_;rintro aO j ⟨ad,ag,ah,dm,rfl,a1,cS⟩;have u:=Q (U (aN.oo.1.bw a1) (U (λv=>aY a1 (aR _ _ (aN.oo.1 0 _ J)) (aN.oo.2.1 v)) (aN.oo.2.2.trans (a1.mono aN.oo.2.2.size))));clear a1;rcases cS with⟨b,aP,rfl,cm⟩|⟨aP,rfl⟩;rotate_left;exact lt (ls 2 h i ⟨⟨u.1,u.2.1⟩,u.2.2,trivial⟩ (by rw[aL,aP];rfl));have⟨cU,bF⟩:=xj _ _ _ aP;have cn:h=nE (nD b):=by rw[aL,aP];rfl
 have aQ:L b<=1000000:=O
 have a2:∀k∈b,L k<=1000000/\∀ai∈k,ai.size<=65536:=λk t=>⟨Y ((bF k t).2.1),λai bH=>Y (((bF k t).2.2 ai bH).1)⟩
 have co:∀k∈b,∀ai∈k,ai.size<=1000000:=λk t ai bH=>Y ((a2 k t).2 ai bH)
 have cq:∀cr,(cp b cr).length<=1000000:=t3 (Jd:=λk=>L k<=1000000) D λk t=>(a2 k t).1;have⟨bI,cs,bJ,bK,bL⟩:=vc j [S ad ag ah,(0:I),(0:I),(0:I),(0:I),(0:I),S Z 0 0,S Z 0 0,(0:I),au F] 119;have⟨c,a4⟩:=K (j:N);rw[<-a4]at bK bL;obtain⟨bM,bN⟩:∃bM:cj,bM=⟨0,0,0,0,0,S Z 0 0,S Z 0 0,0,F⟩:=⟨_,J⟩
 have bO:cw j bI c (S ad ag ah) b bM:=⟨by rw[bN];exact bK,bL,cm,bJ,O⟩
 have⟨aS,ct,bP,bR,_⟩:=vc bI [.func (.func 51) #[aM (A c)] #[],.func (.func 52) #[aM (A c)] #[],.func (.func 53) #[aM (A c)] #[],.func (.func 54) #[aM (A c)] #[],.func (.func 55) #[aM (A c)] #[],.func (.func 56) #[aM (A c)] #[]] 31;have⟨cu,a5⟩:=K (bI:N);rw[<-a5]at bR;have a6:=q bJ bP;have cV:X<c:=by rw[a4];exact aR _ _ (u.1 0 _ J)
 have cW:c<cu:=by rw[a5];exact bO.lt
 have r:=Q (U (u.oo.1.bw a6) (U (λv=>aY a6 (aR _ _ (u.oo.1 0 _ J)) (u.oo.2.1 v)) (U (u.oo.2.2.trans (a6.mono u.oo.2.2.size)) (U (bO.bw bP) (U bR (U cV cW))))));have aT:=Q (U a2 (U co cq));have cX:=Q (bh ((L b)<=900000));change H _ at cs ct cn bN;change H _ at a4 a5;clear aP cm cU bF bJ bP bK bL bR bO a6 a2 co cq;go_upto_region 5 with(rw[cs])
 rw[<-a4];go_upto_region 6 with(rw[ct])
 rw[<-a5];have f:H (∀aD,M (λe=>e=c) aS aD->(ax aD X zI/\∀v,aH aD ⟨X,v,Z⟩=F)/\B x x aD/\ax aD cu [.func (.func 51) #[aM (A c)] #[],.func (.func 52) #[aM (A c)] #[],.func (.func 53) #[aM (A c)] #[],.func (.func 54) #[aM (A c)] #[],.func (.func 55) #[aM (A c)] #[],.func (.func 56) #[aM (A c)] #[]]):=Q λaD a=>by have a8:=r.2.2.2.2.2.1;have a9:=r.2.2.2.2.2.2;have ba:=aR _ _ (r.1 0 _ J);have cY:=r.2.2.1.size;have dp:=i.oo;refine⟨⟨r.1.bl a O,λv=>a.free (r.2.1 v) ba O⟩,r.2.2.1.trans (a.bg cY λe a aO=>O),r.2.2.2.2.1.bl a O⟩
 have bS:=Q (U (show cw j aS c (S ad ag ah) b ⟨0,0,0,0,0,S Z 0 0,S Z 0 0,0,F⟩from bN.oo▸r.oo.2.2.2.1) (M.refl (λe=>e=c) aS));have s:=(f aS bS.2).2.2 0 _ J;have y:=cn.oo;unfold nD at y;have⟨z,aC⟩:=K (L b);rw[<-aC]at y;have⟨bb,bc⟩:=K (em z 0);rw[<-bc]at y;have⟨aE,be⟩:=K (em z bb);rw[<-be]at y;have⟨bT,bf⟩:=K (em z aE);rw[<-bf]at y;have⟨cv,bU⟩:=K (d6 (cp b bb) ji);have⟨cx,bi⟩:=K (d6 (cp b aE) iF);rw[<-bU,<-bi]at y;have bV:=Vk (cp b aE) iF;rw[<-bi]at bV;have cy:bb<=z/\aE<=z/\bT<=z:=by have a8:=pF (JZ:=z) (Jq:=0) O;rw[<-bc]at a8;have a9:=pF a8;rw[<-be]at a9;have ba:=pF a9;rw[<-bf]at ba;exact⟨a8,a9,ba⟩
 have cz:=Q y;have g:=Q (U cy (U bc (U be (U bf (U bU (U bi (U aC bV)))))));clear y cy bc be bf bU bi aC bV;refine wp_loop_rounds 7 ?_;rw[dA];go_wp2_with fail;refine mU (OL c _ b _ j aS bS.1 aQ (a3 _)) λbW ⟨d,a⟩=>?_;rw[pE,<-g.2.2.2.2.2.2.1]at d;simp only[<-g.oo.2.1]at d;have a:=bS.2.tr a;have bk:=Q (U d a);clear d a s;by_cases aU:cp b 0=pw;rotate_left;rw[c9 aU];exact lt (ls 2 h i (f bW bk.2) (by rw[cz,ak aU];rfl));rw[dD aU];have cA:=Q (cz.oo.trans (by rw[am aU]));clear aU;have s:=(f bW bk.2).2.2 1 _ J;go_wp2_with fail;rw[dA];go_wp2_with fail;refine mU (OM c _ b _ j bW bk.1 aQ (by rw[<-g.2.2.2.2.2.2.1];exact g.1.1) aT.2.1) λbm ⟨d,a⟩=>?_;rw[pE,<-g.2.2.2.2.2.2.1]at d;simp only[<-g.oo.2.2.1,<-g.oo.2.2.2.2.1]at d;rw[show d6 (cp b bb) ji=cv from g.2.2.2.2.1.symm];have a:=bk.2.tr a;obtain⟨G,cZ⟩:=cv;have bn:=Q (U d a);clear d a s;cases cZ with
  |false=>exact lt (ls 2 h i (f bm bn.2) (by rw[cA,ak D];rfl))
  |true=>
 have cB:=Q (cA.oo.trans (by rw[am J]));have bo:=Q (U (show cw j bm c (S ad ag ah) b ⟨aE,ae G 0,ae G 1,ae G 2,ae G 3,S Z 0 0,S Z 0 0,0,F⟩from bn.oo.1) bn.oo.2);clear bn;have⟨l,bX⟩:=K (ae G 0);have⟨m,bY⟩:=K (ae G 1);have⟨n,bZ⟩:=K (ae G 2);have⟨o,b2⟩:=K (ae G 3);rw[<-bX,<-bY,<-bZ,<-b2]at bo;have bq:=Q (U bX (U bY (U bZ b2)));clear bX bY bZ b2;dsimp only;have s:=(f bm bo.2).2.2 2 _ J;go_wp2_with fail;rw[dA];go_wp2_with fail;refine mU (ON c _ b _ j bm bo.1 aQ (by rw[<-g.2.2.2.2.2.2.1];exact g.1.2.1) aT.2.1) λbr ⟨d,a⟩=>?_;rw[pE,<-g.2.2.2.2.2.2.1]at d;simp only[<-g.oo.2.2.2.1,<-g.oo.2.2.2.2.2.1]at d;rw[show d6 (cp b aE) iF=cx from g.2.2.2.2.2.1.symm];have a:=bo.2.tr a;obtain⟨c0,c1⟩:=cx;have bs:=Q (U d a);clear d a s;cases c1 with
  |false=>exact lt (ls 2 h i (f br bs.2) (by rw[cB,ak D];rfl))
  |true=>
 have c2:=Q (cB.oo.trans (by rw[am J]));have⟨Zab,bt⟩:=K (ae c0 0);have b3:0<=Zab/\Zab<=1000000000000000000:=bt▸Vl g.2.2.2.2.2.2.2 av 0;have b4:=Q (U (show cw j br c (S ad ag ah) b ⟨bT,l,m,n,o,S Z 0 0,S Z 0 0,Zab,F⟩from bt▸bs.oo.1) bs.oo.2);have⟨bu,bv⟩:=K (gx l b Zab.toNat bT [] F);have cC:=Q (show h=nE (bu.bind λb5=>(op Zab b b5.2.2).bind λaV=>if aV.2=L b then A (⟨l,m,n,o,b5.1,aV.1⟩,b5.2.1)else Z) by rw[c2,bv,bt,bq.oo.1,bq.oo.2.1,bq.oo.2.2.1,bq.oo.2.2.2];rfl);have cE:=Q (Pt c _ b _ j br b4.1 (cD.nil _ _) J aQ (by rw[<-g.2.2.2.2.2.2.1];exact g.1.2.2) aT.1 b3.2);rw[<-bv]at cE;have cF:=Q bv;change H _ at b3;clear bs bt bv;dsimp only;have s:=(f br b4.2).2.2 3 _ J;go_wp2_with fail;rw[dA];go_wp2_with fail;refine mU (cE) λbx ⟨a,al⟩=>?_;have b6:=b4.2.tr a;change H _ at b6;clear s;cases bu with
  |none=>clear al;simp only[Option.isSome_none];exact lt (ls 2 h i (f bx b6) (by rw[cC];rfl))
  |some bu=>
 obtain⟨p,aF,b7⟩:=bu;have⟨b8,d,aW,cG,c3⟩:=al p aF b7 J;have b9:=Q (U (show cw j bx c (S ad ag ah) b ⟨b7,l,m,n,o,b8,S Z 0 0,Zab,aF⟩from d) b6.oo);have cH:=Vm cF.symm;rw[et]at cH;have cI:iH p:=Bd aT.2.2 cF.symm (λe a=>absurd a D);have cJ:0<=Zab/\Zab<=1000000:=Y b3.1
 have cK:L p<=900000:=Y cX.oo
 have b':=Q (Pu c _ b _ p j bx b9.1 aW J aQ cG aT.1 cJ);have⟨bz,ca⟩:=K (op Zab b b7);have cc:=Q (show h=nE (bz.bind λaV=>if aV.2=L b then A (⟨l,m,n,o,p,aV.1⟩,aF)else Z) by rw[cC,ca];rfl);dsimp only at b';rw[<-ca]at b';have cL:=Q (U cI cK);clear al d aW cG c3 cH cI cJ cK ca;simp only[Option.isSome_some];have s:=(f bx b9.2).2.2 4 _ J;go_wp2_with fail;rw[dA];go_wp2_with fail;refine mU (b') λaX ⟨a,al⟩=>?_;have cd:=b9.2.tr a;change H _ at cd;clear s;cases bz with
  |none=>clear al;simp only[Option.isSome_none];exact lt (ls 2 h i (f aX cd) (by rw[cc];rfl))
  |some bz=>
 obtain⟨an,ce⟩:=bz;have⟨c4,d,aW,cM,c5⟩:=al an ce J;have bA:=Q (U (show cw j aX c (S ad ag ah) b ⟨ce,l,m,n,o,b8,c4,Zab,aF⟩from d) cd.oo);have cf:=Q (U (show aI bG (λe=>e<=c) aX b8 p from aW) cM);clear al d aW cM c5;simp only[Option.isSome_some];have s:=(f aX bA.2).2.2 5 _ J;go_wp2_with fail;rw[dA];go_wp2_with fail;refine mU (OK c _ b _ j aX bA.1) λP ⟨d,a⟩=>?_;have ar:=Q (bA.oo.2.tr a);have aG:=Q (U (cf.oo.1.step a.size (λe t cg=>a.block e t λaO=>cg O) (λe ch aO=>O)) (cf.oo.2.step a.size (λe t cg=>a.block e t λaO=>cg O) (λe ch aO=>O)));have R:=Q d;clear d a s cf bA;dsimp only;by_cases a0:ce=L b;rotate_left;rw[c9 a0];exact lt (ls 2 h i (f P ar) (by rw[cc];simp only[Option.bind_some,ak a0];rfl));rw[dD a0];have bB:=Q (show h=if aF=T\/iG l m n o p an≠0 then(3,default)else(0,⟨l,m,n,o,p,an⟩) by rw[cc];simp only[Option.bind_some,am a0];rfl);clear a0;have cN:=Q (U (aG.oo.1.mono (G':=λe=>e<=X) λe ch=>Y r.oo.2.2.2.2.2.1) (aG.2.mono (G':=λe=>e<=X) λe ch=>Y r.2.2.2.2.2.1));obtain⟨c8,c',da,rfl,_,_,_⟩:=(aG.1.now).open;obtain⟨db,dc,dd,rfl,_,_,_⟩:=(aG.2.now).open;have dq:=R.aA 9 _ J;cases aF with
  |true=>exact Vr (ls 3 h i (f P ar) (by rw[bB,am (Or.inl J)]))
  |false=>
 have de:=R.aA 2 _ J;have df:=R.aA 3 _ J;have dg:=R.aA 4 _ J;have dh:=R.aA 5 _ J;have di:=R.aA 6 _ J;have dj:=R.aA 7 _ J;have cO:=Q (yQ l m n o _ _ p an P aG.1.now aG.2.now cL.1 cL.2);have⟨cP,cQ⟩:=K (iG l m n o p an);rw[<-cQ]at cO bB;change H _ at cQ;go_wp2_with fail;rw[dA];go_wp2_with fail;refine mU cO λdk ay=>?_;have w:=Q (U ((f.oo P ar.oo).1.1.bw ay) (U (λv=>aY ay (aR _ _ ((f.oo P ar.oo).1.1 0 _ J)) ((f.oo P ar.oo).1.2 v)) (U ((f.oo P ar.oo).2.1.trans (ay.mono (f.oo P ar.oo).2.1.size)) (U (cN.oo.1.bw ay) (cN.oo.2.bw ay)))));have aJ:=Q (R.oo.bw ay).aA;clear ay;by_cases ci:cP=0;rotate_left;have dr:(!(cP==0))=T:=by simp[ci]
 exact lt (ls 3 h i ⟨⟨w.1,w.2.1⟩,w.2.2.1,trivial⟩ (by rw[bB,am (Or.inr ci)]));subst ci;have de:=aJ 2 _ J;have df:=aJ 3 _ J;have dg:=aJ 4 _ J;have dh:=aJ 5 _ J;have di:=aJ 6 _ J;have dj:=aJ 7 _ J;exact lt (show oO x dk X 0 l m n o (S c8 c' da) (S db dc dd) h from⟨⟨w.1,w.2.1⟩,by rw[show h=((0:I),(⟨l,m,n,o,p,an⟩:cT)) by rw[bB,ak D]];exact Bh (I7:=⟨l,m,n,o,p,an⟩) i w.1 w.2.2.1 w.2.2.2.1 w.2.2.2.2⟩)
end
def sc{b:ByteArray}(q:b.size<=60000)(a:(c7 b).1=0):iH (c7 b).2.L/\iG (c7 b).2.n (c7 b).2.dl (c7 b).2.cap (c7 b).2.len (c7 b).2.L (c7 b).2.D=0:=by
 unfold c7 at a⊢;cases d:fc b.size b with
  |none=>rw[d]at a;cases a
  |some h=>
   rw[d]at a;rw[Option.bind_some]at a⊢;have i:=t3 (Jd:=λe=>L e<=1000000) D λe j=>Y (((xj _ _ _ d).2 e j).2.1)
   cases c:nD h with
    |none=>rw[c]at a;cases a
    |some k=>obtain⟨s,t⟩:=k;rw[c]at a;unfold nE at a⊢;dsimp only at a⊢;split at a;cases a;rename_i g;rw[ak g];dsimp only;refine⟨?_,Classical.not_not.1 λl=>g (.inr l)⟩;unfold nD at c;split at c;split at c;split at c;unfold Bb at c;have⟨u,m,o⟩:=Option.bind_eq_some_iff.1 c;have⟨v,_,f⟩:=Option.bind_eq_some_iff.1 o;split at f;cases f;exact Bd i m λw p=>absurd p D;cases f;cases c;cases c;cases c
def vd(a:ByteArray):(c7 a).1=0\/(c7 a).1=2\/(c7 a).1=3:=by
 unfold c7;cases(fc a.size a).bind nD with
  |none=>exact .inr (.inl J)
  |some b=>unfold nE;dsimp only;split;exact .inr (.inr J);exact .inl J
structure gI where
 out:I
 f9:I
 cost:I
 hold:I
 days:ad
 my:aV
def nI(a:cT):N:=a.n.toNat
def mz(a:cT)(b c:I):I:=p' (nI a) a.cap a.L a.D b (dm c 0 1000).toNat
def fS(a:cT)(b:I)(c:N)(d:I):I×aV:=lq (nI a) a.L a.D a.dl a.cap a.len b c d
def sd(a:cT)(b:I)(c:N)(d e:I):gI:=if(fS a b c d).1=0/\eK (hG a.L a.D (nI a) a.dl a.cap a.len (fS a b c d).2)=0 then⟨4,mz a b e,ht a.L a.D (fS a b c d).2 (nI a),f4 a.L (fS a b c d).2 (nI a) a.L.length,(fS a b c d).2.map (cl a.D),(fS a b c d).2⟩ else⟨3,mz a b e,0,0,[],[]⟩
def ks(a:ByteArray)(b:I)(c:N)(d e:I):gI:=if(c7 a).1=0 then sd (c7 a).2 b c d e else⟨if(c7 a).1=2 then 1 else 2,0,0,0,[],[]⟩
structure hH(a:cT):Prop where
 may:oH a.n a.dl a.cap a.len a.L a.D
 pat:iH a.L
 ins:iG a.n a.dl a.cap a.len a.L a.D=0
def Bi{c:ByteArray}(a:c.size<=60000)(b:(c7 c).1=0):hH (c7 c).2:=⟨T4 (sc a b).1 (sc a b).2,(sc a b).1,(sc a b).2⟩
def hH.n{a:cT}(b:hH a):a.n=(nI a:I):=by have:=b.may.n1;unfold nI;omega
def hH.dG{a:cT}(b:hH a):0<nI a/\nI a<=64:=by have:=b.may.n1;unfold nI;omega
def hH.okW{b:cT}(a:hH b):oE (nI b) b.L:=⟨a.may.ln,λc d=>⟨a.may.cu c d,a.may.dm c d⟩,Y a.dG,a.dG.2⟩
def hH.ino{a:cT}(b:hH a)(e:bG w u a.L)(g:bt w v a.D):e5 w (nI a) u v a.L a.D:=by have d:=b.may;rw[b.n]at d;exact(d.ino e g).1
def hH.room{b:cT}(c:hH b){seed bud:I}(e:a<=1000)(f:(fS b seed a bud).1=0):b8 (nI b) 320 (fS b seed a bud).2:=Vi c.may.ln c.may.cu c.dG.2 c.dG.1 e f
def oP(a:ByteArray)(b c d e f g h i:I)(j k:V)(l m n o:I)(p q:V):aP:=[a7 a,b,c,d,e,f,g,h,i,j,k,l,m,n,o,p,q]
structure lu(a:W)(b:N)(c:aP):Prop where
 aA:ax a b c
 bH:∀d,aH a ⟨b,d,Z⟩=F
def lu.bw{Kx:W}{b:aP}(c:lu w a b)(g:0<L b)(e:B w w Kx):lu Kx a b:=⟨c.aA.bw e,λh=>aY e (aR w _ (c.aA 0 _ (e7 g))) (c.bH h)⟩
def lu.set{f:aP}(g:lu w a f)(b:N)(d:V)(h:b<L f):lu (aj w ⟨a,b,Z⟩ d) a (f.set b d)/\M (λi=>i=a) w (aj w ⟨a,b,Z⟩ d):=⟨⟨g.aA.set b d h,λj=>by rw[bs];exact g.bH j⟩,ca w a b d⟩
section
def aI.jH{b:Type}{adn:W->V->b->Prop}{ade adf:N}{adx ady:W}{c:V}{d:b}(e:aI adn (λa=>a<ade) adx c d)(i:adf<ade)(a:M (λa=>a=adf) adx ady):aI adn (λa=>a<ade) ady c d:=e.step a.size (λf g h=>a.block f g λj=>h O) I2
structure PS(b f:N)(k:ByteArray)(l m o p:I)(c:cT)(d:gI)(g h i j:V)(e:W):Prop where
 a9:lu e f (oP k l m o p c.n c.dl c.cap c.len g h d.out d.f9 d.cost d.hold i j)
 cu:aI bG (λa=>a<b) e g c.L
 gr:aI bt (λa=>a<b) e h c.D
 li:aI aX (λa=>a<b) e i d.days
 pl:aI bq (λa=>a<b) e j d.my
 gB:f<b
 hB:b<=(e:N)
section
variable{ade adf:N}{adg:ByteArray}{adh adi adj adk:I}{adl adm:cT}{adn ado:gI}{adp adq adr ads adt adu adv adw:V}{adx ady:W}
def PS.bw(a:PS ade adf adg adh adi adj adk adl adn adp adq adr ads adx)(b:B adx adx ady):PS ade adf adg adh adi adj adk adl adn adp adq adr ads ady:=⟨a.a9.bw (by simp[oP]) b,a.cu.bw b,a.gr.bw b,a.li.bw b,a.pl.bw b,a.gB,a1 a.hB b.size⟩
def PS.adD(b:PS ade adf adg adh adi adj adk adl adn adp adq adr ads adx)(c:N)(d:V)(f:(oP adg adh adi adj adk adl.n adl.dl adl.cap adl.len adp adq adn.out adn.f9 adn.cost adn.hold adr ads).set c d=oP adg adh adi adj adk adl.n adl.dl adl.cap adl.len adp adq ado.out ado.f9 ado.cost ado.hold adv adw)(h:c<17)(g:aI aX (λa=>a<ade) adx adv ado.days)(hp:aI bq (λa=>a<ade) adx adw ado.my):PS ade adf adg adh adi adj adk adl ado adp adq adv adw (aj adx ⟨adf,c,Z⟩ d)/\M (λa=>a=adf) adx (aj adx ⟨adf,c,Z⟩ d):=by have⟨e,a⟩:=b.a9.set c d (by simp[oP];omega);rw[f]at e;exact⟨⟨e,b.cu.jH b.gB a,b.gr.jH b.gB a,g.jH b.gB a,hp.jH b.gB a,b.gB,a1 b.hB a.size⟩,a⟩
end
def hI(ade adf:N)(adg:ByteArray)(adh adi adj adk:I)(adl:cT)(adn:gI)(a:I)(adx:W)(b:bp)(ady:W):Prop:=b=aq a/\M (λc=>c=adf) adx ady/\∃adp adq adr ads,PS ade adf adg adh adi adj adk adl adn adp adq adr ads ady
def Vt(adg:ByteArray)(a:(c7 adg).1≠0):(c7 adg).2=default:=by
 unfold c7 at a⊢;cases b:(fc adg.size adg).bind nD with
  |none=>rfl
  |some adn=>rw[b]at a;unfold nE at a⊢;dsimp only at a⊢;split at a;rename_i c;rw[am c];exact absurd J a
def se(adx:W)(adf:N)(a b c d e f:V):W:=(((((aj adx ⟨adf,5,Z⟩ a).setCell ⟨adf,6,Z⟩ b).setCell ⟨adf,7,Z⟩ c).setCell ⟨adf,8,Z⟩ d).setCell ⟨adf,9,Z⟩ e).setCell ⟨adf,10,Z⟩ f
def Vu{adx:W}{adf:N}{g:aP}(h:lu adx adf g)(v:11<=L g)(a b c d e f:V):lu (se adx adf a b c d e f) adf ((((((g.set 5 a).set 6 b).set 7 c).set 8 d).set 9 e).set 10 f)/\M (λi=>i=adf) adx (se adx adf a b c d e f):=by have⟨j,k⟩:=h.set 5 a O;have⟨l,m⟩:=j.set 6 b (by simp;omega);have⟨n,o⟩:=l.set 7 c (by simp;omega);have⟨p,q⟩:=n.set 8 d (by simp;omega);have⟨r,s⟩:=p.set 9 e (by simp;omega);have⟨t,u⟩:=r.set 10 f (by simp;omega);exact⟨t,((((k.tr m).tr o).tr q).tr s).tr u⟩
def mA(a:I):I:=if a=0 then 0 else if a=2 then 1 else 2
def Vv(ade adf:N)(adg:ByteArray)(adh adi adj adk:I)(adx:W)(h:PS ade adf adg adh adi adj adk default ⟨0,0,0,0,[],[]⟩ (S Z 0 0) (S Z 0 0) (S Z 0 0) (S Z 0 0) adx)(O:hU adx)(P:adg.size<=60000):ap ab 26 #[aM (A adf)] adx (hI ade adf adg adh adi adj adk (c7 adg).2 ⟨mA (c7 adg).1,0,0,0,[],[]⟩ (c7 adg).1 adx):=by
 have⟨adn,R⟩:=K (c7 adg);have s:=vd adg;have f:=Vt adg;have t:=Q (Vs adg adx O P);rw[<-R]at s f t⊢;clear R O P;obtain⟨l,adl⟩:=adn;dsimp only at s f t⊢;have U:=Q h;have ar:=Q (show∀g ady,hI ade adf adg adh adi adj adk adl ⟨mA l,0,0,0,[],[]⟩ l adx g ady->hI ade adf adg adh adi adj adk adl ⟨mA l,0,0,0,[],[]⟩ l adx g ady from λ_ _ h=>h);have ae:=h.a9.aA 0 _ J;clear h;go_in;go_wp2_with fail;refine t.mono ?_;rintro g ag ⟨u,v,w,x,y,z,rfl,X,m,o⟩;unfold Be;have⟨p,Y,r,ah,ai⟩:=bR ag adl.n adl.dl adl.cap adl.len (S u v w) (S x y z);have D:=q X r;have a:=U.bw D;have ak:=U.hB;have m:=(m.mono (G':=λc=>c<ade) λc g=>by have:c<ade:=g;omega).bw r;have o:=(o.mono (G':=λc=>c<ade) λc g=>by have:c<ade:=g;omega).bw r;obtain⟨av,ax,ay,aC,aD,aE⟩:=ai;have aF:=a.a9.aA 0 _ J;have aG:=a.a9.aA 5 _ J;have aI:=a.a9.aA 6 _ J;have aJ:=a.a9.aA 7 _ J;have aK:=a.a9.aA 8 _ J;have aL:=a.a9.aA 9 _ J;have aN:=a.a9.aA 10 _ J;have aO:=a.a9.aA 11 _ J;have aP:=a.a9.bH 5;have aQ:=a.a9.bH 6;have aR:=a.a9.bH 7;have aS:=a.a9.bH 8;have aT:=a.a9.bH 9;have aU:=a.a9.bH 10;have aV:=a.a9.bH 11;have ad:M (λc=>c=adf) adx p:=M.bw D;have G:=Q ad;have b:=Q a;have am:=Q m;have an:=Q o;change H _ at Y;clear X r ah D a m o ad ae ak;go_upto_region 2 with fail;rw[Y];rcases s with rfl|rfl|rfl
 ·have d:=Vu b.a9 (by simp[oP]) adl.n adl.dl adl.cap adl.len (S u v w) (S x y z);have e:hI ade adf adg adh adi adj adk adl ⟨mA 0,0,0,0,[],[]⟩ 0 adx (aq (0:I)) (se p adf adl.n adl.dl adl.cap adl.len (S u v w) (S x y z)):=⟨J,G.trans d.2 I2 I2,_,_,_,_,⟨d.1,am.jH b.gB d.2,an.jH b.gB d.2,b.li.jH b.gB d.2,b.pl.jH b.gB d.2,b.gB,a1 b.hB d.2.size⟩⟩
  unfold se at e;replace e:=Q e;clear d f;go_wp2;go_ret;exact e
 ·have i:=f (by decide);have⟨j,k⟩:=b.adD (ado:=⟨1,0,0,0,[],[]⟩) 11 (1:I) J (by decide) b.li b.pl;have e:H (hI ade adf adg adh adi adj adk adl ⟨mA 2,0,0,0,[],[]⟩ 2 adx (aq (2:I)) (aj p ⟨adf,11,Z⟩ (1:I))):=Q (by rw[i];exact⟨J,G.trans k I2 I2,_,_,_,_,j⟩);clear j k f i;go_wp2;go_ret;exact e
 have i:=f (by decide);have⟨j,k⟩:=b.adD (ado:=⟨2,0,0,0,[],[]⟩) 11 (2:I) J (by decide) b.li b.pl;have e:H (hI ade adf adg adh adi adj adk adl ⟨mA 3,0,0,0,[],[]⟩ 3 adx (aq (3:I)) (aj p ⟨adf,11,Z⟩ (2:I))):=Q (by rw[i];exact⟨J,G.trans k I2 I2,_,_,_,_,j⟩);clear j k f i;go_wp2;go_ret;exact e
def Vw(ade adf:N)(adg:ByteArray)(adh adi adj adk u:I)(adl:cT)(adp adq adr ads:V)(adx:W)(g:hH adl)(c:PS ade adf adg adh adi adj adk adl ⟨u,0,0,0,[],[]⟩ adp adq adr ads adx):ap ab 27 #[aM (A adf)] adx (hI ade adf adg adh adi adj adk adl ⟨3,mz adl adh adk,0,0,[],[]⟩ 0 adx):=by
 have⟨a,j⟩:=c.adD (ado:=⟨3,0,0,0,[],[]⟩) 11 (3:I) J (by decide) c.li c.pl;have⟨k,l⟩:=K (aj adx ⟨adf,11,Z⟩ (3:I));rw[<-l]at a j;have p:=g.n;have h:=Q (λd b=>TZ (nI adl) adl.dl adl.cap adl.len adh adk adp adq adl.L adl.D d (a.cu.now.bw b) (a.gr.now.bw b) (λv w=>uU g.may.db v w) g.okW);rw[<-p]at h;have⟨f,m⟩:=K (mz adl adh adk);have h:H (∀d,B k k d->ap ab 39 #[ao #[adl.n,adl.dl,adl.cap,adl.len,adp,adq],adh,adk] d λi ady=>∃o,i=aq (aZ #[o,f])/\B d.heap.size d ady):=Q λd b=>(h d b).mono λi ady ⟨o,am,x,_,_,e⟩=>⟨_,by rw[m];exact x,e⟩
 rw[<-m];obtain⟨ar,av,ax,rfl,_⟩:=c.cu.now.open;obtain⟨ay,aC,aD,rfl,_⟩:=c.gr.now.open;have y:=c.a9.aA 11 _ J;have z:=c.a9.bH 11;have G:=a.a9.aA 1 _ J;have O:=a.a9.aA 4 _ J;have P:=a.a9.aA 5 _ J;have R:=a.a9.aA 6 _ J;have U:=a.a9.aA 7 _ J;have X:=a.a9.aA 8 _ J;have Y:=a.a9.aA 9 _ J;have ad:=a.a9.aA 10 _ J;have ae:=a.a9.aA 1 _ J;have ag:=Q a;have ah:=Q j;change H _ at l;clear j;clear c a g p m;go_in;go_upto_region 2 with fail;rw[<-l];clear y z ae;refine bv [0,1,2,3,5,6,7,8,10,11,12,13,104,109,114,215,16,17,18,19,20,21,322] ?_;iterate 15 refine mS ?_
 refine aU λaE ai=>?_;go_simp;refine mE (h _ (an _)) λak o r=>?_;have b:=q (an k) r;refine ai _ _ (.mk b) ?_;have e:=ag.bw b;have⟨s,t⟩:=e.adD (ado:=⟨3,f,0,0,[],[]⟩) 12 f J (by decide) e.li e.pl;have al:H (hI ade adf adg adh adi adj adk adl ⟨3,f,0,0,[],[]⟩ 0 adx (aq (0:I)) (aj ak ⟨adf,12,Z⟩ f)):=Q ⟨J,(ah.trans (M.bw (I':=λ_=>False) b) I2 (λ_ _ i=>i.elim)).trans t I2 I2,_,_,_,_,s⟩;have aG:=e.a9.aA 12 _ J;have aI:=e.a9.bH 12;clear e s t b r G O P R U X Y ad;iterate 7 refine mS ?_
 refine bc ?_;go_wp2;go_ret;exact al
end
def Bj(a:W)(c:V):∃b,a.alloc (az #[c] 50)=b/\B a a b/\b.heap.size=(a:N)+1/\C b a=A c/\aH b a=F:=⟨_,J,aN _ _,D,aE,aE⟩
def mB(a b c:I)(d:aV):gI:=if b=0/\c=0 then⟨4,a,0,0,[],d⟩else⟨3,a,0,0,[],[]⟩
def kt(a b:I):I:=if a=0 then b else a
def Vx(y t:N)(aG:ByteArray)(j g ah ai:I)(h:N)(b:cT)(a2 a3 bV bW:V)(c:W)(u:hH b)(hp:g<=1000)(ba:h<=1000)(i:PS y t aG j h g ah b ⟨3,ai,0,0,[],[]⟩ a2 a3 bV bW c):ap ab 28 #[aM (A t)] c (hI y t aG j h g ah b (mB ai (fS b j h g).1 (eK (hG b.L b.D (nI b) b.dl b.cap b.len (fS b j h g).2)) (fS b j h g).2) (kt (fS b j h g).1 (eK (hG b.L b.D (nI b) b.dl b.cap b.len (fS b j h g).2))) c):=by
 have bb:=u.n;have Y:=Q (λ(G:W) (e:B c c G)=>U1 (nI b) b.dl b.cap b.len j g ah h a2 a3 b.L b.D G (u.ino (i.cu.now.bw e) (i.gr.now.bw e)) u.may.db u.may.ln u.dG.1 O ba);have ad:=Q (λ(G:W) (bz:V) (be:(fS b j h g).1=0) (e:B c c G) (bX:bq G bz (fS b j h g).2)=>by have a4:=u.room ba be;have bA:=u.ins;rw[bb]at bA;exact Vh (nI b) b.dl b.cap b.len a2 a3 bz b.L b.D (fS b j h g).2 G (u.ino (i.cu.now.bw e) (i.gr.now.bw e)) u.may.ln u.pat bA bX (uC a4.hL (bi u.dG a4.1)) a4.hL a4.1);rw[<-bb]at Y ad;obtain⟨al,hF⟩:=K (eK (hG b.L b.D (nI b) b.dl b.cap b.len (fS b j h g).2));rw[<-hF]at ad⊢;have Y:H (∀G,B c c G->ap ab 40 #[ao #[b.n,b.dl,b.cap,b.len,a2,a3],ao #[j,h,g,ah]] G (oM G (fS b j h g))):=Q Y;obtain⟨bY,bB⟩:=K (fS b j h g);rw[<-bB]at Y ad⊢;clear hF bB u hp ba bb;obtain⟨ax,ay⟩:=bY;dsimp only at Y ad⊢;obtain⟨ch,ci,v,rfl,_⟩:=i.cu.now.open;obtain⟨cj,ck,cl,rfl,_⟩:=i.gr.now.open;have bf:=i.a9.aA 1 _ J;have bh:=i.a9.aA 2 _ J;have bk:=i.a9.aA 3 _ J;have bl:=i.a9.aA 4 _ J;have aJ:=i.a9.aA 5 _ J;have aK:=i.a9.aA 6 _ J;have aL:=i.a9.aA 7 _ J;have aO:=i.a9.aA 8 _ J;have aP:=i.a9.aA 9 _ J;have aQ:=i.a9.aA 10 _ J;have cm:=i.hB;have bC:=Q i;clear i;go_in;go_upto_region 1 with fail;go_cut [3,4] (λbZ b0 bm=>∃x l aC v,bZ=aM (A ⟨x,0,Z⟩)/\b0=ax/\C bm ⟨x,0,Z⟩=A (S l aC v)/\aI bq (λk=>k<y) bm (S l aC v) ay/\B c c bm);case first=>
  refine i' ((.p 0 (.p 1 (.p 2 (.p 4 (.p 5 (.p 6 (.r 3 (.r 7 (.f 8 (.p 9 (.p 10 (.p 11 (.a 12 (.z 13 (.p 14 .d)))))) 12 (.a 8 (.p 9 (.p 10 (.p 11 (.z 13 (.p 14 .d)))))))))))))))) (dp c) aT aT (.mk nH) ?_;iterate 8 refine mS ?_
  refine gN (λam o=>?_) (λam o=>?_)
  ·go_simp;refine mF (Y _ (an c)) λbD l ae v ⟨P,aS⟩=>?_;have e:=q (an c) aS;refine o _ _ (.mk e) ?_;obtain⟨aV,bE,ag,b2,aW,_⟩:=Bj bD (S l ae v);have P:=(P.mono (G':=λk=>k<y) λk w=>by have:k<y:=w;simp;omega).bw ag;have aD:=q e ag;clear bf bh bk bl aJ aK aL aO aP aQ aS;iterate 3 refine mS ?_
   refine aU λam o=>?_;go_simp;refine o _ _ (.mk (q e (aN _ _))) ?_;refine b4 λam o=>?_;go_simp;try rw[bE]
   refine o _ _ ?_;clear e ag b2 bE;refine mS ?_;refine bc ?_;go_wp2;go_meet;exact⟨_,_,_,_,J,J,aW,P,aD⟩
  obtain⟨bD,bF,aS,b3,a5,bn⟩:=Bj c.drew (S Z 0 0);rw[show (c.drew:N)=c from J]at a5 bn;have e:=q (an c) aS;go_simp;try rw[bF]
  refine o _ _ (.mk e) ?_;refine aU λam o=>?_;go_simp;refine mF (Y _ e) λaV l ae v ⟨P,ag⟩=>?_;have aD:=q e ag;refine o _ _ (.mk aD) ?_;have bo:=aR _ _ a5;have aW:=s ag a5;have bG:=aY ag bo bn;obtain⟨x,a6⟩:=K (c:N);have b5:c<=x:=O
  rw[<-a6]at aW bG;have bI:=ca aV x 0 (S l ae v);have b6:(aj aV ⟨x,0,Z⟩ (S l ae v)).cell? ⟨x,0,Z⟩=A (S l ae v):=bP _ _ _ (by rw[aW];rfl);have P:aI bq (λk=>k<y) (aj aV ⟨x,0,Z⟩ (S l ae v)) (S l ae v) ay:=P.set _ _ (by rw[a6];exact bo) (λk w=>by have:k<y:=w;have:=e.size;simp;omega);have b7:B c c (aj aV ⟨x,0,Z⟩ (S l ae v)):=aD.trans (bI.bg aD.size λk co w=>O);change H _ at a6;clear bf bh bk bl aJ aK aL aO aP aQ aS ag e aD bo bI b3 a5 bn bF;iterate 3 refine mS ?_
  refine b4 λam o=>?_;rw[<-a6];go_simp;refine o _ _ ?_;clear aW bG b5;refine mS ?_;refine bc ?_;go_wp2;go_meet;exact⟨_,_,_,_,J,J,b6,P,b7⟩
 case rest=>
 obtain⟨x,l,aC,br,rfl,rfl,bJ,P,e⟩:=hcut;obtain⟨aE,rfl⟩:=K wc;have bK:=bC.bw e;have bL:=Q e;have bs:=Q P;have bM:=Q bJ;have R:=Q bK;have bN:M (λk=>k=t) c aE:=M.bw e;have bt:=Q bN;clear e P bK bN bf bh bk bl aJ aK aL aO aP aQ bC Y;by_cases aX:ax=0
 ·subst aX;have ad:=Q (ad.oo aE.drew (S l aC br) J (bL.trans ((an aE).mono bL.size)) (bs.now.bw (an aE)));have aJ:=R.a9.aA 5 _ J;have aK:=R.a9.aA 6 _ J;have aL:=R.a9.aA 7 _ J;have aO:=R.a9.aA 8 _ J;have aP:=R.a9.aA 9 _ J;have aQ:=R.a9.aA 10 _ J;go_upto_region 4 with fail;refine bv [0,1,2,103,104,205,6] ?_;iterate 5 refine mS ?_
  refine aU λam o=>?_;go_simp;refine mU ad λbO bR=>?_;have aF:=q (an aE) bR;refine o _ _ (.mk aF) ?_;have U:=R.bw aF;have bu:=bs.bw aF;have a0:=s aF bM;have a8:=bt.trans (M.bw (I':=λ_=>False) aF) I2 (λ_ _ w=>w.elim);clear aJ aK aL aO aP aQ bJ bR aF;refine mS ?_;refine bc ?_;by_cases hF:al=0
  ·subst hF;obtain⟨ar,a1⟩:=U.adD (ado:=⟨4,ai,0,0,[],[]⟩) 11 (4:I) J av U.li U.pl;obtain⟨b9,bx⟩:=K (aj bO ⟨t,11,Z⟩ (4:I));rw[<-bx]at ar a1;obtain⟨bS,bT⟩:=ar.adD (ado:=⟨4,ai,0,0,[],ay⟩) 16 (S l aC br) J av ar.li (bu.jH ar.gB a1);have m:H (hI y t aG j h g ah b (mB ai 0 0 ay) (kt 0 0) c (aq (0:I)) (aj b9 ⟨t,16,Z⟩ (S l aC br)).drew):=Q ⟨J,((a8.trans a1 I2 I2).trans bT I2 I2).drew,_,_,_,_,bS.bw (an _)⟩;have b':x≠t:=λw=>by have be:=U.a9.aA 0 _ J;rw[w,be]at a0;cases a0
   have cc:=bU.cell (G:=λk=>k=t) a0 b';have cd:=U.a9.aA 11 _ J;have ce:=U.a9.bH 11;have cr:=ar.a9.aA 16 _ J;have cs:=ar.a9.bH 16;have cf:=Q a1;change H _ at bx;clear U ar bS a1 bT bu a8 a0 bM R bs bt ad;go_upto_region 7 with fail;refine od (λk=>k=t) [0,1,3,4,5,102,206,7,8,9,310] ?_;iterate 6 refine mS ?_
   refine aU λam o=>?_;go_simp;try rw[<-bx]
   refine o _ _ (.mk cf.drew) ?_;clear cc cd ce;iterate 4 refine mS ?_
   refine bc ?_;exact mW
  have cg:(al !=0)=T:=X hF
  have m:H (hI y t aG j h g ah b (mB ai 0 al ay) (kt 0 al) c (aq al) bO):=Q ⟨J,a8,_,_,_,_,by unfold mB;rw[ak λw=>hF w.2];exact U⟩;clear hF U bu a0 a8;exact mW
 have cg:(ax !=0)=T:=X aX
 have m:H (hI y t aG j h g ah b (mB ai ax al ay) (kt ax al) c (aq ax) aE):=Q ⟨by unfold kt;rw[ak aX],bt,_,_,_,_,by unfold mB;rw[ak λw=>aX w.1];exact R⟩;clear aX;exact mW
def ve(a:cT)(c:I)(b:aV):gI:=⟨4,c,ht a.L a.D b (nI a),f4 a.L b (nI a) a.L.length,b.map (cl a.D),b⟩
def Vy(ad k:N)(ai:ByteArray)(ak al am ar l:I)(a:cT)(b:aV)(ae ag ba bb:V)(r:W)(o:hH a)(s:b8 (nI a) 320 b)(d:PS ad k ai ak al am ar a ⟨4,l,0,0,[],b⟩ ae ag ba bb r):ap ab 29 #[aM (A k)] r (hI ad k ai ak al am ar a (ve a l b) 0 r):=by
 have ax:=o.n;have ay:=uC s.hL (bi o.dG s.1);have aC:=Q (λt u e i f=>zB (nI a) a.dl a.cap a.len ae ag u a.L a.D b t e (Y o.may.ln) o.may.vn i f ay s.hL);have aD:=Q (λt u e i f=>zA (nI a) a.dl a.cap a.len ae ag u a.L b t e (Y o.may.ln) o.may.vn i f ay);have aE:=Q (λt u e i f=>yV (nI a) a.dl a.cap a.len ae ag u a.D b t e i f s.hL);rw[<-ax]at aC aD aE;have aO:ve a l b=⟨4,l,ht a.L a.D b a.n,f4 a.L b a.n a.L.length,b.map (cl a.D),b⟩:=by rw[ax];rfl
 rw[aO];generalize ht a.L a.D b a.n=p at*;generalize f4 a.L b a.n a.L.length=v at*;generalize b.map (cl a.D)=aP at*;obtain⟨bq,br,bs,rfl,_⟩:=d.cu.now.open;obtain⟨bt,bu,bx,rfl,_⟩:=d.gr.now.open;obtain⟨bz,bA,bB,rfl,_⟩:=d.pl.now.open;have w:=Q d;have x:=d.a9.aA 5 _ J;have y:=d.a9.aA 6 _ J;have z:=d.a9.aA 7 _ J;have G:=d.a9.aA 8 _ J;have O:=d.a9.aA 9 _ J;have P:=d.a9.aA 10 _ J;have R:=d.a9.aA 16 _ J;clear d o s ax ay aO;go_in;go_upto_region 1 with fail;refine bv [0,1,2,3,5,6,7,8,104,109,210,11,12,13,314] ?_;iterate 10 refine mS ?_
 refine aU λah j=>?_;go_simp;refine mU (aC _ _ (w.cu.now.bw (an _)) (w.gr.now.bw (an _)) (w.pl.now.bw (an _))) λbe aQ=>?_;have c:=q (an r) aQ;refine j _ _ (.mk c) ?_;have e:=w.bw c;have⟨i,aR⟩:=e.adD (ado:=⟨4,l,p,0,[],b⟩) 13 p J av e.li e.pl;have bf:=e.a9.aA 13 _ J;have bg:=e.a9.bH 13;have aF:=(M.bw (I':=λaG=>aG=k) c).trans aR I2 I2;have⟨bh,aI⟩:=K (aj be ⟨k,13,Z⟩ p);rw[<-aI]at i aF;have h:=Q i;have aW:=Q aF;change H _ at aI;clear aF;clear e i aR c aQ x y z G O P R w aC;iterate 3 refine mS ?_
 refine b4 λah j=>?_;go_simp;rw[<-aI];refine j _ _ ?_;clear bf bg;refine bc ?_;have x:=h.a9.aA 5 _ J;have y:=h.a9.aA 6 _ J;have z:=h.a9.aA 7 _ J;have G:=h.a9.aA 8 _ J;have O:=h.a9.aA 9 _ J;have P:=h.a9.aA 10 _ J;have R:=h.a9.aA 16 _ J;go_upto_region 2 with fail;refine bv [0,1,2,3,5,6,7,8,104,109,210,11,12,13,314] ?_;iterate 10 refine mS ?_
 refine aU λah j=>?_;go_simp;refine mU (aD _ _ (h.cu.now.bw (an _)) ⟨_,_,_,J⟩ (h.pl.now.bw (an _))) λbk aX=>?_;have c:=q (an bh) aX;refine j _ _ (.mk c) ?_;have f:=h.bw c;have⟨aJ,aY⟩:=f.adD (ado:=⟨4,l,p,v,[],b⟩) 14 v J av f.li f.pl;have bl:=f.a9.aA 14 _ J;have bm:=f.a9.bH 14;have aK:=(aW.trans (M.bw (I':=λ_=>False) c) I2 (λ_ _ U=>U.elim)).trans aY I2 I2;have⟨a0,aL⟩:=K (aj bk ⟨k,14,Z⟩ v);rw[<-aL]at aJ aK;have g:=Q aJ;have a1:=Q aK;change H _ at aL;clear aK;clear f aJ aY c aX x y z G O P R h aD aW;iterate 3 refine mS ?_
 refine b4 λah j=>?_;go_simp;rw[<-aL];refine j _ _ ?_;clear bl bm;refine bc ?_;have x:=g.a9.aA 5 _ J;have y:=g.a9.aA 6 _ J;have z:=g.a9.aA 7 _ J;have G:=g.a9.aA 8 _ J;have O:=g.a9.aA 9 _ J;have P:=g.a9.aA 10 _ J;have R:=g.a9.aA 16 _ J;go_upto_region 3 with fail;refine bv [0,1,2,3,5,6,7,8,104,109,210,11,12,13,314] ?_;iterate 10 refine mS ?_
 refine aU λah j=>?_;go_simp;refine mE (aE _ _ ⟨_,_,_,J⟩ (g.gr.now.bw (an _)) (g.pl.now.bw (an _))) λbn bC ⟨aN,a2⟩=>?_;obtain⟨a3,a4,a5,rfl⟩:=gM aN;have c:=q (an a0) a2;refine j _ _ (.mk c) ?_;have X:=g.bw c;have bo:=g.hB;have⟨a6,a8⟩:=X.adD (ado:=⟨4,l,p,v,aP,b⟩) 15 (S a3 a4 a5) J av (aN.off λaG U=>by have:aG<ad:=U;have:=(an a0).size;omega) X.pl;have bD:=X.a9.aA 15 _ J;have bE:=X.a9.bH 15;have m:H (hI ad k ai ak al am ar a ⟨4,l,p,v,aP,b⟩ 0 r (aq (0:I)) (aj bn ⟨k,15,Z⟩ (S a3 a4 a5))):=Q ⟨J,(a1.trans (M.bw (I':=λ_=>False) c) I2 (λ_ _ U=>U.elim)).trans a8 I2 I2,_,_,_,_,a6⟩;clear X a6 a8 c a2 x y z G O P R g aE a1 aN bo;iterate 4 refine mS ?_
 refine bc ?_;exact mW
def Vz(f:W):ap ab 25 #[S Z 0 0] f (nv f 0 0 0 0):=by
 have⟨ay,aA,x,aP,y,z⟩:=nw f 0 0 0 0;have⟨i,aC,j,aQ,r,G⟩:=A7 ay;have⟨a,P⟩:=K (ay:N);have⟨b,R⟩:=K (f:N);rw[<-P]at r G;rw[<-R]at y z;have⟨g,k⟩:=K i;have aD:(Builtin.copy_ #[22,22] 3 #[S (A a) 4 4,S Z 0 0]).run ab i= .ok (goInt 0) g:=by rw[k];kernel_rfl
 have X:ax g a [(0:I),(0:I),(0:I),(0:I)]:=by rw[k];exact r
 have aE:M (λs=>s=a) i g:=by rw[k];exact M.refl _ _
 have aF:∀e:I,0<=e/\e<=1000->dm e 0 1000=e:=λe aG=>qm
 have ad:H (∀(e:I) (t:W),0<=e/\e<=1000->ap ab 37 #[(e:I),(0:I),(1000:I)] t λaI aS=>aI=aq (e:I)/\t=aS):=Q λe t aG=>by have:=pB e 0 1000 t;rwa [aF e aG]at this
 have aT:a<i:=aR _ _ (r 0 _ J);have ae:∀d,aH g ⟨a,d,Z⟩=F:=λd=>by rw[k];exact G d
 have⟨l,m⟩:=K (aj g ⟨a,1,Z⟩ (0:I));have⟨n,o⟩:=K (aj l ⟨a,2,Z⟩ (0:I));have⟨h,u⟩:=K (aj n ⟨a,3,Z⟩ (0:I));have ag:ax l a [(0:I),(0:I),(0:I),(0:I)]:=by rw[m];exact X.set 1 _ D
 have ah:ax n a [(0:I),(0:I),(0:I),(0:I)]:=by rw[o];exact ag.set 2 _ D
 have aJ:ax h a [(0:I),(0:I),(0:I),(0:I)]:=by rw[u];exact ah.set 3 _ D
 have ai:∀d,aH l ⟨a,d,Z⟩=F:=λd=>by rw[m,bs];exact ae d
 have aK:∀d,aH n ⟨a,d,Z⟩=F:=λd=>by rw[o,bs];exact ai d
 have v:M (λs=>s=a) i h:=((aE.tr (m▸ca g a 1 _)).tr (o▸ca l a 2 _)).tr (u▸ca n a 3 _);have p:b<a/\f<=b:=O
 have ak:ax h b [(0:I),(0:I),(0:I),(0:I)]:=(y.bw j).bl v O;have aL:∀d,aH h ⟨b,d,Z⟩=F:=λd=>v.free (aY j O (z d)) (Y j.size) O;have aN:B f f h:=(q x j).trans (v.bg (q x j).size λs be aI=>O);have aU:=Q (show nv f 0 0 0 0 (.returned (.agg #[.int .i64 0,.int .i64 0,.int .i64 0,.int .i64 0])) ((((h.setCell ⟨b,0,none⟩ (.int .i64 0)).setCell ⟨b,1,none⟩ (.int .i64 0)).setCell ⟨b,2,none⟩ (.int .i64 0)).setCell ⟨b,3,none⟩ (.int .i64 0))from⟨rfl,(((aN.setCell (p:=⟨b,0,none⟩) p.2 _).setCell (p:=⟨b,1,none⟩) p.2 _).setCell (p:=⟨b,2,none⟩) p.2 _).setCell (p:=⟨b,3,none⟩) p.2 _⟩);have w:=Q (show ax ((((aj h b (0:I)).setCell ⟨b,1,Z⟩ (0:I)).setCell ⟨b,2,Z⟩ (0:I)).setCell ⟨b,3,Z⟩ (0:I)) b [(0:I),(0:I),(0:I),(0:I)] by have:=(((ak.set 0 (0:I) D).set 1 (0:I) D).set 2 (0:I) D).set 3 (0:I) D;simpa using this);have c:=Q (U ag (U ai (U ah (U aK (U aJ (U ak aL))))));have bf:=A8 a i;have aO:=Q (U X ae);have aV:=Q m.symm;have aW:=Q o.symm;have aX:=Q u.symm;change H _ at aA aC P R aD;clear x aP y z j aQ r G k X aE aF aT ae m o u ag ah aJ ai aK v p ak aL aN;go_in;go_upto_region 2 with(first|rw[aA]|rw[aC])
 rw[<-P,<-R];go_upto_region 3 with(rw[aD])
 have am:=aO.1 1 _ J;have a0:=aO.2 1;go_wp2_with fail;refine wp_loop_rounds 4 ?_;rw[dA];go_wp2_with fail;refine mR (ad 0 g av) ?_;go_wp2_with fail;try rw[aV]
 clear am a0;have an:=c.1 2 _ J;have a1:=c.2.1 2;rw[dA];go_wp2_with fail;refine mR (ad 0 l av) ?_;go_wp2_with fail;try rw[aW]
 clear an a1;have ar:=c.2.2.1 3 _ J;have a2:=c.2.2.2.1 3;rw[dA];go_wp2_with fail;refine mR (ad 0 n av) ?_;go_wp2_with fail;try rw[aX]
 clear ar a2;have a3:=c.2.2.2.2.1 0 _ J;have am:=c.2.2.2.2.1 1 _ J;have an:=c.2.2.2.2.1 2 _ J;have ar:=c.2.2.2.2.1 3 _ J;have a4:=c.2.2.2.2.2.1 0 _ J;have a5:=c.2.2.2.2.2.1 1 _ J;have a6:=c.2.2.2.2.2.1 2 _ J;have a8:=c.2.2.2.2.2.1 3 _ J;have a9:=c.2.2.2.2.2.2 0;have ba:=c.2.2.2.2.2.2 1;have bb:=c.2.2.2.2.2.2 2;have bc:=c.2.2.2.2.2.2 3;rw[dA];go_wp2_with fail;clear a3 am an ar a4 a5 a6 a8 a9 ba bb bc;have Eb:=w 0 _ J;have Dc:=w 1 _ J;have Kg:=w 2 _ J;have Fq:=w 3 _ J;exact b0 (v:=ao #[(0:I),(0:I),(0:I),(0:I)]) vH J aU
def nF(b:W)(c:V)(d e f g:I):Prop:=(∃h i j,c=S h i j)/\∀a,B b b a->ap ab 25 #[c] a (nv a d e f g)
def nF.four(d:aX w u [i,j,k,l])(h:0<=j/\j<=1000)(hp:0<=k/\k<=1000)(m:0<=l/\l<=1000):nF w u i j k l:=⟨(by have⟨n,o,p,q,_⟩:=d.open;exact⟨n,o,p,q⟩),λr s=>U4 u i j k l r (d.bw s) h hp m⟩
def nF.nil(a:W):nF a (S Z 0 0) 0 ((0:N):I) 0 0:=⟨⟨_,_,_,J⟩,λb _=>Vz b⟩
def lv(c:W)(a:gI)(j:bp)(b:W):Prop:=∃d e f g h i,j=aq (ao #[a.out,a.f9,a.cost,a.hold,S d e f,S g h i])/\aX b (S d e f) a.days/\bq b (S g h i) a.my/\B c c b
def VA(a:W):∃b,a.alloc (az #[(0:I),(0:I),(0:I),(0:I),S Z 0 0,S Z 0 0] 52)=b/\B a a b/\b.heap.size=(a:N)+1/\ax b a [(0:I),(0:I),(0:I),(0:I),S Z 0 0,S Z 0 0]/\∀c,aH b ⟨a,c,Z⟩=F:=⟨_,J,aN _ _,D,ax.new a _ _,λc=>aE⟩
def VB(b:W)(d:ByteArray)(e f g h:I):∃c,b.alloc (az #[a7 d,e,f,g,h,(0:I),(0:I),(0:I),(0:I),S Z 0 0,S Z 0 0,(0:I),(0:I),(0:I),(0:I),S Z 0 0,S Z 0 0] 78)=c/\B b b c/\PS c.heap.size (b:N) d e f g h default ⟨0,0,0,0,[],[]⟩ (S Z 0 0) (S Z 0 0) (S Z 0 0) (S Z 0 0) c:=by refine⟨_,J,aN _ _,⟨ax.new b _ _,λi=>aE⟩,λa _ _=>bG.nil a,λa _ _=>bt.nil a,λa _ _=>aX.nil a,λa _ _=>m2 a,D,aL _⟩
def VC(a:W)(c f1 d e:V):∃b,a.alloc (az #[c,f1,d,e] 79)=b/\B a a b/\ax b a [c,f1,d,e]:=⟨_,J,aN _ _,ax.new a _ _⟩
def VD{D:ByteArray}{G:cT}{e:gI}{t:V}(Y:a=w)(ad:a≠b)(z:a<c)(q:PS c b D i j k l G e u v y t x)(Q:ax x a [(0:I),(0:I),(0:I),(0:I),S Z 0 0,S Z 0 0])(R:B w w x):∃f g h m n o,y=S f g h/\t=S m n o/\ax ((((((aj x a e.out).setCell ⟨a,1,Z⟩ e.f9).setCell ⟨a,2,Z⟩ e.cost).setCell ⟨a,3,Z⟩ e.hold).setCell ⟨a,4,Z⟩ (S f g h)).setCell ⟨a,5,Z⟩ (S m n o)) a [e.out,e.f9,e.cost,e.hold,S f g h,S m n o]/\lv w e (aq (ao #[e.out,e.f9,e.cost,e.hold,S f g h,S m n o])) ((((((aj x a e.out).setCell ⟨a,1,Z⟩ e.f9).setCell ⟨a,2,Z⟩ e.cost).setCell ⟨a,3,Z⟩ e.hold).setCell ⟨a,4,Z⟩ (S f g h)).setCell ⟨a,5,Z⟩ (S m n o)):=by obtain⟨f,g,h,rfl,_⟩:=q.li.now.open;obtain⟨m,n,o,rfl,_⟩:=q.pl.now.open;refine⟨f,g,h,m,n,o,J,J,wK Q _ _ _ _ _ _,f,g,h,m,n,o,J,?_,?_,R.trans (wO x a _ _ _ _ _ _ O)⟩;exact((q.li.jH z (M.grown (wN x a _ _ _ _ _ _) λU s=>X s.symm))).now;exact((q.pl.jH z (M.grown (wN x a _ _ _ _ _ _) λU s=>X s.symm))).now
def VE(w:ByteArray)(R:Value)(s t u:Int)(y:Nat)(v:World)(bV:nF v R s y t u)(bW:y<=1000)(hp:0<=t/\t<=1000)(cA:0<=u/\u<=1000)(bc:hU v)(bm:w.size<=60000):Calls prog 14 #[.string w,R] v (lv v (ks w s y t u)):=by
 obtain⟨bn,bX,be,bY,bo,bq⟩:=VA v;have cm:=Q (bV.2 bn be);obtain⟨⟨aT,aU,aV,rfl⟩,_⟩:=bV;have br:=Bi bm;obtain⟨bZ,aX⟩:=K ((c7 w).1);have bs:=vd w;obtain⟨z,ar⟩:=K ((c7 w).2);rw[<-aX,<-ar]at br;rw[<-aX]at bs;have a0:ks w s y t u=if bZ=0 then sd z s y t u else⟨if bZ=2 then 1 else 2,0,0,0,[],[]⟩:=by rw[aX,ar];rfl
 obtain⟨a1,b0⟩:=K (ks w s y t u);rw[<-b0]at a0⊢;have b2:=Q (λ(ad l:Nat) (bt:World) (aC:PS ad l w s y t u default ⟨0,0,0,0,[],[]⟩ (.slice none 0 0) (.slice none 0 0) (.slice none 0 0) (.slice none 0 0) bt) (bc:hU bt)=>Vv ad l w s y t u bt aC bc bm);rw[<-aX,<-ar]at b2;obtain⟨m,bf⟩:=K v.heap.size;rw[<-bf]at bo bq bY;have bh:=Q (And.intro bo (And.intro bq (And.intro be bf)));have cn:=Q (bc.bw be);have b3:v.heap.size=m:=bf.symm;have b4:m<bn.heap.size:=by omega
 have bu:=Q b3;change H _ at bX a0 br bs;clear b3;clear bo bq be bY bc bm aX ar b0 bf;go_in;go_upto_region 1 with fail;rw[bX.oo,bu.oo];go_wp2_with fail;refine cm.oo.mono ?_;rintro G b5 ⟨rfl,bv⟩;obtain⟨b6,b7,b8,a2⟩:=VB b5 w s y t u;obtain⟨l,bi⟩:=K b5.heap.size;rw[<-bi]at a2;have cB:bn.heap.size<=l:=by rw[bi];exact bv.size
 obtain⟨b9,b',bx,bk⟩:=VC b6 (.func (.func 26) #[.pointer (some ⟨l,0,none⟩)] #[]) (.func (.func 27) #[.pointer (some ⟨l,0,none⟩)] #[]) (.func (.func 28) #[.pointer (some ⟨l,0,none⟩)] #[]) (.func (.func 29) #[.pointer (some ⟨l,0,none⟩)] #[]);obtain⟨ad,bz⟩:=K b6.heap.size;rw[<-bz]at a2 bk;have bA:=q bv (q b8 bx);have ca:=a2.bw bx;have cC:l<ad:=a2.gB;have co:=Q (cn.oo.bw bA);have a3:=Q bA;change H _ at b7 b' bi bz;clear bA;have a:=Q (λ(ah:World) (bl:M (λcp=>cp=l) b9 ah)=>show(∀Y ae,Y<4->[Value.func (.func 26) #[.pointer (some ⟨l,0,none⟩)] #[],.func (.func 27) #[.pointer (some ⟨l,0,none⟩)] #[],.func (.func 28) #[.pointer (some ⟨l,0,none⟩)] #[],.func (.func 29) #[.pointer (some ⟨l,0,none⟩)] #[]][Y]? =some ae->ah.cell? ⟨ad,Y,none⟩=some ae)/\(∀(cc:cT) (n:gI) (ai ak R ag:Value),PS ad l w s y t u cc n ai ak R ag ah->∃aT aU aV a4 a5 a6,R= .slice aT aU aV/\ag= .slice a4 a5 a6/\ax ((((((ah.setCell ⟨m,0,none⟩ (.int .i64 n.out)).setCell ⟨m,1,none⟩ (.int .i64 n.f9)).setCell ⟨m,2,none⟩ (.int .i64 n.cost)).setCell ⟨m,3,none⟩ (.int .i64 n.hold)).setCell ⟨m,4,none⟩ (.slice aT aU aV)).setCell ⟨m,5,none⟩ (.slice a4 a5 a6)) m [.int .i64 n.out,.int .i64 n.f9,.int .i64 n.cost,.int .i64 n.hold,.slice aT aU aV,.slice a4 a5 a6]/\lv v n (.returned (.agg #[.int .i64 n.out,.int .i64 n.f9,.int .i64 n.cost,.int .i64 n.hold,.slice aT aU aV,.slice a4 a5 a6])) ((((((ah.setCell ⟨m,0,none⟩ (.int .i64 n.out)).setCell ⟨m,1,none⟩ (.int .i64 n.f9)).setCell ⟨m,2,none⟩ (.int .i64 n.cost)).setCell ⟨m,3,none⟩ (.int .i64 n.hold)).setCell ⟨m,4,none⟩ (.slice aT aU aV)).setCell ⟨m,5,none⟩ (.slice a4 a5 a6)))/\(∀Y,ah.frozen? ⟨m,Y,none⟩=false)/\ax ah m [.int .i64 0,.int .i64 0,.int .i64 0,.int .i64 0,.slice none 0 0,.slice none 0 0]from by
  have cq:=bh.oo.1.bw a3.oo;have bB:m≠l:=by omega
  have cd:ax ah m [.int .i64 0,.int .i64 0,.int .i64 0,.int .i64 0,.slice none 0 0,.slice none 0 0]:=λY ae bC=>bl.cell (cq Y ae bC) bB;have cr:Below v.heap.size v ah:=(q bh.oo.2.2.1 a3.oo).trans (bl.bg (q bh.oo.2.2.1 a3.oo).size λcD cE G=>by have:=bu.oo;omega);refine⟨λY ae _ bC=>bl.cell (bk Y ae bC) (by omega),λcc n ai ak R ag hp=>VD bu.oo.symm bB (by omega) hp cd cr,λY=>bl.free (aY a3.oo b4 (bh.oo.2.1 Y)) (Nat.lt_of_lt_of_le b4 a3.oo.size) bB,cd⟩)
 change H _ at ca bk;clear bv b8 bx a2;go_upto_region 2 with(rw[b7.oo,<-bi.oo])
 go_wp2_with (rw[b'.oo,<-bz.oo]);refine wp_loop_rounds 5 ?_;rw[rounds_succ];have cs:=bk.oo 0 _ rfl;go_wp2_with fail;refine(b2.oo ad l b9 ca.oo co.oo).mono ?_;rintro G d ⟨rfl,b,ai,ak,R,ag,e⟩;clear cs;rcases bs.oo with al|al|al;rotate_left
 ·have p:=a0.oo;rw[al]at p e⊢;rw[if_neg (by decide),if_pos rfl]at p;rw[show mA 2=1 from rfl]at e;obtain⟨aD,aE,aF,aG,aI,aJ,rfl,rfl,c,a8⟩:=(a.oo d b).2.1 _ _ _ _ _ _ e;have aK:=e.a9.aA 11 _ rfl;have aL:=e.a9.aA 12 _ rfl;have aN:=e.a9.aA 13 _ rfl;have aO:=e.a9.aA 14 _ rfl;have aP:=e.a9.aA 15 _ rfl;have aQ:=e.a9.aA 16 _ rfl;have bD:=(a.oo d b).2.2.1 0;have bE:=(a.oo d b).2.2.1 1;have bF:=(a.oo d b).2.2.1 2;have bG:=(a.oo d b).2.2.1 3;have bH:=(a.oo d b).2.2.1 4;have bI:=(a.oo d b).2.2.1 5;have bJ:=(a.oo d b).2.2.2 0 _ rfl;have bK:=(a.oo d b).2.2.2 1 _ rfl;have bL:=(a.oo d b).2.2.2 2 _ rfl;have bM:=(a.oo d b).2.2.2 3 _ rfl;have bN:=(a.oo d b).2.2.2 4 _ rfl;have bO:=(a.oo d b).2.2.2 5 _ rfl;have f:=c 0 _ rfl;have g:=c 1 _ rfl;have h:=c 2 _ rfl;have i:=c 3 _ rfl;have j:=c 4 _ rfl;have k:=c 5 _ rfl;have o:=(λG av (aC:lv v _ G av)=>(by rw[p];exact aC:lv v a1 G av)) _ _ a8;try dsimp only at o aK aL aN aO aP aQ f g h i j k
  have aR:=Q (And.intro f (And.intro g (And.intro h (And.intro i (And.intro j k)))));replace o:=Q o;clear c f g h i j k b e;go_wp2_with fail;obtain⟨f,g,h,i,j,k⟩:=aR.oo;exact bodyPost_ret (v:=.agg #[.int .i64 1,.int .i64 0,.int .i64 0,.int .i64 0,.slice aD aE aF,.slice aG aI aJ]) (by simp[results,results14,go_sem,f,g,h,i,j,k]) rfl o.oo
 ·have p:=a0.oo;rw[al]at p e⊢;rw[if_neg (by decide),if_neg (by decide)]at p;rw[show mA 3=2 from rfl]at e;obtain⟨aD,aE,aF,aG,aI,aJ,rfl,rfl,c,a8⟩:=(a.oo d b).2.1 _ _ _ _ _ _ e;have aK:=e.a9.aA 11 _ rfl;have aL:=e.a9.aA 12 _ rfl;have aN:=e.a9.aA 13 _ rfl;have aO:=e.a9.aA 14 _ rfl;have aP:=e.a9.aA 15 _ rfl;have aQ:=e.a9.aA 16 _ rfl;have bD:=(a.oo d b).2.2.1 0;have bE:=(a.oo d b).2.2.1 1;have bF:=(a.oo d b).2.2.1 2;have bG:=(a.oo d b).2.2.1 3;have bH:=(a.oo d b).2.2.1 4;have bI:=(a.oo d b).2.2.1 5;have bJ:=(a.oo d b).2.2.2 0 _ rfl;have bK:=(a.oo d b).2.2.2 1 _ rfl;have bL:=(a.oo d b).2.2.2 2 _ rfl;have bM:=(a.oo d b).2.2.2 3 _ rfl;have bN:=(a.oo d b).2.2.2 4 _ rfl;have bO:=(a.oo d b).2.2.2 5 _ rfl;have f:=c 0 _ rfl;have g:=c 1 _ rfl;have h:=c 2 _ rfl;have i:=c 3 _ rfl;have j:=c 4 _ rfl;have k:=c 5 _ rfl;have o:=(λG av (aC:lv v _ G av)=>(by rw[p];exact aC:lv v a1 G av)) _ _ a8;try dsimp only at o aK aL aN aO aP aQ f g h i j k
  have aR:=Q (And.intro f (And.intro g (And.intro h (And.intro i (And.intro j k)))));replace o:=Q o;clear c f g h i j k b e;go_wp2_with fail;obtain⟨f,g,h,i,j,k⟩:=aR.oo;exact bodyPost_ret (v:=.agg #[.int .i64 2,.int .i64 0,.int .i64 0,.int .i64 0,.slice aD aE aF,.slice aG aI aJ]) (by simp[results,results14,go_sem,f,g,h,i,j,k]) rfl o.oo
 have ar:=br.oo al;have ay:=a0.oo;rw[al]at ay e⊢;rw[if_pos rfl]at ay;have ce:=Q (Vw ad l w s y t u _ z ai ak R ag d ar e);have bP:=Q ar;have ba:=Q b;have ct:=(a.oo d b).1 1 _ (by decide) rfl;change H _ at ay;clear al ar b e;go_wp2_with fail;rw[rounds_succ];go_wp2_with fail;refine ce.oo.mono ?_;rintro G cf ⟨rfl,cg,ai,ak,R,ag,ch⟩;have bR:=ba.oo.tr cg;have ci:=Q (Vx ad l w s t u (mz z s u) y z ai ak R ag cf bP.oo (by omega) bW ch);have ba:=Q bR;have cu:=(a.oo cf bR).1 2 _ (by decide) rfl;clear ct cg bR ch ce;go_wp2_with fail;rw[rounds_succ];go_wp2_with fail;refine ci.oo.mono ?_;rintro G x ⟨rfl,cj,ai,ak,R,ag,O⟩;have r:=ba.oo.tr cj;clear cu cj;have p:=ay.oo;unfold sd at p;have bS:=Q (λal=>bP.oo.room (seed:=s) (bud:=t) bW al);obtain⟨X,bT⟩:=K (fS z s y t);rw[<-bT]at p O bS⊢;obtain⟨aW,hF⟩:=K (eK (hG z.L z.D (nI z) z.dl z.cap z.len X.2));rw[<-hF]at p O⊢;generalize mz z s u=aS at*;by_cases am:X.1=0/\aW=0
 ·rw[if_pos am]at p;have bU:kt X.1 aW=0:=by unfold kt;rw[if_pos am.1];exact am.2
  have bb:mB aS X.1 aW X.2=⟨4,aS,0,0,[],X.2⟩:=if_pos am;rw[bU];rw[bb]at O;have ck:=Q (Vy ad l w s y t u aS z X.2 ai ak R ag x bP.oo (bS.oo am.1) O);have ba:=Q r;have ay:a1=ve z aS X.2:=p;have cv:=(a.oo x r).1 3 _ (by decide) rfl;change H _ at ay;clear bU bb O r bT hF am ci;go_wp2_with fail;rw[rounds_succ];go_wp2_with fail;refine ck.oo.mono ?_;rintro G U ⟨rfl,cl,ai,ak,R,ag,an⟩;have P:=ba.oo.tr cl;have p:=ay.oo;rw[<-p]at an;obtain⟨cw,cx,cy,cz,cH,cI⟩:=a1;clear cv cl ck ay bS;go_wp2_with fail;rw[rounds_succ];obtain⟨aD,aE,aF,aG,aI,aJ,rfl,rfl,c,o⟩:=(a.oo U P).2.1 _ _ _ _ _ _ an;have aK:=an.a9.aA 11 _ rfl;have aL:=an.a9.aA 12 _ rfl;have aN:=an.a9.aA 13 _ rfl;have aO:=an.a9.aA 14 _ rfl;have aP:=an.a9.aA 15 _ rfl;have aQ:=an.a9.aA 16 _ rfl;have bD:=(a.oo U P).2.2.1 0;have bE:=(a.oo U P).2.2.1 1;have bF:=(a.oo U P).2.2.1 2;have bG:=(a.oo U P).2.2.1 3;have bH:=(a.oo U P).2.2.1 4;have bI:=(a.oo U P).2.2.1 5;have bJ:=(a.oo U P).2.2.2 0 _ rfl;have bK:=(a.oo U P).2.2.2 1 _ rfl;have bL:=(a.oo U P).2.2.2 2 _ rfl;have bM:=(a.oo U P).2.2.2 3 _ rfl;have bN:=(a.oo U P).2.2.2 4 _ rfl;have bO:=(a.oo U P).2.2.2 5 _ rfl;have f:=c 0 _ rfl;have g:=c 1 _ rfl;have h:=c 2 _ rfl;have i:=c 3 _ rfl;have j:=c 4 _ rfl;have k:=c 5 _ rfl;try dsimp only at o aK aL aN aO aP aQ f g h i j k
  have aR:=Q (And.intro f (And.intro g (And.intro h (And.intro i (And.intro j k)))));replace o:=Q o;clear c f g h i j k P an;go_wp2_with fail;obtain⟨f,g,h,i,j,k⟩:=aR.oo;exact bodyPost_ret (v:=.agg #[.int .i64 cw,.int .i64 cx,.int .i64 cy,.int .i64 cz,.slice aD aE aF,.slice aG aI aJ]) (by simp[results,results14,go_sem,f,g,h,i,j,k]) rfl o.oo
 rw[if_neg am]at p;have bU:(kt X.1 aW !=0)=true:=by unfold kt;simp;split<;>simp_all
 have bb:mB aS X.1 aW X.2=⟨3,aS,0,0,[],[]⟩:=if_neg am;rw[bb]at O;generalize kt X.1 aW=cJ at*;clear bb am bT hF;obtain⟨aD,aE,aF,aG,aI,aJ,rfl,rfl,c,a8⟩:=(a.oo x r).2.1 _ _ _ _ _ _ O;have aK:=O.a9.aA 11 _ rfl;have aL:=O.a9.aA 12 _ rfl;have aN:=O.a9.aA 13 _ rfl;have aO:=O.a9.aA 14 _ rfl;have aP:=O.a9.aA 15 _ rfl;have aQ:=O.a9.aA 16 _ rfl;have bD:=(a.oo x r).2.2.1 0;have bE:=(a.oo x r).2.2.1 1;have bF:=(a.oo x r).2.2.1 2;have bG:=(a.oo x r).2.2.1 3;have bH:=(a.oo x r).2.2.1 4;have bI:=(a.oo x r).2.2.1 5;have bJ:=(a.oo x r).2.2.2 0 _ rfl;have bK:=(a.oo x r).2.2.2 1 _ rfl;have bL:=(a.oo x r).2.2.2 2 _ rfl;have bM:=(a.oo x r).2.2.2 3 _ rfl;have bN:=(a.oo x r).2.2.2 4 _ rfl;have bO:=(a.oo x r).2.2.2 5 _ rfl;have f:=c 0 _ rfl;have g:=c 1 _ rfl;have h:=c 2 _ rfl;have i:=c 3 _ rfl;have j:=c 4 _ rfl;have k:=c 5 _ rfl;have o:=(λG av (aC:lv v _ G av)=>(by rw[p];exact aC:lv v a1 G av)) _ _ a8;try dsimp only at o aK aL aN aO aP aQ f g h i j k
 have aR:=Q (And.intro f (And.intro g (And.intro h (And.intro i (And.intro j k)))));replace o:=Q o;clear c f g h i j k r O;go_wp2_with fail;obtain⟨f,g,h,i,j,k⟩:=aR.oo;exact bodyPost_ret (v:=.agg #[.int .i64 3,.int .i64 aS,.int .i64 0,.int .i64 0,.slice aD aE aF,.slice aG aI aJ]) (by simp[results,results14,go_sem,f,g,h,i,j,k]) rfl o.oo
def VF{a:ad}(c:eK a=0)(b:N)(e:b<L a):ae a b=0:=by
 unfold eK at c;cases d:a.find? (λf=>decide (f≠0))with
  |none=>have:=List.find?_eq_none.1 d a[b] (dY e);rw[show ae a b=a[b] by simp[ae,List.getD,e]];simpa using this
  |some g=>rw[d]at c;have:=List.find?_some d;simp at c this;exact absurd c this
def VG{h:a0}{q:ai}{c:f6}(x:L h<=2000)(f:eK (hG h q a i j k c)=0):ns c:=by
 have u:∀b d e,al (ah (aC c b) d) e=(0,0)\/((0<=(al (ah (aC c b) d) e).1/\(al (ah (aC c b) d) e).1<(L h:I))/\0<=(al (ah (aC c b) d) e).2/\(al (ah (aC c b) d) e).2<=2147483648):=by
  intro b d e;by_cases g:e<(ah (aC c b) d).length;have n:d<(aC c b).length:=by rcases Nat.lt_or_ge d (aC c b).length with f|f;exact f;rw[show ah (aC c b) d=[] by simp[ah,f]]at g;simp at g
  have v:b<L c:=by rcases Nat.lt_or_ge b (L c) with f|f;exact f;rw[show aC c b=[] by simp[aC,f]]at n;simp at n
  have l:=VF f b (by rw[Ba];omega);rw[A' v]at l;have o:cf (L h) q j k (ah (aC c b) d)=0:=by unfold eZ at l;split at l;rename_i p;exact absurd l p;rename_i p;exact(yj _ _).1 (Classical.not_not.1 p) d n
  unfold cf at o;split at o;cases o;rename_i m;rw[Bool.not_eq_false]at m;unfold h6 at m;rw[cr,d4]at m;have r:=m.1 _ (dY g);rw[show al (ah (aC c b) d) e=(ah (aC c b) d)[e] by simp[al,g]];unfold hm at r;simp only[cr,Bool.not_eq_true',Bool.or_eq_false_iff,decide_eq_false_iff_not]at r;right;omega;left;simp[al,Nat.le_of_not_lt g]
 intro b d e;rcases u b d e with w|f;rw[w];decide;omega
def VH{d:f6}(h:ns d)(a:N):∀b∈dq d a,(0<=b.1/\b.1<=1000000000000000000)/\0<=b.2.1/\b.2.1<=1000000000000000000:=by
 induction a with
  |zero=>intro b c;cases c
  |succ a i=>intro b c;rw[dq]at c;rcases eh.1 c with f|f;exact i b f;unfold ee at f;have⟨o,j,c⟩:=List.mem_flatten.1 f;obtain⟨p,k,rfl⟩:=List.mem_map.1 j;unfold ed at c;obtain⟨q,l,rfl⟩:=List.mem_map.1 c;obtain⟨e,m,rfl⟩:=List.mem_iff_getElem.1 k;obtain⟨g,n,rfl⟩:=List.mem_iff_getElem.1 l;have:=h a e g;rw[show ah (aC d a) e=(aC d a)[e] by simp[ah,m],show al ((aC d a)[e]) g=((aC d a)[e])[g] by simp[al,n]]at this;exact this
def eN(b:W)(c:N)(d:V)(a:bD):Prop:=b.ownsRow c 9 1 d (L a) (a.map a7)
def eN.bw{Kx:W}{Kl:V}{b:bD}(d:eN w a Kl b)(f:B w w Kx):eN Kx a Kl b:=gd (row:=Z) d (dS f) mM
def eN.strs{b:bD}(d:eN w a u b):bO w u b:=cc.sl (Xs:=9) (Xt:=λ_=>False) (Xu:=a) (Xv:=b.map a7) ⟨d,λk g l _ _=>by show _=_;simp[List.getD,g]⟩
def eN.two(a:W)(b c:ByteArray):eN (a.alloc (az #[a7 b,a7 c] 9)) a (S (A (a:N)) 2 2) [b,c]:=⟨D,.inr ⟨(a:N),2,#[a7 b,a7 c],J,aL _,World.alloc_heap_new _ _,aL _,av,J,J⟩⟩
def VI{i:bd}{f:a'}{p:a'->W->Prop}{s:bJ}(j k:Operand)(t:i.op= .call {callee:=.builtin .append,args:=#[j,k],argTypes:=#[37,37]})(a:W)(c:N)(l:V)(b:bD)(m n:ByteArray)(d:N)(u:f.eval j=l)(v:f.eval k=S (A d) 2 2)(w:ax a d [a7 m,a7 n])(q:eN a c l b)(Y:L b<=10000000)(r:c<=(a:N))(x:∀g h e,eN e c (S (A ⟨g,0,Z⟩) (L b+2) h) (b++[m,n])->B c a e->p (f.put i.dst (S (A ⟨g,0,Z⟩) (L b+2) h)) e):i.wp ab f a p s:=by
 have⟨y,z,D,G,H⟩:=ew ne;refine wp_append_lies a j k 37 t c 9 y (a7 ByteArray.empty) 1 16 underlying37 z D G H J av l (L b) (b.map a7) u q ⟨d,0,Z⟩ 2 2 [a7 m,a7 n] v J (λo Kk K=>?_) kA av eQ O r a J ?_;have ha:(⟨d,0,Z⟩:bQ).add o=⟨d,o,Z⟩:=hM
 rw[ha];exact w o Kk K;intro g h e M P ad ae;exact x g h e (by simpa[eN]using M) ((aS c a).grown P r (λQ R=>(bI q Q R).1))
section
attribute [local go_sem] Oper.semAt_some
def hJ(a:Zaa):ByteArray:=⟨(bm a).toArray⟩
def Bk(a:f6):bm (en a)≠[]:=by
 intro b;have d:(cB [cR,a5 (L a:I)]).data.toList=[]:=by unfold en bm at b;rw[List.flatMap_cons]at b;exact(List.append_eq_nil_iff.1 b).1
 have c:(cB [cR,a5 (L a:I)]).size=0:=by rw[Lib.size_eq,d];rfl
 unfold cB at c;rw[ByteArray.size_append]at c;have:gO.size=1:=J;omega
def io(a:ag)(c:N):bD:=md::a5 (L a:I)::(a.take c).flatMap λb=>[a5 b.1,a5 b.2]
def Bl(a:ag)(b:N)(c:b<L a):io a (b+1)=io a b++[a5 (al a b).1,a5 (al a b).2]:=by unfold io;rw[iq a b c,List.flatMap_append];simp
def VJ(a:ag):io a (L a)=fI a:=by unfold io fI;rw[List.take_length]
def VK(b:ag)(a:N):(io b a).length<=2+2*a:=by
 induction a with
  |zero=>simp[io]
  |succ a e=>
   by_cases c:a<L b;rw[Bl b a c,bL];simp;omega;have d:io b (a+1)=io b a:=by unfold io;rw[cm O,cm O]
   rw[d];omega
def Bm(b:f6)(a:W)(c:bp)(d:W):Prop:=c=aq (aZ #[a7 (hJ (en b)),(0:I)])/\B a a d
def VL(b:W)(a:bD)(d:L a<=1000):∃c,b.alloc (az (a.map a7).toArray 9)=c/\B b b c/\bO c (S (A (b:N)) (L a) (L a)) a:=⟨_,J,aN _ _,jh b a d⟩
def VM(co:V)(b:f6)(o:W)(h:bq o co b)(eP:L b<=1000)(bT:eE b)(bu:ns b):ap ab 23 #[ao #[co]] o (Bm b o):=by
 have cp:=Q (λ(eQ:Zaa) (hp:∃ak,en b=eQ++ak)=>S4 eP bT bu hp);have dl:=Q (VH bu (L b));have eR:=Q (λc d=>Ad (ah (aC b c) d) (a1 (tm d) (a1 (bT c).1 av)) (bu c d));obtain⟨dm,cq,dn,dp,dq⟩:=ec o co;obtain⟨dr,cr,cs,eS,ds⟩:=rX dm (a7 ⟨#[]⟩) 9;obtain⟨bx,ct,bU,eT,cu⟩:=rX dr (0:I) 28;obtain⟨bV,p,bW,rfl,aQ,_,bX⟩:=h.open;have cv:=q dn (q cs bU);have bz:=s (q cs bU) dq;have cw:=ds.bw bU;obtain⟨k,cx⟩:=K o.heap.size;rw[<-cx]at dp bz;have cy:dm.heap.size=k+1:=O
 have cz:dr.heap.size=k+2:=O
 rw[cy]at cw;rw[cz]at cu;have dt:bx.heap.size=k+3:=O
 have du:=Q (xa (S bV p bW) bx ⟨_,_,_,J⟩);have dv:=Q h;have bA:=Q (U bz (U cw cu));have a8:=Q (U cy (U cz (U dt cx)));change H _ at cq cr ct cv aQ;change H _ at bT bu;clear dn cs bU dp eS eT ds dq h bz cw cu cy cz dt bX cx;refine m3 func23 J ?_;simp only[ntmps23,List.size_toArray,dx,et,Nat.reduceAdd,Nat.reduceSub,Array.replicate_succ,Array.replicate_zero,List.push_toArray,List.append_toArray,List.nil_append,List.cons_append];go_upto_region 1 with(fail)
 rw[cq,cr,ct,<-a8.2.2.2];try simp only[a8.oo.1,a8.oo.2.1]
 have bz:=bA.1;go_wp2_with fail;refine mU du λe ⟨cA,z⟩=>?_;have cC:=q cv z;have dw:=Q (xd bx.heap.size o e (S bV p bW) b dv cC cA);have fs:bx.heap.size<e.heap.size:=aR _ _ cA;have cD:=Q (U z cC);have bB:=Q (U (s z bA.oo.1) (U (bA.oo.2.1.bw z) (U (bA.oo.2.2.bw z) (show k+3<=e.heap.size by have:=z.size;have:=a8.2.2.1;omega))));clear cA z cC bz;go_wp2_with fail;generalize bx.heap.size=eU at*;refine nY J (enters_of func49 aT J) dw (λ_=>rfl) (λcE X cF=>(∀a,¬X a)/\B e.heap.size e cF) (λ_=>False) (λcE X cF ft am r=>⟨am.1,am.2.trans (r.bg am.2.size λa r m=>O)⟩) (λcE X cF am a r=>absurd r (am.1 a)) ⟨λ_ m=>m,aS _ _⟩ ?round ?done;case round=>
  intro fu cE eV X i bZ eW Ch eX;obtain⟨ak,ad⟩:=eW;obtain⟨g,cG,dy⟩:=eV;have cH:=dl (g,cG,dy) (by rw[ad];simp);obtain⟨fv,dz,cI,fw,cJ,bC,eY⟩:=xg i g cG dy;have dA:=Q (λ(f:W)=>z9 g f);have dB:=Q (λ(f:W)=>z9 cG f);rw[dD cH.1]at dA;rw[dD cH.2]at dB;have eZ:=Q Ch;have dC:e.heap.size<=i.heap.size:=bZ.2.size;change H _ at dz cI bZ;clear ad cH eX;simp only[qR,List.zip_toArray,List.zip_cons_cons,List.zip_nil_left];gi_wp2;rw[dz];refine⟨cI,λcK b0=>?_⟩;have dE:i.heap.size≠e.heap.size+1:=O
  have cJ:=b0.cell cJ dE;have bC:=b0.cell bC dE;have dF:M (λa=>a=e.heap.size+1) i cK:=(M.bw cI).trans b0 (O1:=λ_=>False) (λ_ _ m=>m.elim) I2;have b2:=Q dF;clear b0 dF eY;gi_upto_region 3 with fail;refine jY jI dI ?_;go_wp2_with fail;refine mU (dA _) λfy cL=>?_;have bC:=s cL bC;change H _ at cL;clear cJ;go_wp2_with fail;refine mU (dB _) λcM z=>?_;have b3:=q cL z;have aV:∃dG:aD,((∀a,¬dG a)/\B e.heap.size e cM)/\M (λa=>X a\/a=e.heap.size+1) i cM/\cM.heap[e.heap.size+1]? =cK.heap[e.heap.size+1]?/\∀a,dG a->X a\/i.heap.size<=a:=by have e0:e.heap.size+1<cK.heap.size:=cg eZ b2.size;refine⟨X,⟨bZ.1,?_⟩,b2.trans (M.bw (I':=λ_=>False) b3) (λ_ _ m=>.inr m) (λ_ _ m=>m.elim),b3.block _ e0,λa r=>.inl r⟩;exact(bZ.2.trans (b2.bg dC λa r m=>O)).trans (b3.mono (a1 dC b2.size))
  replace aV:=Q aV;clear b3 z bC;go_wp2_with fail;gi_wp2;exact aV
 case done=>
  intro X i am t e2;have bE:=am.2;have G:=a8.oo;obtain⟨l,aW⟩:=K i.heap.size;have fz:e.heap.size<l:=by rw[aW];exact(bM.1 t).1
  have fA:k+3<=e.heap.size:=bB.2.2.2;have cN:B o.heap.size o i:=cD.2.trans (bE.mono cD.2.size);have fB:e.heap.size<=l:=O
  have b5:=Q (λ(f:W) (P:B l i f)=>show f.cell? ⟨k,0,Z⟩=A (S bV p bW)/\bq f (S bV p bW) b/\f.heap[e.heap.size]? =A (.deferred (A []))/\jx f (k+1) 9 (a7 ⟨#[]⟩)/\jx f (k+2) 28 (0:I)/\B o.heap.size o f from by have a9:=s bE bB.1;have ba:=bB.2.1.bw bE;have e3:=bB.2.2.1.bw bE;rw[aW]at P;exact⟨s P a9,(dv.bw cN).bw P,(P.block _ O).trans t,ba.bw P,e3.bw P,q cN P⟩);obtain⟨cO,dH,dJ,dK,cP⟩:=Af i;rw[<-aW]at cP dK;have cQ:B l i cO:=by rw[aW];exact dJ
  have cS:=Q (U cP cQ);obtain⟨e4,_,_,_,_,_⟩:=b5 cO cQ;have e5:=Q (b5.oo i (aS _ _)).2.1;have b6:=Q (λ(f:W) (dL dM:N) (u:V) (P:B l i f) (h:C i ⟨dL,dM,Z⟩=A u)=>(by rw[aW]at P;exact s P h:C f ⟨dL,dM,Z⟩=A u));change H _ at dH;change H _ at aW;clear am t e2 bE G cN dJ dK cP cQ du dw bA bB cD cv cq cr ct dl;have cT:=Q (λ(aX:N) (f:W) (e6:aX<=1000000)=>ot (aX:I) f O O);have dN:=Q (λ(aX:N) (e6:aX<=1000000)=>oA (aX:I) O O);have dO:p<=1000000:=Y aQ.oo
  go_upto_region 6 with(rw[dH,<-aW])
  go_wp2_with fail;refine mU (cT p cO dO) λdP cU=>?_;obtain⟨g,aY⟩:=K (a5 (p:I));have bb:=dN p dO;rw[<-aY]at bb⊢;have ar:=Q (p3 cR g dP (by have:cR.size=4:=J;omega));have b7:=Q (U (cS.oo.1.bw cU) (U (cS.oo.2.trans (cU.mono (iv cS.oo.1.lt))) bb));change H _ at aY;clear e4 cU bb;go_wp2_with fail;refine mU ar λe7 dQ=>?_;have cV:=q (aN dP (az #[a7 cR,a7 g] 9)) dQ;have v:bm []++(cB [cR,g]).data.toList=bm (hy b 0):=by rw[mm,aY,<-aQ];rfl
  have w:=cp (hy b 0) (Ab b 0);rw[<-v,bL,<-Lib.size_eq]at w;have x:=Q (lg l (bm []) (cB [cR,g]) e7 (b7.1.bw cV) w);rw[v]at x;have dR:=Q (b7.oo.2.1.trans (cV.mono (iv b7.1.lt)));clear dQ cV v w;go_wp2_with fail;refine mU x λe8 ⟨dS,dT,_⟩=>?_;have cW:=dR.trans dT;obtain⟨e9,_,_,_,_,_⟩:=b5 e8 cW;have dU:=Q (U dS cW);clear dS dT cW x ar dR b7;go_wp2;go_loopw [38] (λc wr=>∃a:N,c=(a:I)/\a<=p/\hz l (bm (hy b a)) wr/\B l i wr) (λc _=>p-(aw c).toNat);exact⟨0,J,a3 _,dU.1,dU.2⟩;case round=>
   clear e9;obtain⟨c,rfl,fC,n,y⟩:=hrel;obtain⟨j,rfl⟩:=K wr;by_cases Ch:c<p;rotate_left
   ·have bF:bm (hy b c)=bm (en b):=by rw[show c=L b by have:=aQ.oo;omega,S1]
    rw[bF]at n;have dV:=Q (Ag l (bm (en b)) j n (Bk b));obtain⟨ay,cX⟩:∃ay:ByteArray,ay=⟨(bm (en b)).toArray⟩:=⟨_,J⟩
    rw[<-cX]at dV;have e':=Q y;change H _ at cX;clear bF n y;go_wp2_with fail;refine mU dV λbe bh=>?_;obtain⟨_,_,b8,cY,cZ,c0⟩:=b5 be (e'.trans bh);have fa:=cY.cell;have fb:=cZ.cell;have f1:=Lib.frozen_of_heap cY 0;have fD:=Lib.frozen_of_heap cZ 0;obtain⟨aA,b9⟩:=K ((aj be ⟨k+1,0,Z⟩ (a7 (ay))).setCell ⟨k+1+1,0,Z⟩ (0:I));have fE:o.heap.size=k:=a8.2.2.2.symm;have bG:=ca be (k+1) 0 (a7 (ay));have bH:=ca (aj be ⟨k+1,0,Z⟩ (a7 (ay))) (k+1+1) 0 (0:I);have b':=hc aA e.heap.size (.deferred Z);rw[<-b9]at bH;have a9:C aA ⟨k+1,0,Z⟩=A (a7 (ay)):=bH.cell (bP _ _ _ (by rw[fa];rfl)) O;have ba:C aA ⟨k+1+1,0,Z⟩=A (aa ac 0):=by rw[b9];exact bP _ _ _ (by rw[bG.cell fb O];rfl)
    have cc:aA.heap[e.heap.size]? =A (.deferred (A [])):=(bH.block _ (cg (bM.1 b8).1 bG.size) O).trans ((bG.block _ (bM.1 b8).1 O).trans b8);have aV:Bm b o (aq (aZ #[a7 (ay),(0:I)])) (aA.putObj e.heap.size (.deferred Z)):=by have dW:=c0.trans (bG.bg c0.size λa r m=>O);have dX:=dW.trans (bH.bg dW.size λa r m=>O);exact⟨by rw[cX];rfl,dX.trans (b'.bg dX.size λa r m=>O)⟩
    have fc:=Q (U (b'.cell a9 O) (U (b'.cell ba O) cc));change H _ at b9;replace aV:=Q aV;clear bG bH b' a9 ba cc c0 b8 cY cZ bh;go_wp2_with fail;have fF:True:=trivial;try rw[<-b9]
    obtain⟨a9,ba,cc⟩:=fc;exact kK (Kl:=aZ #[a7 (ay),(0:I)]) cc (by simp[results,results23,go_sem,a9,ba]) aV
   have fG:=aJ c;have fH:(c:I)<(p:I):=O
   obtain⟨fJ,fK,fL,G,_,_,bX⟩:=e5.open;simp only[bf]at G;obtain⟨rfl,rfl,rfl⟩:=G;obtain⟨fM,fN,fd,aF,fe,rfl,c1,dY⟩:=bX c Ch;have c1:=b6 j _ _ _ y c1;obtain⟨_,_,_,G,cd,d0,d1⟩:=dY.open;simp only[bf]at G;obtain⟨rfl,rfl,rfl⟩:=G;obtain⟨be,d2,bh,ff,ce⟩:=rX j (S fd aF fe) 95;have bI:=n.lt;have d3:=n.bw bh;have d4:=y.trans (bh.mono (iv bI));obtain⟨fg,c2⟩:=K j.heap.size;rw[<-c2]at ce;have fh:l<fg:=O
   have cf:=Q (U d3 (U d4 (U ce fh)));have c3:=ce.cell;change H _ at d2 c2;change H _ at cd d1;clear bX dY bh ff ce n d3 y d4 bI;go_upto_region 10 with(rw[d2,<-c2])
   clear c1;go_wp2_with fail;refine mU (cT aF be d0) λaA ch=>?_;obtain⟨g,aY⟩:=K (a5 (aF:I));have bb:=dN aF d0;rw[<-aY]at bb⊢;have ar:=Q (p3 e1 g aA (by have:e1.size=3:=J;omega));have d5:=cf.2.2.1.bw ch;have bJ:=Q (U (cf.oo.1.bw ch) (U (cf.oo.2.1.trans (ch.mono (iv cf.oo.1.lt))) d5));change H _ at aY;clear ch bb c3 d5;go_wp2_with fail;refine mU ar λfi d6=>?_;have ci:=q (aN aA (az #[a7 e1,a7 g] 9)) d6;have v:bm (hy b c)++(cB [e1,g]).data.toList=bm (gF b c 0):=by rw[mm,aY];unfold gF;rw[cd];rfl
   have w:=cp (gF b c 0) (Ac b c 0 (Y aQ.oo));rw[<-v,bL,<-Lib.size_eq]at w;have x:=Q (lg l (bm (hy b c)) (cB [e1,g]) fi (bJ.1.bw ci) w);rw[v]at x;have c4:=Q (U (bJ.oo.2.1.trans (ci.mono (iv bJ.oo.1.lt))) (bJ.oo.2.2.bw ci));clear d6 ci v w;go_wp2_with fail;refine mU x λfO ⟨d7,d8,d9⟩=>?_;have d':=c4.1.trans d8;have eb:=c4.2.QK d9 O av;have c3:=eb.cell;have ed:=Q (U d7 d');clear d7 d8 d9 d' eb x ar c4 bJ;go_wp2_with fail;clear c3;go_loopw [52] (λu wr=>∃a:N,u=(a:I)/\a<=aF/\hz l (bm (gF b c a)) wr/\B l i wr) (λu _=>aF-(aw u).toNat);exact⟨0,J,a3 _,ed.1,ed.2⟩;case round=>
    obtain⟨d,rfl,fP,n,y⟩:=hrel;obtain⟨j,rfl⟩:=K wr;by_cases Gp:d<aF;rotate_left
    ·have bF:bm (gF b c d)=bm (hy b (c+1)):=by rw[show d=(aC b c).length by have:=cd.oo;omega,Aa b c (Y aQ.oo)]
     rw[bF]at n;have aG:=Q (U n y);clear bF n y;go_wp2;go_roundw;case rel=>exact⟨c+1,aK,O,aG.1,aG.2⟩
     exact bY
    have fQ:=aJ d;have fR:(d:I)<(aF:I):=O
    obtain⟨fS,fT,fj,aI,fk,rfl,c5,ee⟩:=d1 d Gp;have c5:=b6 j _ _ _ y c5;obtain⟨R,bk⟩:=K (ah (aC b c) d);obtain⟨_,_,_,G,bl,_,c6⟩:=ee.open;simp only[bf]at G;obtain⟨rfl,rfl,rfl⟩:=G;rw[<-bk]at bl c6;have fl:aI<=1000000:=by have:=tm (Jj:=aC b c) d;rw[<-bk]at this;have:=(bT c).1;omega
    obtain⟨fm,ef,c7,fn,cj⟩:=rX j (S fj aI fk) 98;have bI:=n.lt;have eg:=n.bw c7;have eh:=y.trans (c7.mono (iv bI));obtain⟨fV,c8⟩:=K j.heap.size;rw[<-c8]at cj;have ck:=Q (U eg (U eh cj));have ei:=cj.cell;change H _ at ef c8 bk;change H _ at c6 bl;clear ee c7 fn cj n eg y eh bI;go_upto_region 14 with(rw[ef,<-c8])
    clear c5;go_wp2_with fail;refine mU (cT aI fm fl) λa0 cl=>?_;obtain⟨g,c9⟩:=K (a5 (aI:I));rw[<-c9];obtain⟨c',ej,bK,_⟩:=VL a0 [md,g] D;have bN:=eN.two a0 md g;have da:a0.alloc (az #[a7 md,a7 g] 9)=c':=ej;rw[da]at bN;have ek:=ck.1.bw cl;have el:=ck.2.1.trans (cl.mono (iv ck.1.lt));have em:=(ck.2.2.bw cl).bw bK;have ei:=em.cell;have eo:[md,g]=io R 0:=by unfold io;rw[bl,c9];rfl
    rw[eo]at bN;obtain⟨bO,ae⟩:=K a0.heap.size;rw[<-ae]at bN;have bK:B bO a0 c':=by rw[ae];exact bK
    have a2:=Q (U ek (U el (U bN bK)));change H _ at da ae;clear cl c9 ej ek el em eo bN bK;go_upto_region 15 with fail;rw[show a0.alloc (az #[a7 ⟨#[116,111,117,114]⟩,a7 g] 9)=c' from da,<-ae];go_wp2_with fail;clear ei;go_loopw [10,64] (λu aL wr=>∃(a:N) (ep:V) (ak:bD),ep=u/\aL=(a:I)/\a<=aI/\eN wr bO ep ak/\ak=io R a/\B bO a0 wr) (λ_ aL _=>aI-(aw aL).toNat);exact⟨0,_,_,J,J,a3 _,a2.2.2.1,J,a2.2.2.2⟩;case round=>
     obtain⟨a,u,ak,rfl,rfl,r,bn,ad,bo⟩:=hrel;obtain⟨j,rfl⟩:=K wr;obtain⟨eq,er,es,rfl⟩:∃db aX ag,u=S db aX ag:=by obtain⟨db,ag,m,_⟩:=bn.strs;exact⟨db,_,ag,m⟩
     by_cases dc:a<aI;rotate_left
     ·have eu:a=L R:=by have:=bl.oo;omega
      rw[eu,VJ]at ad;rw[ad]at bn;have aO:=bo;rw[ae]at aO;have ev:=a2.1.bw aO;have ew:=a2.2.1.trans (aO.mono (iv a2.1.lt));have ex:=eR c d;rw[<-bk]at ex;have fo:L R<=1000000:=Y bl.oo
      have ar:=Q (pL (S eq er es) (fI R) j bn.strs O);have dd:=Q (U ev ew);clear eu ad bn bo aO ev ew ex fo;go_wp2_with fail;refine mU ar λey ai=>?_;have v:bm (gF b c d)++(cB (fI R)).data.toList=bm (gF b c (d+1)):=by rw[mm,bk,<-S3 b c d (Y cd.oo)]
      have w:=cp (gF b c (d+1)) (Ac b c (d+1) (Y aQ.oo));rw[<-v,bL,<-Lib.size_eq]at w;have x:=Q (lg l (bm (gF b c d)) (cB (fI R)) ey (dd.1.bw ai) w);rw[v]at x;have fp:=Q (dd.oo.2.trans (ai.mono (iv dd.1.lt)));clear ai v w;go_wp2_with fail;refine mU x λa4 ⟨ez,aP,_⟩=>?_;have aG:=Q (U ez (fp.oo.trans aP));clear ez aP x ar;go_wp2;go_roundw;case rel=>exact⟨d+1,aK,O,aG.1,aG.2⟩
      simp only[aw];exact qw
     have fW:=aJ a;have fX:(a:I)<(aI:I):=O
     obtain⟨fY,fZ,rfl,bR,bS⟩:=c6 a dc;have aO:=bo;rw[ae]at aO;have de:B l i j:=a2.2.1.trans (aO.mono (iv a2.1.lt));have bR:=b6 j _ _ _ de bR;have bS:=b6 j _ _ _ de bS;have a6:=Bl R a (Y bl.oo);have cm:=bu c d a;rw[<-bk]at cm;have fq:L ak<=10000000:=by rw[ad];have:=VK R a;omega
     rw[<-ad]at a6;obtain⟨⟨ag,aL⟩,eA⟩:=K (al R a);rw[<-eA]at bR bS a6 cm;dsimp only at bR bS a6 cm;have eB:=Q (λ(f:W)=>ot ag f O O);have eC:=Q (λ(f:W)=>ot aL f O O);obtain⟨df,eD⟩:=K (a5 ag);obtain⟨dg,eF⟩:=K (a5 aL);rw[<-eD]at a6 eB;rw[<-eF]at a6 eC;obtain⟨br,eG,dh,u0,u1⟩:∃br,j.alloc (az #[(ag:I),(aL:I)] 89)=br/\B j.heap.size j br/\C br ⟨j.heap.size,0,Z⟩=A (aa ac ag)/\C br ⟨j.heap.size,1,Z⟩=A (aa ac aL):=⟨_,J,aN _ _,aE,aE⟩
     have eH:=bn.bw dh;have eI:=bo.trans (dh.mono (bi bo.size ae.oo));have cn:=Q (U eH eI);change H _ at eG;change H _ at a6;clear aO de cm eA eD eF bn eH eI dh bo ad;go_upto_region 18 with(rw[eG])
     clear bR bS;refine bv [0,1,4,102,105,203,206,207,308,9] ?_;iterate 5 refine mS ?_
     refine aU λdi t=>?_;go_simp;refine mU (eB _) λey ai=>?_;have ai:=q (an br) ai;refine t _ _ (.mk ai) ?_;refine aU λdi t=>?_;go_simp;refine mU (eC _) λa4 aP=>?_;have aP:=q ai aP;refine t _ _ (.mk aP) ?_;obtain⟨bs,eJ,bt,eK⟩:∃bs,a4.alloc (az #[a7 df,a7 dg] 9)=bs/\B a4.heap.size a4 bs/\ax bs a4.heap.size [a7 df,a7 dg]:=⟨_,J,aN _ _,ax.new a4 _ _⟩
     have bt:=q aP bt;refine aU λdi t=>?_;go_simp;try rw[eJ]
     refine t _ _ (.mk bt) ?_;have eL:=cn.1.bw bt;have dj:=cn.2.trans (bt.mono (bi cn.2.size ae.oo));have eM:bO<=bs.heap.size:=bi dj.size ae.oo
     have fr:=Q dj;clear u0 u1 ai aP bt dj eJ cn;refine b4 λdi t=>?_;refine VI (.tmp 68) (.tmp 75) J bs bO (S eq er es) ak df dg a4.heap.size J J eK eL fq eM ?_;intro eU ag f0 dk eO;rw[<-a6]at dk;have aG:=Q (U dk (fr.oo.trans eO));refine t _ _ ?_;clear dk eO eK eL eM;refine mS ?_;refine bc ?_;go_wp2;go_roundw;case rel=>exact⟨a+1,_,_,J,aK,O,aG.1,J,aG.2⟩
     simp only[aw];first|exact dZ dc|exact ea dc O
end
def b9:ByteArray:=⟨#[111,117,116,99,111,109,101]⟩
def sf:ByteArray:=⟨#[109,97,108,102,111,114,109,101,100]⟩
def sg:ByteArray:=⟨#[114,97,110,103,101]⟩
def jF:ByteArray:=⟨#[110,111,110,101]⟩
def dB:ByteArray:=⟨#[98,111,117,110,100]⟩
def gJ:ByteArray:=⟨#[99,111,115,116]⟩
def iZ:ByteArray:=⟨#[104,111,108,100,105,110,103]⟩
def eO(b:ad)(c:N):Zaa:=(List.range c).map λa:N=>[e1,a5 (a:I),a5 (ae b a)]
def VN(b:ad)(a:N):eO b (a+1)=eO b a++[[e1,a5 (a:I),a5 (ae b a)]]:=by unfold eO;rw[fu,ck];rfl
def oQ(a:gI):Zaa:=[[b9,cR],[dB,a5 a.f9],[gJ,a5 a.cost],[iZ,a5 a.hold]]
def hK(a:gI):Zaa:=if a.out=1 then[[b9,sf]]else if a.out=2 then[[b9,sg]]else if a.out=3 then[[b9,jF],[dB,a5 a.f9]]else oQ a++eO a.days a.days.length++en a.my
structure vf(a:gI):Prop where
 out:a.out=1\/a.out=2\/a.out=3\/a.out=4
 b:bB a.f9=T
 c:bB a.cost=T
 h:bB a.hold=T
 d:∀e∈a.days,bB e=T
 dl:a.days.length<=1000
 pl:a.my.length<=1000
 sm:eE a.my
 told:ns a.my
def Bn(a:I):bB (aB a)=T:=by refine ek.2 ?_;unfold aB;omega
def Bo(b:ad):∀a,bB a=T->bB (b.foldl (λa c=>aB (a+c)) a)=T:=by
 induction b with
  |nil=>intro a d;exact d
  |cons c b e=>intro a _;exact e _ (Bn _)
def Bp(b:a0)(c:f6)(d:I)(a:N):bB (f4 b c d a)=T:=by
 induction a with
  |zero=>exact(by decide:bB 0=T)
  |succ a e=>rw[f4];split;exact Bn _;exact e
def VO(a:ai)(b:ar):bB (cl a b)=T:=Bo _ 0 av
def Bq(e:cT)(f g:I):bB (mz e f g)=T:=by
 unfold mz p' nu;have h:∀a b:I,bB a=T->bB b=T->bB (max a b)=T:=λa b c d=>by have c:=ek.1 c;have d:=ek.1 d;exact ek.2 O
 exact h _ _ (As _ _) (At _ _)
def Br(d:ByteArray)(k l m:I)(f:N)(n:d.size<=60000)(o:f<=1000):vf (ks d k f l m):=by
 unfold ks;have r:=vd d;have a:bB 0=T:=av
 have g:eE []:=λp=>by simp[aC,a6]
 have h:ns []:=λp s t=>by simp[aC,ah,al]
 split;rename_i q;have c:=Bi n q;unfold sd;split;rename_i i;have e:=c.room o i.1;exact⟨.inr (.inr (.inr J)),Bq _ _ _,Bo _ _ (Bp _ _ _ _),Bp _ _ _ _,λj b=>by obtain⟨u,_,rfl⟩:=List.mem_map.1 b;exact VO _ _,by rw[de,e.1];have:=c.dG;omega,by dsimp only;rw[e.1];have:=c.dG;omega,e.hL,VG c.may.ln i.2⟩;exact⟨.inr (.inr (.inl J)),Bq _ _ _,a,a,λj b=>(by cases b),a3 _,a3 _,g,h⟩;refine⟨?_,a,a,a,λj b=>(by cases b),a3 _,a3 _,g,h⟩;dsimp only;split;exact .inl J;exact .inr (.inl J)
def VP{Jf:gI}:rH (hK Jf)/\∃i j,hK Jf=[b9,i]::j:=by
 have e:∀b∈([[b9,sf],[b9,sg],[b9,jF],[b9,cR]]:Zaa),b≠[]/\∀d∈b,d3 d=T:=by intro b a;simp only[cK,List.not_mem_nil,or_false]at a;rcases a with rfl|rfl|rfl|rfl<;>exact⟨D,λd c=>by simp only[cK,List.not_mem_nil,or_false]at c;rcases c with rfl|rfl<;>decide⟩
 have f:∀(g:ByteArray) (h:I),d3 g=T->([g,a5 h]:bD)≠[]/\∀d∈([g,a5 h]:bD),d3 d=T:=λg h ha=>⟨D,λd c=>by simp only[cK,List.not_mem_nil,or_false]at c;rcases c with rfl|rfl;exact ha;exact ni h⟩
 unfold hK;split;exact⟨λb a=>e b (by simp at a;subst a;simp),_,_,J⟩;split;exact⟨λb a=>e b (by simp at a;subst a;simp),_,_,J⟩;split;refine⟨λb a=>?_,_,_,J⟩;simp only[cK,List.not_mem_nil,or_false]at a;rcases a with rfl|rfl;exact e _ D;exact f _ _ av;refine⟨λb a=>?_,_,_,J⟩;rcases eh.1 a with a|a;rcases eh.1 a with a|a;unfold oQ at a;simp only[cK,List.not_mem_nil,or_false]at a;rcases a with rfl|rfl|rfl|rfl;exact e _ D;exact f _ _ av;exact f _ _ av;exact f _ _ av;obtain⟨k,_,rfl⟩:=List.mem_map.1 a;refine⟨D,λd c=>?_⟩;simp only[cK,List.not_mem_nil,or_false]at c;rcases c with rfl|rfl|rfl;decide;exact ni _;exact ni _;exact PY _ b a
def Bs(a:bD):hJ [a]=cB a:=by unfold hJ bm;simp
def VQ(a b:bD):hJ [a,b]=cB a++cB b:=by unfold hJ bm;apply ByteArray.ext;simp
def VR(a:W)(b c d:ByteArray):bO (a.alloc (az #[a7 b,a7 c,a7 d] 9)) (S (A (a:N)) 3 3) [b,c,d]:=jh a [b,c,d] D
def Bt(a:bD)(b:N)(d:cv a<=b):(bm [a]).length<=b+1:=by
 have c:(bm [a]).length=(cB a).size:=by unfold bm;simp
 rw[c];exact a1 (jw a) O
def VS(bR bS:V)(k:gI)(j:W)(ct:vf k)(bT:aX j bR k.days)(hp:bq j bS k.my):ap ab 13 #[ao #[k.out,k.f9,k.cost,k.hold,bR,bS]] j (ch j (a7 (hJ (hK k)))):=by
 obtain⟨a9,r,bn,rfl,cu,_,bU⟩:=bT.open;obtain⟨aL,aO,aP,rfl,_⟩:=hp.open;obtain⟨h,aQ,ar,cw,ay⟩:∃h,j.alloc (az #[k.out,k.f9,k.cost,k.hold,S a9 r bn,S aL aO aP] 52)=h/\B j j h/\h.heap.size=(j:N)+1/\ax h j [k.out,k.f9,k.cost,k.hold,S a9 r bn,S aL aO aP]:=⟨_,J,aN _ _,D,ax.new j _ _⟩
 obtain⟨ai,b,f,l,e,u⟩:=k;obtain⟨cx,R,aR,aS,X,cT,g,bo,ad⟩:=ct;dsimp only at*;have cy:=Q (λ(i:W) (a:B j j i)=>VM (S aL aO aP) u i (hp.bw a) g bo ad);have cz:=Q (uG u g bo ad);have R:=ek.1 R;have aR:=ek.1 aR;have aS:=ek.1 aS;have ba:=Q (λ(bV:ByteArray) (ag:I) (i:W) (cA:bV.size<=1000) (bb: -9223372036854775808<=ag/\ag<=9223372036854775807)=>PU bV ag i cA bb.1 bb.2 (mc ag bb.1 bb.2));have cC:=Q (λ(c:N) (br:c<r)=>ek.1 (X (ae e c) (hO O)));obtain⟨cD,aA⟩:=K (j:N);rw[<-aA]at ay;have bW:=Q ay;have bX:=Q cu;have be:=Q (λaC bf (bZ:Zaa) (cE:hK ⟨ai,b,f,l,e,u⟩=bZ) (bs:aC=aq (a7 (hJ bZ))) (a:B j j bf)=>show ch j (a7 (hJ (hK ⟨ai,b,f,l,e,u⟩))) aC bf from⟨by rw[cE];exact bs,a⟩);have b0:=ay 0 _ J;change H _ at aQ aA ar;change H _ at bU;clear bT hp ay cw X bo ad;rcases cx with rfl|rfl|rfl|rfl
 ·have w:=Q (p3 b9 sf h av);go_in;go_upto_region 1 with(rw[aQ])
  rw[<-aA];go_wp2_with fail;refine mU w λt x=>?_;have m:=Q (be.oo _ t [[b9,sf]] J (by rw[Bs]) (q ar (q (aN _ _) x)));clear x;exact mW
 ·have w:=Q (p3 b9 sg h av);go_in;go_upto_region 1 with(rw[aQ])
  rw[<-aA];go_wp2_with fail;refine mU w λt x=>?_;have m:=Q (be.oo _ t [[b9,sg]] J (by rw[Bs]) (q ar (q (aN _ _) x)));clear x;exact mW
 ·have cF:=bW 1 _ J;obtain⟨t,aT,x,b2⟩:∃t,(h.alloc (az #[a7 b9,a7 jF] 9)).drew=t/\B h.heap.size h t/\bO t (S (A h.heap.size) 2 2) [b9,jF]:=⟨_,J,q (aN h _) (an _),bO.dj.bw (jh h [b9,jF] D) (an _)⟩
  have w:=Q (pL _ [b9,jF] t b2 av);clear b2;have b3:=Q (λ(i:W)=>ba dB b i av R);have b5:=λ(i:W)=>run_string_add_sum (P:=ab) i (cB [b9,jF]) (cB [dB,a5 b]) (by
   have cU:=jw [b9,jF];have cV:=jw [dB,a5 b];have bt:=mc b R.1 R.2;have:cv [b9,jF]=13:=J;have:cv [dB,a5 b]=6+((a5 b).size+1):=o0
   omega)
  obtain⟨cW,bu⟩:=K (cB [b9,jF]);obtain⟨cX,bx⟩:=K (cB [dB,a5 b]);rw[<-bu]at b5 w;rw[<-bx]at b5 b3;have b6:=Q (U bu bx);change H _ at aT;clear bu bx;go_in;go_upto_region 1 with(rw[aQ])
  rw[<-aA];go_upto_region 7 with fail;clear b0;refine bv [2,103,200,201,204,5,6] ?_;iterate 2 refine mS ?_
  refine aU λb7 aV=>?_;go_simp;rw[show(h.alloc (az #[a7 ⟨#[111,117,116,99,111,109,101]⟩,a7 ⟨#[110,111,110,101]⟩] 9)).drew=t from aT];refine aV _ _ (.mk x) ?_;refine aU λb7 aV=>?_;go_simp;refine mU w λb8 aW=>?_;have bz:=q x aW;refine aV _ _ (.mk bz) ?_;refine aU λb7 aV=>?_;go_simp;refine mU (b3 _) λbg aY=>?_;have bA:=q bz aY;refine aV _ _ (.mk bA) ?_;have m:=Q (be.oo _ bg [[b9,jF],[dB,a5 b]] J (by rw[VQ,<-b6.1,<-b6.2]) (q ar bA));clear cF bz bA aW aY x;iterate 2 refine mS ?_
  refine bc ?_;exact mW
 obtain⟨v,a⟩:=K h.heap.size;have ak:=Q (λ(i:W) (al:B v h i)=>U (show ax i cD [(4:I),b,f,l,S a9 r bn,S aL aO aP] by rw[a]at al;exact bW.bw al) (show B j j i by rw[a]at al;exact q ar al));have cG:=Q (λ(i:W) (al:B v h i) (c:N) (br:c<r)=>(by obtain⟨bh,ai,aC,cH⟩:=bU c br;rw[a]at al;exact⟨bh,ai,aC,s (q ar al) cH⟩:∃bh ai,a9=A ⟨bh,ai,Z⟩/\C i ⟨bh,ai+c,Z⟩=A (aa ac (ae e c))));obtain⟨t,aT,x,cI,bB⟩:=Af h;rw[<-a]at bB;have bi:=Q (U bB (show B v h t by rw[a];exact x));have w:=Q (p3 b9 cR t av);have cJ:=Q a;change H _ at aT;clear a x bB cI;go_in;go_upto_region 1 with(rw[aQ])
 rw[<-aA];go_upto_region 10 with(rw[aT,<-cJ])
 clear b0;go_wp2_with fail;refine mU w λb8 aW=>?_;have bC:=q (aN t (az #[a7 b9,a7 cR] 9)) aW;have d:=Q (lg v (bm []) (cB [b9,cR]) b8 (bi.1.bw bC) (by have:=jw [b9,cR];have:cv [b9,cR]=13:=J;have:(bm []).length=0:=J;omega));have g:bm []++(cB [b9,cR]).data.toList=bm [[b9,cR]]:=mm _ _;rw[g]at d;have b':=Q (bi.oo.2.trans (bC.mono (iv bi.1.lt)));clear aW bC g;go_wp2_with fail;refine mU d λbg ⟨ca,aY,_⟩=>?_;have aD:=Q (U ca (U (b'.oo.trans aY) (show(bm [[b9,cR]]).length<=1200 from a1 (Bt [b9,cR] 13 av) av)));clear ca aY d b' w bi;have z:=(ak bg aD.2.1).1 1 _ J;go_wp2_with fail;refine mU (ba dB b bg av R) λcK a=>?_;have g:bm [[b9,cR]]++(cB [dB,a5 b]).data.toList=bm ([[b9,cR]]++[[dB,a5 b]]):=mm _ _;have ah:cv [dB,a5 b]<=1100:=by
  have bt:=mc b R.1 R.2;have:cv [dB,a5 b]=dB.size+1+((a5 b).size+1):=by simp[cv]
  have:dB.size<=20:=av
  omega
 have a0:=a1 (jw [dB,a5 b]) (Nat.succ_le_succ ah);have Ch:=aD.2.2;have d:=Q (lg v (bm [[b9,cR]]) (cB [dB,a5 b]) cK (aD.1.bw a) O);rw[g]at d;have o:(bm ([[b9,cR]]++[[dB,a5 b]])).length<=2400:=by rw[<-g,bL,<-Lib.size_eq];omega
 have n:=Q (U (aD.oo.2.1.trans (a.mono (iv aD.oo.1.lt))) o);clear z a g ah a0 Ch o;go_wp2_with fail;refine mU d λcc ⟨p,a,_⟩=>?_;have aE:=Q (U p (U (n.oo.1.trans a) n.oo.2));clear p a d n aD;have z:=(ak cc aE.2.1).1 2 _ J;go_wp2_with fail;refine mU (ba gJ f cc av aR) λcL a=>?_;have g:bm ([[b9,cR]]++[[dB,a5 b]])++(cB [gJ,a5 f]).data.toList=bm ([[b9,cR]]++[[dB,a5 b]]++[[gJ,a5 f]]):=mm _ _;have ah:cv [gJ,a5 f]<=1100:=by
  have bt:=mc f aR.1 aR.2;have:cv [gJ,a5 f]=gJ.size+1+((a5 f).size+1):=by simp[cv]
  have:gJ.size<=20:=av
  omega
 have a0:=a1 (jw [gJ,a5 f]) (Nat.succ_le_succ ah);have Ch:=aE.2.2;have d:=Q (lg v (bm ([[b9,cR]]++[[dB,a5 b]])) (cB [gJ,a5 f]) cL (aE.1.bw a) O);rw[g]at d;have o:(bm ([[b9,cR]]++[[dB,a5 b]]++[[gJ,a5 f]])).length<=3600:=by rw[<-g,bL,<-Lib.size_eq];omega
 have n:=Q (U (aE.oo.2.1.trans (a.mono (iv aE.oo.1.lt))) o);clear z a g ah a0 Ch o;go_wp2_with fail;refine mU d λcd ⟨p,a,_⟩=>?_;have aF:=Q (U p (U (n.oo.1.trans a) n.oo.2));clear p a d n aE;have z:=(ak cd aF.2.1).1 3 _ J;go_wp2_with fail;refine mU (ba iZ l cd av aS) λcM a=>?_;have g:bm ([[b9,cR]]++[[dB,a5 b]]++[[gJ,a5 f]])++(cB [iZ,a5 l]).data.toList=bm ([[b9,cR]]++[[dB,a5 b]]++[[gJ,a5 f]]++[[iZ,a5 l]]):=mm _ _;have ah:cv [iZ,a5 l]<=1100:=by
  have bt:=mc l aS.1 aS.2;have:cv [iZ,a5 l]=iZ.size+1+((a5 l).size+1):=by simp[cv]
  have:iZ.size<=20:=av
  omega
 have a0:=a1 (jw [iZ,a5 l]) (Nat.succ_le_succ ah);have Ch:=aF.2.2;have d:=Q (lg v (bm ([[b9,cR]]++[[dB,a5 b]]++[[gJ,a5 f]])) (cB [iZ,a5 l]) cM (aF.1.bw a) O);rw[g]at d;have o:(bm ([[b9,cR]]++[[dB,a5 b]]++[[gJ,a5 f]]++[[iZ,a5 l]])).length<=4800:=by rw[<-g,bL,<-Lib.size_eq];omega
 have n:=Q (U (aF.oo.2.1.trans (a.mono (iv aF.oo.1.lt))) o);clear z a g ah a0 Ch o;go_wp2_with fail;refine mU d λce ⟨p,a,_⟩=>?_;have aG:=Q (U p (U (n.oo.1.trans a) n.oo.2));clear p a d n aF;have z:=(ak ce aG.2.1).1 4 _ J;obtain⟨y,bD⟩:=K ([[b9,cR]]++[[dB,a5 b]]++[[gJ,a5 f]]++[[iZ,a5 l]]);rw[<-bD]at aG;have cf:hK ⟨4,b,f,l,e,u⟩=y++eO e r++en u:=by rw[bD,<-bX];rfl
 have bE:=Q (U (show hz v (bm (y++eO e 0)) ce by rw[show eO e 0=[]from J,e'];exact aG.1) (U aG.2.1 (show(bm (y++eO e 0)).length<=4800+2200*0 by rw[show eO e 0=[]from J,e'];exact aG.2.2)));have cY:r<=1000:=Y bX.oo
 change H _ at cf;clear bD aG;go_wp2_with fail;clear z;go_loopw [46] (λbF wr=>∃c:N,bF=(c:I)/\c<=r/\hz v (bm (y++eO e c)) wr/\B v h wr/\(bm (y++eO e c)).length<=4800+2200*c) (λbF _=>r-(aw bF).toNat);exact⟨0,J,a3 _,bE.1,bE.2.1,bE.2.2⟩;obtain⟨c,rfl,br,p,aI,o⟩:=hrel;obtain⟨am,rfl⟩:=K wr;have G:=Q (U p (U aI o));by_cases Ch:c<r
 ·have cZ:=aJ c;have c0:(c:I)<r:=by omega
  obtain⟨c1,c2,rfl,cg⟩:=cG am aI c Ch;have X:=cC c Ch;have a2:=VN e c;obtain⟨ag,ci⟩:=K (ae e c);rw[<-ci]at cg X a2;have bG:=Q (λ(i:W)=>ot (c:I) i O O);have bH:=Q (λ(i:W)=>ot ag i X.1 X.2);have cj:=mc (c:I) O O;have ck:=mc ag X.1 X.2;obtain⟨M,cl⟩:=K (a5 (c:I));obtain⟨P,cm⟩:=K (a5 ag);rw[<-cl]at cj bG a2;rw[<-cm]at ck bH a2;change H _ at a2;clear ci cl cm p aI o;go_wp2_with fail;refine mU (bG _) λcn co=>?_;change H _ at co;clear cg;go_wp2_with fail;refine mU (bH _) λbk a4=>?_;have cN:=Q (q co a4);have cp:cv [e1,M,P]<=2100:=by
   have:cv [e1,M,P]=4+(M.size+1+(P.size+1)):=o0
   omega
  have w:=Q (pL _ [e1,M,P] _ (VR bk e1 M P) O);change H _ at cp;clear a4 cj ck bG bH;go_wp2_with fail;refine mU w λbl a6=>?_;have a:=q cN (q (aN bk (az #[a7 e1,a7 M,a7 P] 9)) a6);have g:bm (y++eO e c)++(cB [e1,M,P]).data.toList=bm (y++eO e (c+1)):=by rw[mm,a2,ev]
  have bI:=a1 (jw [e1,M,P]) (Nat.succ_le_succ cp);have cO:=G.2.2;have d:=Q (lg v (bm (y++eO e c)) (cB [e1,M,P]) bl (G.1.bw a) O);rw[g]at d;have o:(bm (y++eO e (c+1))).length<=4800+2200*(c+1):=by rw[<-g,bL,<-Lib.size_eq];omega
  have n:=Q (U (G.oo.2.1.trans (a.mono (iv G.oo.1.lt))) o);clear a6 a g bI cO o w;go_wp2_with fail;refine mU d λc3 ⟨p,a,_⟩=>?_;have bJ:=Q (U p (U (n.oo.1.trans a) n.oo.2));clear p a d n;go_wp2;go_roundw;case rel=>exact⟨c+1,aK,O,bJ.1,bJ.2.1,bJ.2.2⟩
  exact bY
 have cq:c=r:=O
 rw[cq]at G;have z:=(ak am aI).1 5 _ J;have bK:=Q (cy.oo am (ak am aI).2);obtain⟨a8,bM⟩:=K (hJ (en u));have bK:H (ap ab 23 #[ao #[S aL aO aP]] am λaC bf=>aC=aq (aZ #[a7 a8,(0:I)])/\B am am bf):=Q (by rw[bM];exact bK);change H _ at bM;clear p aI o cq;go_wp2_with fail;refine mU bK λcn bN=>?_;have ad:a8.data.toList=bm (en u):=by rw[bM];rfl
 have bP:bm (y++eO e r)++a8.data.toList=bm (hK ⟨4,b,f,l,e,u⟩):=by rw[ad,<-nj,cf]
 have ay:=cz.oo;have bI:=G.2.2;have cP:a8.size=(bm (en u)).length:=by rw[Lib.size_eq,ad]
 have d:=Q (lg v (bm (y++eO e r)) a8 cn (G.1.bw bN) O);rw[bP]at d;have n:=Q (G.oo.2.1.trans (bN.mono (iv G.1.lt)));have cr:bm (hK ⟨4,b,f,l,e,u⟩)≠[]:=by rw[<-bP,ad];intro bs;exact Bk u (List.append_eq_nil_iff.1 bs).2
 change H _ at cr;clear bN ad bP ay bI cP z;go_wp2_with fail;refine mU d λbk ⟨cs,a4,_⟩=>?_;have cQ:=Q (Ag v _ bk cs cr);have cS:=Q (n.oo.trans a4);clear cs a4 d;go_wp2_with fail;refine mU cQ λbl a6=>?_;have m:=Q (be.oo _ bl _ J J (ak bl (cS.trans a6)).2);clear a6;exact mW
def jG(a:ByteArray)(b c d:I)(e:N):ByteArray:=hJ (hK (ks a b e c d))
def Bu(c:ByteArray)(h:V)(f a b:I)(d:N)(e:W)(l:nF e h f d a b)(m:d<=1000)(hp:0<=a/\a<=1000)(x:0<=b/\b<=1000)(n:hU e)(i:c.size<=60000):ap ab 7 #[a7 c,h] e (ch e (a7 (jG c f a b d))):=by have o:=Q (VE c h f a b d e l m hp x n i);have p:=Br c f a b d i m;obtain⟨⟨O,P,R,rfl⟩,_⟩:=l;have⟨r,j⟩:=K (ks c f d a b);have y:=Q (show∀g k,ch e (a7 (hJ (hK r))) g k->ch e (a7 (jG c f a b d)) g k from λg k s=>by rw[j]at s;exact s);rw[<-j]at o p;clear j n i;go_in;go_wp2_with fail;refine o.mono ?_;rintro g z ⟨U,X,Y,ad,ae,ag,rfl,t,u,v⟩;have D:=Q (VS _ _ r z p t u);change H _ at v;clear t u;go_wp2_with fail;refine mU D λG w=>?_;have M:=Q (y.oo _ G ⟨J,q v w⟩);clear w;go_wp2;go_ret;exact M
def es:E UInt8->Zaa->bD->E UInt8->Option Zaa
 |[],c,d,a=>if a≠[]\/d≠[]then Z else A c
 |b::e,c,d,a=>if b≠32/\b≠10 then(if b.toNat<33\/126<b.toNat then Z else es e c d (a++[b]))else if a=[]then Z else if b=10 then es e (c++[d++[⟨a.toArray⟩]]) [] []else es e c (d++[⟨a.toArray⟩]) []
def mC(a:ByteArray):Option Zaa:=es a.data.toList [] [] []
def Bv(a:E UInt8)(e:∀b∈a,33<=b.toNat/\b.toNat<=126)(f:E UInt8)(g:Zaa)(h:bD):∀c,es (a++f) g h c=es f g h (c++a):=by
 induction a with
  |nil=>intro c;simp
  |cons d a j=>
   intro c;have i:=e d fV;have k:d≠32/\d≠10:=by constructor<;>(intro l;rw[l]at i;exact absurd i.1 av)
   rw[List.cons_append,es,am k,ak O,j (λb m=>e b (fs _ m))];rw[ev];rfl
def VT{b:ByteArray}(a:d3 b=T):b.data.toList≠[]/\∀c∈b.data.toList,33<=c.toNat/\c.toNat<=126:=by unfold d3 at a;simp only[cr,Bool.not_eq_true',d4,ez]at a;exact⟨λd=>(by rw[d]at a;cases a.1),a.2⟩
def VU(a:bD)(k:a≠[])(f:∀b∈a,d3 b=T)(g:E UInt8)(h:Zaa):∀d,es (Lib.join (a.map (·.data.toList)) [32]++(10::g)) h d []=es g (h++[d++a]) [] []:=by
 induction a with
  |nil=>exact absurd J k
  |cons b a l=>
   intro d;have⟨i,c⟩:=VT (f b fV);cases a with
    |nil=>
     have e:Lib.join ([b].map (·.data.toList)) [32]=b.data.toList:=by simp[Lib.join,List.intercalate]
     rw[e,Bv _ c,List.nil_append,es,ak D,ak i,am J]
    |cons j a=>
     have e:Lib.join ((b::j::a).map (·.data.toList)) [32]=b.data.toList++(32::Lib.join ((j::a).map (·.data.toList)) [32]):=by unfold Lib.join;rw[dE,dE,List.intercalate_cons_cons];simp
     rw[e,ev,Bv _ c,List.nil_append,List.cons_append,es,ak D,ak i,ak av,l D (λb c=>f b (fs _ c))];simp
def VV(a:Zaa)(e:rH a):∀c,es (bm a) c [] []=A (c++a):=by
 induction a with
  |nil=>intro c;simp[bm,es]
  |cons b a f=>
   intro c;have d:=e b fV;have g:bm (b::a)=Lib.join (b.map (·.data.toList)) [32]++(10::bm a):=by unfold bm;rw[List.flatMap_cons];unfold cB pK;simp[gO]
   rw[g,VU b d.1 d.2,f (λb d=>e b (fs _ d))];simp
def VW(a:Zaa)(b:rH a):mC (hJ a)=A a:=by have:=VV a b [];rwa [List.nil_append]at this
def VX(a:Zaa):(hJ a).size=(bm a).length:=by rw[Lib.size_eq];rfl
def VY{e:gI}(i:vf e):(hJ (hK e)).size<=200000000000:=by
 rw[VX];have l:∀(j:Zaa) (p:N),(∀f∈j,cv f<=p)->(bm j).length<=L j*(p+1):=by
  intro j p;induction j with
   |nil=>intro _;simp[bm]
   |cons f j s=>
    intro a;have z:=Bt f p (a f fV);have m:=s λg k=>a g (fs _ k);have t:bm (f::j)=bm [f]++bm j:=by rw[<-nj];rfl
    rw[t,bL,dx,Nat.succ_mul];omega
 have q:∀g,bB g=T->(a5 g).size<=1000:=λg k=>mc g (ek.1 k).1 (ek.1 k).2;have m:∀(n:ByteArray) (g:I),n.size<=100->bB g=T->cv [n,a5 g]<=2100:=λn g ha k=>by
  have:=q g k;have:cv [n,a5 g]=n.size+1+((a5 g).size+1):=by simp[cv]
  omega
 have u:∀f∈oQ e,cv f<=2100:=by intro f a;unfold oQ at a;simp only[cK,List.not_mem_nil,or_false]at a;rcases a with rfl|rfl|rfl|rfl;decide;exact m _ _ av i.b;exact m _ _ av i.c;exact m _ _ av i.h
 unfold hK;split;exact a1 (l _ 2100 (by intro f a;simp at a;subst a;decide)) av;split;exact a1 (l _ 2100 (by intro f a;simp at a;subst a;decide)) av;split;refine a1 (l _ 2100 ?_) D;intro f a;simp only[cK,List.not_mem_nil,or_false]at a;rcases a with rfl|rfl;decide;exact m _ _ av i.b;rw[nj,nj,bL,bL];have v:=l (oQ e) 2100 u;have w:=l (eO e.days e.days.length) 2100 (λf a=>by
  unfold eO at a;obtain⟨o,r,rfl⟩:=List.mem_map.1 a;have r:=List.mem_range.1 r;have:=q (o:I) (ek.2 (Y i.dl));have:=q _ (i.d _ (hO r));have:cv [e1,a5 (o:I),a5 (ae e.days o)]=4+((a5 (o:I)).size+1+((a5 (ae e.days o)).size+1)):=o0
  omega)
 have G:=uG e.my i.pl i.sm i.told;have x:(oQ e).length=4:=J;have y:(eO e.days e.days.length).length=e.days.length:=by simp[eO]
 rw[x]at v;rw[y]at w;have H:e.days.length*2101<=1000*2101:=Nat.mul_le_mul_right _ i.dl;omega
def cc.qe{d:Type}[Inhabited d]{j:bj}{k:W->V->d->Prop}{e I6 f:aD}{l:aP}{m:E d}(n:cc j k e a w u l m)(h:M f w x)(r:∀b,b<(w:N)->f b->e b)(s:∀b,af u=A b->¬f b)(t:∀b,b<(w:N)->I6 b->e b):cc j k I6 a x u l m:=⟨c3 n.1 h s,λv y=>(n.2 v y).step h.size (λb c z=>h.block b c λi=>z (.inl (r b c i))) (λb c i=>i.imp (t b c) id)⟩
structure ku(a:W)(e c:V)(f:Zaa)(g:bD)(d:W):Prop where
 row:∃h,cc 37 bO (λb=>af c=A b) a d e h f
 ln:eN d a c g
 ne:∀b,af c=A b->af e≠A b
 bF:B a a d
def ku.bw{b:W}{c:Zaa}{d:bD}(g:ku w u v c d x)(a:B x x b):ku w u v c d b:=by obtain⟨⟨k,l⟩,m,n,f⟩:=g;exact⟨⟨k,l.bw a⟩,m.bw a,n,f.trans (a.mono f.size)⟩
def eN.lt{c:bD}(d:eN w a u c):∀b,af u=A b->a<=b/\b<(w:N):=bI d
def eN.form{d:bD}(f:eN w a u d):∃b e h,u=S b e h/\e=L d/\(b=Z\/∃c,b=A ⟨c,0,Z⟩):=by rcases bW f with⟨rfl,i⟩|⟨c,l,rfl,_⟩;exact⟨_,_,_,J,i.symm,.inl J⟩;exact⟨_,_,_,J,J,.inr ⟨c,J⟩⟩
def ku.word{h:W}{m:Zaa}{i:bD}{n:ByteArray}(y:ku w u v m i x)(z:x.grownBy h (af v))(q:af v=A a\/a=x)(D:eN h w (S (A a) b c) (i++[n])):ku w u (S (A a) b c) m (i++[n]) h:=by
 obtain⟨⟨K,r⟩,O,s,t⟩:=y;have l:M (λe=>af v=A e) x h:=M.grown z λe d=>d;have P:af u≠A a:=by rcases q with d|d;exact s a d;intro g;have:=bI r.1 a g;omega
 refine⟨⟨K,r.qe l I2 (λe d g=>s e g d) (λe Q d=>?_)⟩,D,λR d=>?_,t.trans (l.bg t.size λe l d=>Y ((O.lt e d).1))⟩;simp only[af,a2]at d;rcases q with g|g;rw[g,d];omega;simp only[af,a2]at d;rw[<-d];exact P
def ku.line{d:W}{c:Zaa}{e:bD}{h:aP}(i:ku w u v c e x)(l:cc 37 bO (λ_=>False) w d (S (A a) (L c+1) b) (h++[v]) (c++[e]))(o:B w x d):ku w (S (A a) (L c+1) b) (S Z 0 0) (c++[e]) [] d:=⟨⟨_,l.qe (M.refl (λ_=>False) _) (λ_ _ f=>f.elim) I2 (λq _ f=>f')⟩,World.ownsRow_nil _ _ _ _,λr f=>f',i.bF.trans o⟩
def vg(a:W)(g:Option Zaa)(c:bp)(b:W):Prop:=match g with
 |none=>c=aq (aZ #[S Z 0 0,(2:I)])/\B a a b
 |some h=>∃d e f,c=aq (aZ #[S d e f,(0:I)])/\m5 b (S d e f) h/\B a a b
def VZ{n:Array bd}{o:E bd}{f:bd}{g:a'}{p:bJ}(q:f.guard=Z)(j k:Operand) (r:f.op= .call {callee:=.builtin .append,args:=#[j,k],argTypes:=#[37,37]}) (a:W) (h:N) (d:V) (b:bD) (l:ByteArray) (m:N) (s:g.eval j=d) (t:g.eval k=S (A m) 1 1) (u:ax a m [a7 l]) (v:eN a h d b) (w:L b+1<=1000000000000) (x:h<=(a:N)) (y:∀c i e,eN e h (S (A ⟨c,0,Z⟩) (L b+1) i) (b++[l])->a.grownBy e (af d)->(af d=A c\/c=(a:N))->wpList ab n p o (g.put f.dst (S (A ⟨c,0,Z⟩) (L b+1) i)) e):wpList ab n p (f::o) g a:=fr q j k 37 9 (a7 ByteArray.empty) 1 16 underlying37 ne J av av r a h d (L b) (b.map a7) [a7 l] m s t u J eP v w x λc i e z D _ G _ _=>y c i e (by simpa[eN]using z) D G
def Bw(c:ByteArray)(p:World)(bT:c.size<=500000000000):Calls prog 9 #[.string c] p (vg p (mC c)):=by
 obtain⟨R,aO⟩:=K (mC c);have bx:=Q (show es (c.data.toList.drop 0) [] [] ((c.data.toList.drop 0).take 0)=R by rw[aO];rfl);rw[<-aO];clear aO;have aP:=Q (λ(a3:World) (bz:R=none) (bA:Below (p:Nat) p a3)=>show vg p R (.returned (.tuple #[.slice none 0 0,.int .i64 2])) a3 from by rw[bz];exact⟨rfl,bA⟩);go_in;go_wp2;go_loopw [4,5,6,7] (λa4 a5 bB aQ wr=>∃(a b:Nat) (n:List (List ByteArray)) (h:List ByteArray) (a6 a8:Value),a6=a4/\a8=a5/\bB= .int .i64 b/\aQ= .int .i64 a/\a<=c.size/\b<=a/\es (c.data.toList.drop a) n h ((c.data.toList.drop b).take (a-b))=R/\ku p a6 a8 n h wr/\n.length<=a/\h.length<=a) (λ_ _ _ aQ _=>c.size-(aw aQ).toNat);exact⟨0,0,[],[],_,_,rfl,rfl,rfl,rfl,Nat.zero_le _,Nat.le_refl _,bx.oo,⟨⟨[],cc.nil _ _ _ _ _⟩,World.ownsRow_nil _ _ _ _,λa9 f=>f',Below.refl _ _⟩,Nat.zero_le _,Nat.zero_le _⟩;obtain⟨a,b,n,h,a4,a5,rfl,rfl,rfl,rfl,bU,bV,d,g,bW,bX⟩:=hrel;obtain⟨o,rfl⟩:=K wr;obtain⟨bC,v,bD,rfl,q,s⟩:=g.ln.form;obtain⟨aR,aS,aT,rfl,t,_⟩:=g.row.choose_spec.form;have bE:=Q g;by_cases Ch:a<c.size
 ·have bY:=aJ a;have bZ:(a:Int)<(c.size:Int):=by omega
  have U:a<c.data.toList.length:=by rw[<-Lib.size_eq];exact Ch
  obtain⟨i,u⟩:=K (c[a]'Ch);have k:c.data.toList.drop a=i::c.data.toList.drop (a+1):=by rw[List.drop_eq_getElem_cons U,u];rfl
  have X:(c.data.toList.drop b).take (a+1-b)=(c.data.toList.drop b).take (a-b)++[i]:=by rw[show a+1-b=(a-b)+1 by omega,List.take_succ_eq_append_getElem (by rw[List.length_drop];omega),List.getElem_drop,u];congr 2;simp only[show b+(a-b)=a by omega];rfl
  have l:((c.data.toList.drop b).take (a-b)).length=a-b:=by rw[List.length_take,List.length_drop];omega
  have ad:(⟨((c.data.toList.drop b).take (a-b)).toArray⟩:ByteArray)=c.extract b a:=by apply ByteArray.ext;apply Array.toList_inj.1;rw[Lib.extract_data]
  rw[k,es,ad]at d;have m:(i=32↔i.toNat=32)/\(i=10↔i.toNat=10):=⟨⟨λf=>by rw[f];rfl,λf=>UInt8.toNat_inj.1 f⟩,⟨λf=>by rw[f];rfl,λf=>UInt8.toNat_inj.1 f⟩⟩
  obtain⟨e,bG⟩:∃e,(c[a]'Ch).toNat=e:=⟨_,rfl⟩
  have w:i.toNat=e:=by rw[u];exact bG
  have x:((c.data.toList.drop b).take (a-b)=[])↔a=b:=by rw[<-List.length_eq_zero_iff,l];omega
  by_cases ae:e≠32/\e≠10
  ·rw[if_pos (show i≠32/\i≠10 from⟨λf=>Y (m.1.1 f),λf=>Y (m.2.1 f)⟩)]at d;have y:((e:Int)!=32)=true:=by simp;omega
   have aA:((e:Int)!=10)=true:=aF
   by_cases j:e<33\/126<e
   ·rw[if_pos (bh (i.toNat<33\/126<i.toNat))]at d;have G:=Q (aP.oo o d.symm g.bF);by_cases ak:e<33
    ·have ba:decide ((e:Int)<33)=true:=by simp;omega
     clear k X l ad d m w x ae j ak g u U q s t;exact lE
    have ba:decide ((e:Int)<33)=false:=aF
    have bH:decide ((126:Int)<e)=true:=aF
    clear k X l ad d m w x ae j ak g u U q s t;exact lE
   rw[if_neg (bh (¬(i.toNat<33\/126<i.toNat))),<-X]at d;have ba:decide ((e:Int)<33)=false:=aF
   have bH:decide ((126:Int)<e)=false:=aF
   have G:=Q d;clear k X l ad d m w x ae j g u U q s t;go_wp2;go_roundw;case rel=>exact⟨a+1,b,n,h,_,_,rfl,rfl,rfl,aK,O,O,G.oo,bE.oo,O,O⟩
   exact hQ
  rw[if_neg (show¬(i≠32/\i≠10)from λf=>ae ⟨λbI=>f.1 (m.1.2 O),λbI=>f.2 (m.2.2 O)⟩)]at d;have bb:e=32\/e=10:=O
  have aC:∀aD:Prop,(((e:Int)!=32)=false->aD)->(((e:Int)!=32)=true->((e:Int)!=10)=false->aD)->aD:=λaD bJ bK=>by rcases bb with rfl|rfl;exact bJ rfl;exact bK rfl rfl
  by_cases aE:a=b
  ·rw[if_pos (x.2 aE)]at d;have G:=Q (aP.oo o d.symm g.bF);have bL:((a:Int)==(b:Int))=true:=by simp;omega
   clear k X l ad d m w x ae bb g u U q s t aE;refine aC _ (λy=>?_) (λy aA=>?_);all_goals clear aC;exact lE
  rw[if_neg (λf=>aE (x.1 f))]at d;have bL:((a:Int)==(b:Int))=false:=aF
  have b0:b<=c.size:=O
  obtain⟨z,aU⟩:=K (c.extract b a);rw[<-aU]at d;obtain⟨al,aV,bc,be⟩:∃al,o.alloc (.cells #[.string z] 9)=al/\Below (o:Nat) o al/\ax al (o:Nat) [.string z]:=⟨_,rfl,aN _ _,ax.new o _ _⟩
  have aG:=g.bw bc;have bf:=aG.ln;have bg:=aG.bF.size;have bi:h.length+1<=1000000000000:=O
  have b2:=aU.symm;have bM:=Q aG;have bk:=Q (show(if e=10 then es (c.data.toList.drop (a+1)) (n++[h++[z]]) [] []else es (c.data.toList.drop (a+1)) n (h++[z]) [])=R by rw[<-d];by_cases r:i=10;rw[if_pos r,if_pos (m.2.1 r▸w.symm▸rfl)];rw[if_neg r,if_neg (λf=>r (m.2.2 (w.trans f)))]);replace aV:=Q aV;clear k X l ad d m w x ae g aG u U q s t aE aU;refine aC _ (λy=>?_) (λy aA=>?_);all_goals
   clear aC;go_upto_region 13 with fail;go_wp2_with (at_builtin;try rw[aV.oo];refine VZ rfl _ _ rfl al (p:Nat) (.slice bC v bD) h z (o:Nat) rfl rfl be bf bi bg ?_);intro am aL ag bl bm bn;have aW:=bM.oo.word bm bn bl;obtain⟨ah,aX,bo,bq⟩:∃ah,ag.alloc (.cells #[.slice (some ⟨am,0,none⟩) (h.length+1) aL] 37)=ah/\Below (ag:Nat) ag ah/\ax ah (ag:Nat) [.slice (some ⟨am,0,none⟩) (h.length+1) aL]:=⟨_,rfl,aN _ _,ax.new ag _ _⟩
   have ai:=aW.bw bo;obtain⟨br,j⟩:=ai.row;have j:=j.qe (I6:=λ_=>False) (M.refl (λ_=>False) _) (λ_ _ f=>f.elim) I2 (λ_ _ f=>f.elim);have aY:aI bO (λa9=>False\/(Value.slice aR aS aT).ownBlock=some a9) ah (.slice (some ⟨am,0,none⟩) (h.length+1) aL) (h++[z]):=xr ai.ln.strs λf=>by rcases f with f|f;exact f;exact ai.ne am rfl f
   have a0:=ai.bF.size;have a1:n.length+1<=1000000000000:=O
   have a2:=bq 0 _ rfl;have bN:=Q ai;replace aX:=Q aX;change H _ at aW;clear be bf bi bg bl bm bn ai bq bo bc;by_cases r:e=10
   ·have bP:((e:Int)==10)=true:=by simp;omega
    have P:=bk.oo;rw[if_pos r]at P;change H _ at P;clear r;go_wp2_with (at_builtin;try rw[aX.oo];refine n1 rfl _ _ 34 37 (.slice none 0 0) 24 underlying34 xp rfl av rfl ah (p:Nat) (.slice aR aS aT) br n (.slice (some ⟨am,0,none⟩) (h.length+1) aL) (h++[z]) (ag:Nat) rfl rfl a2 rfl j aY a1 a0 ?_);intro b4 b5 b6 bs bR bt _ _ _;have bu:=bN.oo.line bs bt;change H _ at bu;clear bs bR bt j aY a0 a1 a2;go_wp2;go_roundw;case rel=>exact⟨a+1,a+1,_,[],_,_,rfl,rfl,aK,aK,O,Nat.le_refl _,by rw[Nat.sub_self,List.take_zero];exact P.oo,bu.oo,aF,D⟩
    exact hQ
   have bP:((e:Int)==10)=false:=aF
   have P:=bk.oo;rw[if_neg r]at P;change H _ at P;clear r j aY a0 a1 a2;go_wp2;go_roundw;case rel=>exact⟨a+1,a+1,n,_,_,_,rfl,rfl,aK,aK,O,Nat.le_refl _,by rw[Nat.sub_self,List.take_zero];exact P.oo,aW.oo,O,aF⟩
   exact hQ
 have b7:a=c.size:=O
 have k:c.data.toList.drop a=[]:=List.drop_of_length_le (by rw[<-Lib.size_eq];omega);have l:((c.data.toList.drop b).take (a-b)).length=a-b:=by rw[List.length_take,List.length_drop,<-Lib.size_eq];omega
 rw[k,es]at d;have an:h≠[]↔0<v:=by rw[<-List.length_pos_iff,<-q]
 have ar:(c.data.toList.drop b).take (a-b)≠[]↔b<a:=by rw[<-List.length_pos_iff,l];omega
 by_cases ay:b<a\/0<v
 ·rw[if_pos (ay.imp ar.2 an.2)]at d;have G:=Q (aP.oo o d.symm g.bF);by_cases ak:b<a
  ·have y:decide ((b:Int)<(c.size:Int))=true:=by simp;omega
   have bv:decide (b<c.size)=true:=aF
   clear k l an ar d g q s t ay ak;exact lE
  have y:decide ((b:Int)<(c.size:Int))=false:=aF
  have bv:decide (b<c.size)=false:=aF
  have aA:decide ((0:Int)<v)=true:=aF
  have bS:decide (0<v)=true:=aF
  clear k l an ar d g q s t ay ak;exact lE
 rw[if_neg (λf=>ay (f.imp ar.1 an.1))]at d;have y:decide ((b:Int)<(c.size:Int))=false:=aF
 have bv:decide (b<c.size)=false:=aF
 have aA:decide ((0:Int)<v)=false:=aF
 have bS:decide (0<v)=false:=aF
 obtain⟨br,j⟩:=g.row;have G:H (vg p R (.returned (.tuple #[.slice aR aS aT,.int .i64 0])) o):=Q (by rw[<-d];exact⟨_,_,_,rfl,j.sl,g.bF⟩);clear k l an ar d g q s t ay j;exact lE
def V0(d:N)(h:E UInt8)(i:Zaa)(g:bD)(e:E UInt8)(k:Zaa)(a:es h i g e=A k)(p:L h+L e+L g+L i<=d)(n:∀b∈g,b.size<=d)(j:∀c∈i,1<=L c/\L c<=d/\∀b∈c,b.size<=d):L k<=d/\∀c∈k,1<=L c/\L c<=d/\∀b∈c,b.size<=d:=by
 induction h generalizing i g e with
  |nil=>rw[es]at a;split at a;cases a;cases a;exact⟨O,j⟩
  |cons t h l=>
   rw[es]at a;simp only[dx]at p;have q:(⟨e.toArray⟩:ByteArray).size=L e:=J;have o:∀b∈g++[(⟨e.toArray⟩:ByteArray)],b.size<=d:=λb m=>by rcases eh.1 m with f|f;exact n b f;rw[List.mem_singleton.1 f,q];omega
   split at a;split at a;cases a;exact l _ _ _ a (by simp only[bL,eu];omega) n j;split at a;cases a;rename_i r;have hp:0<L e:=List.length_pos_iff.2 r;split at a;refine l _ _ _ a (by simp only[bL,eu,et];omega) (λb m=>by cases m) (λc s=>?_);rcases eh.1 s with f|f;exact j c f;rw[List.mem_singleton.1 f];exact⟨D,by simp only[bL,eu];omega,o⟩;exact l _ _ _ a (by simp only[bL,eu,et];omega) o j
def V1{a:ByteArray}{c:Zaa}(e:mC a=A c):L c<=a.size/\∀b∈c,1<=L b/\L b<=a.size/\∀d∈b,d.size<=a.size:=V0 a.size _ _ _ _ _ e (by rw[Lib.size_eq];simp) (λd f=>by cases f) (λb g=>by cases g)
def vh(a:W)(b:bp)(c:W):Prop:=∃(d e f g h:I)(i j:bz)(k l m n:N),b=aq (aZ #[ao #[d,e,f,g,S i k l,S j m n],h])/\B a a c
def oR(b:W)(a:N)(u0 u1 u2 u3 u4 u5:V):W:=(((((aj b a u0).setCell ⟨a,1,Z⟩ u1).setCell ⟨a,2,Z⟩ u2).setCell ⟨a,3,Z⟩ u3).setCell ⟨a,4,Z⟩ u4).setCell ⟨a,5,Z⟩ u5
def mD(a b c d:I)(e f:V):aP:=[a,b,c,d,e,f]
structure kv(a:W)(b:N):Prop where
 y0:C a b=A (aa ac 0)
 y1:C a ⟨b,1,Z⟩=A (aa ac 0)
 y2:C a ⟨b,2,Z⟩=A (aa ac 0)
 y3:C a ⟨b,3,Z⟩=A (aa ac 0)
 y4:C a ⟨b,4,Z⟩=A (S Z 0 0)
 y5:C a ⟨b,5,Z⟩=A (S Z 0 0)
 z:∀c,aH a ⟨b,c,Z⟩=F
def kv.bw(b:kv w a)(c:B w w x):kv x a:=⟨s c b.y0,s c b.y1,s c b.y2,s c b.y3,s c b.y4,s c b.y5,λg=>aY c (aR w _ b.y0) (b.z g)⟩
def kv.fin(c:kv x a)(t:a=w)(r:B w w x)(e f g h q:I)(i j:bz)(k l m n:N):vh w (aq (aZ #[ao #[e,f,g,h,S i k l,S j m n],q])) (oR x a e f g h (S i k l) (S j m n))/\ax (oR x a e f g h (S i k l) (S j m n)) a (mD e f g h (S i k l) (S j m n)):=by
 refine⟨⟨e,f,g,h,q,i,j,k,l,m,n,J,r.trans (wO x a _ _ _ _ _ _ O)⟩,wK (Kn:=aa ac 0) (Ko:=aa ac 0) (Kp:=aa ac 0) (Kq:=aa ac 0) (Kr:=S Z 0 0) (Ks:=S Z 0 0) (λs H b=>?_) _ _ _ _ _ _⟩;match s,b with
  |0,b=>cases b;exact c.y0
  |1,b=>cases b;exact c.y1
  |2,b=>cases b;exact c.y2
  |3,b=>cases b;exact c.y3
  |4,b=>cases b;exact c.y4
  |5,b=>cases b;exact c.y5
def Bx(a:W):∃b,a.alloc (az #[(0:I),(0:I),(0:I),(0:I),S Z 0 0,S Z 0 0] 27)=b/\B a a b/\b.heap.size=(a:N)+1/\kv b (a:N):=⟨_,J,aN _ _,D,⟨aE,aE,aE,aE,aE,aE,λc=>aE⟩⟩
structure fp(c:W)(a:N)(d e f g:I)(h i:V)(b:W):Prop where
 bF:B a c b
 ly:ax b a (mD d e f g h i)
 fz:∀j,aH b ⟨a,j,Z⟩=F
def fp.lt(c:fp w a i j k l u v x):a<x:=aR x _ (c.ly 0 _ J)
def fp.aO{h:W}{I':aD}(b:fp w a i j k l u v x)(d:M I' x h)(f:∀e,e<=a->¬I' e):fp w a i j k l u v h:=⟨b.bF.trans (d.bg (Y b.lt) λe d=>f e O),λg y z=>d.cell (b.ly g y z) (f a (aL _)),λg=>d.free (b.fz g) b.lt (f a (aL _))⟩
def fp.bw{d:W}(b:fp w a i j k l u v x)(c:B x x d):fp w a i j k l u v d:=⟨b.bF.trans (c.mono (Y b.lt)),b.ly.bw c,λr=>aY c b.lt (b.fz r)⟩
def fp.WA(b:fp w a i j k l u v x)(c:V):fp w a i j k l c v (aj x ⟨a,4,Z⟩ c):=⟨b.bF.trans ((ca x a 4 c).bg (Y b.lt) λr s t=>O),b.ly.set 4 c (by simp[mD]),λp=>by rw[bs];exact b.fz p⟩
def fp.WB(b:fp w a i j k l u v x)(c:V):fp w a i j k l u c (aj x ⟨a,5,Z⟩ c):=⟨b.bF.trans ((ca x a 5 c).bg (Y b.lt) λr s t=>O),b.ly.set 5 c (by simp[mD]),λp=>by rw[bs];exact b.fz p⟩
def V2(a:W)(b c d e:I):∃f,a.alloc (az #[b,c,d,e,S Z 0 0,S Z 0 0] 27)=f/\fp a a b c d e (S Z 0 0) (S Z 0 0) f:=⟨_,J,aN _ _,ax.new a (mD b c d e (S Z 0 0) (S Z 0 0)) _,λg=>aE⟩
def vi(b:W)(h i j:V)(c:W):Prop:=∃(d:N)(a:Cu)(e:bz)(f g:N)(k l:Bool),h=aM (A d)/\i=au k/\j=au l/\ax c d (l9 a (S e f g))/\b5 c b (S e f g) a.ps/\(∀m∈a.ps,m<18446744073709551616)/\a.ps.length<=1000000/\B b b c
def V3{Ky Jl:W}{JG:N}{Kn Ko Kp Kq Kr Ks Kt Ku:V}(n:JG=Ky)(j:ax Jl JG [Kn,Ko,Kp,Kq,Kr,Ks,Kt,Ku])(k:B Ky Ky Jl)(c:Cu){d:bz}(e f:Bool)(g:b5 Jl (JG+1) (S d a b) c.ps)(hp:∀l∈c.ps,l<18446744073709551616)(m:c.ps.length<=1000000):vi Ky (aM (A JG)) (au e) (au f) (pH Jl JG c.kd c.dm (S d a b) c.rt c.sz c.st c.ru c.hd):=⟨JG,c,d,a,b,e,f,J,J,J,wJ j _ _ _ _ _ _ _ _,(g.kept (wL Jl JG _ _ _ _ _ _ _ _) (g.not (fD _))).mono O,hp,m,k.trans (wM Jl JG _ _ _ _ _ _ _ _ O)⟩
structure lw(f:W)(a:N)(g h j k:I)(b:V)(d:a0)(e:W):Prop where
 i:fp f a g h j k b (S Z 0 0) e
 c:cD e (a+1) b d
 p:iH d
def lw.bw{d:I}{e:a0}{f:W}(b:lw w a j k l d u e x)(h:B x x f):lw w a j k l d u e f:=⟨b.i.bw h,b.c.bw h,b.p⟩
def V4{a:a0}{b:Cu}(e:iH a)(hp:∀f∈b.ps,f<18446744073709551616)(g:b.ps.length<=1000000):iH (a++[b]):=λc h=>by
 by_cases d:c<L a
 ·have:aQ (a++[b]) c=aQ a c:=by simp[aQ,fU,jO d]
  rw[this];exact e c d
 ·have i:c=L a:=by simp only[bL,eu]at h;omega
  have:aQ (a++[b]) c=b:=by subst i;simp[aQ,fU]
  rw[this];exact⟨hp,g⟩
def lw.push{y:I}{e:a0}{W':W}{m:Cu}{g cap:N}{o:aP}(z:lw w a j k l y u e x)(U:L o=L e)(X:∀r,r<L e->b5 x (a+1) (o.getD r undef) (aQ e r).ps/\∀d,af u=A d->(o.getD r undef).ownBlock≠A d)(ad:b5 x (a+1) v m.ps)(ae:∀d,af u=A d->af v≠A d)(hp:∀ag∈m.ps,ag<18446744073709551616)(ah:m.ps.length<=1000000)(ai:W'.ownsRow (a+1) 43 8 (S (A g) (L e+1) cap) (L e+1) (hS e o++eT m v))(Q:x.grownBy W' (af u))(ak:af u=A g\/g=x):fp w a j k l y u (S Z 0 0) W'/\lw w a j k l y (S (A g) (L e+1) cap) (e++[m]) (aj W' ⟨a,4,Z⟩ (S (A g) (L e+1) cap)):=by have R:=z.i.aO (M.grown (I':=λd=>af u=A d) Q λd s=>s) (λd am s=>Y ((z.c.lt d s).1));exact⟨R,R.WA _,(cD.push U X ad ae ai Q ak).oS (ca W' a 4 _) (λd _ s=>O),V4 z.p hp ah⟩
structure mG(h:W)(a:N)(j k l m:I)(g e:V)(n:a0)(o:aP)(p:ai)(f:W):Prop where
 i:fp h a j k l m g e f
 c:aI bG (λb=>b<=a\/af e=A b) f g n
 d:cc 22 aX (λb=>b<=a) (a+1) f e o p
def mG.bw{f:I}{g:a0}{h:aP}{m:ai}{n:W}(b:mG w a j k l f u v g h m x)(e:B x x n):mG w a j k l f u v g h m n:=⟨b.i.bw e,b.c.bw e,b.d.bw e⟩
def mG.push{p:I}{z:a0}{ad rvs':aP}{ae D':ai}{W':W}{g n cap:N}(q:mG w a j k l p u v z ad ae x)(ag:cc 22 aX (λf=>f<=a) (a+1) W' (S (A g) n cap) rvs' D')(s:x.grownBy W' (af v))(ah:af v=A g\/g=x)(ak:a+1<=g):fp w a j k l p u v W'/\mG w a j k l p u (S (A g) n cap) z rvs' D' (aj W' ⟨a,5,Z⟩ (S (A g) n cap)):=by have R:=M.grown s λf e=>e;have U:=q.i.aO R (λf m e=>Y ((bI q.d.1 f e).1));have y:=ca W' a 5 (S (A g) n cap);refine⟨U,U.WB _,?_,ag.aO y (λf _ e=>⟨O,λo=>by simp only[af,a2]at o;omega⟩)⟩;refine q.c.step (a1 s.size y.size) (λf m X=>?_) (λf m e=>?_);exact(y.block f (cg m s.size) λe=>X (.inl O)).trans (R.block f m λe=>X (.inr e));rcases e with e|e;exact .inl e;simp only[af,a2]at e;subst e;rcases ah with o|o;exact .inr o;omega
def lw.dst{d:I}{e:a0}(f:lw w a j k l d u e x):mG w a j k l d u (S Z 0 0) e [] [] x:=⟨f.i,f.c.off (λr b=>(by rcases b with b|b;omega;cases b)),cc.nil _ _ _ _ _⟩
end Go.Proofs.YtdlofedcpibjcaaGreatDoor
