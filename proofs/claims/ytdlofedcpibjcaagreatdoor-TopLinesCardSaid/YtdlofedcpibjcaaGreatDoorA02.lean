/- A part of the proof of TopLines: contracts of the functions that it reaches. Conditions: as each states. -/
import Derived.Lib.ItoaNum
import Derived.Test.YtdlofedcpibjcaaGreatDoorA01
namespace Go.Proofs.YtdlofedcpibjcaaGreatDoor
open Go.RowKit Go.Proofs.Tryz
set_option linter.all false
set_option maxRecDepth 100000
set_option maxHeartbeats 25600000
open Go renaming World->W,Value->V,Addr->bQ,Act->a',Oper->bd,Program->cb,Ending->bp,TypeId->bj,Calls->ap
open Go.RowKit renaming Below->B,wrap64->aB,intOf->aw
open Option renaming some->A,none->Z
open Bool renaming true->T,false->F
open Go.Value renaming int->aa,slice->S,pointer->aM,agg->ao,bool->au,string->a7,tuple->aZ,ownBlock->af
open Go.IntKind renaming i64->ac,u64->b1
open Go.Ending renaming returned->aq
open Go.Obj renaming cells->az
open Go.World renaming setCell->aj,cell?->C,frozen?->aH
open List renaming length->L
open Go.Proofs.Tryz renaming prog->ab
open _root_ renaming Int->I,Nat->N,List->E
variable{a b c d e g:N}{w x:W}{i j k l:I}{u v y:V}{p:Prop}
def cH.toBelow{d:aD}{f:aP}{g:iD}(m:cH a b c d i j k l u v y f g w)(h:B w w x):tU a b c d i j k l u v y w g x:=⟨d,f,m.bw h,M.bw h,λO K=>.inl K⟩
def Oo{I9:N}{I0:ai}{Kv Jv JV:I}{Jj:ar}{J0:I}{c:I->Option I}{J5:I}(k:c i=A (a:I))(l:c j=A (b:I)):fG I9 I0 Kv Jv JV (Jj,J0,c) (i,j,J5)=if a=b then(Jj,J0,c)else if(al (ah Jj a) ((ah Jj a).length-1)).1≠i then(Jj,J0,c)else if(al (ah Jj b) 0).1≠j then(Jj,J0,c)else if J5<=0/\J0<=Kv then(Jj,J0,c)else if cf I9 I0 Jv JV (ah Jj a++ah Jj b)≠0 then(Jj,J0,c)else((Jj.set a (ah Jj a++ah Jj b)).set b [],aB (J0-1),λh=>if h∈(ah Jj b).map (·.1)then A (a:I)else c h):=by unfold fG;simp only[k,l,Option.getD_some,cW]
def Oq(a:W)(c d:V):∃b,a.alloc (az #[c,d] 96)=b/\B a a b/\b.heap.size=(a:N)+1/\C b a=A c/\C b ⟨a,1,Z⟩=A d:=⟨_,J,aN _ _,D,aE,aE⟩
def Ot(b:ag)(c:N)(i:c<L b)(g:I)(h:I->Option I):(λa=>if a=(al b c).1 then A g else if a∈(b.take c).map (·.1)then A g else h a)=λa=>if a∈(b.take (c+1)).map (·.1)then A g else h a:=by funext a;rw[iq b c i,ck];by_cases e:a=(al b c).1;rw[am e,am (by simp[e])];rw[ak e];by_cases f:a∈(b.take c).map (·.1);rw[am f,am (List.mem_append_left _ f)];rw[ak f,ak (by rw[eh];intro d;rcases d with d|d;exact f d;simp at d;exact e d)]
def Ou(bK r i l a5:N)(g:aD)(a8 y aC aE:I)(a9:bz)(G bb:N)(be:V)(bM:aP)(e:ar)(z:I)(bg:I->Option I)(bh:ai)(ae ag aG:I)(cx:ad)(c9:N)(bk:W)(h:cH bK r i g a8 y aC aE (S a9 G bb) be (S (A ⟨l,0,Z⟩) (L e) a5) bM (e,z,bg) bk)(bl:gt cx c9 (e,z,bg))(c':ae∈cx)(da:ag∈cx)(ej:c9<=1000000)(ek:G<=1000000)(db:bt bk be bh)(dc:L e<=1000000):ap ab 270 #[aM (A ⟨r,0,Z⟩),ao #[aa ac ae,aa ac ag,aa ac aG]] bk λa bm=>a=aq (aZ #[])/\tU bK r i g a8 y aC aE (S a9 G bb) be (S (A ⟨l,0,Z⟩) (L e) a5) bk (fG G bh y aC aE (e,z,bg) (ae,ag,aG)) bm:=by
 obtain⟨c,b9,bo⟩:=bl.on _ c';obtain⟨f,bO,bq⟩:=bl.on _ da;simp only at b9 bO bo bq;obtain⟨el,em,en,b'⟩:=bl.at_ ae _ bo;obtain⟨eo,ep,eq,ca⟩:=bl.at_ ag _ bq;have:c=el:=O
 subst this;have:f=eo:=O
 subst this;simp only at b' ca;have P:=Oo (I9:=G) (I0:=bh) (Kv:=y) (Jv:=aC) (JV:=aE) (Jj:=e) (J0:=z) (J5:=aG) bo bq;have dd:a6 e<=1000000:=by have:=bl.sum;simp only at this;omega
 have de:=yk e c b9;have df:=yk e f bO;have er:0<(ah e c).length:=by cases cy:ah e c with|nil=>rw[cy]at b';cases b'|cons=>simp
 have es:0<(ah e f).length:=by cases cy:ah e f with|nil=>rw[cy]at ca;cases ca|cons=>simp
 obtain⟨d,dg,cc,et,bP,bR,aW⟩:=tM bk ae ag aG;have m:=h.bw cc;have br:=Q (λ(dh:iD) (bm:W) (av:tU bK r i g a8 y aC aE (S a9 G bb) be (S (A l) (L e) a5) d dh bm)=>(by obtain⟨dj,eu,cA,ev,ew⟩:=av;exact⟨dj,eu,cA,(M.bw (I':=λ_=>False) cc).trans ev (λ_ _ a=>a.elim) I2,λb a=>(ew b a).imp_right λa=>O⟩:tU bK r i g a8 y aC aE (S a9 G bb) be (S (A l) (L e) a5) bk dh bm));have dk:=db.bw cc;obtain⟨bS,ha⟩:=K (ah e c);obtain⟨t,cd⟩:=K (ah e f);have cB:=m.at_ (i:=c) b9;have cC:=m.at_ (i:=f) bO;simp only at cB cC;rw[<-ha]at cB P de er;rw[<-cd]at cC P df es;obtain⟨bu,ce,_⟩:=cB;obtain⟨bx,ch,_⟩:=cC;obtain⟨fc,dl⟩:=K (bM.getD c undef);obtain⟨fd,cD⟩:=K (bM.getD f undef);rw[<-dl]at bu ce;rw[<-cD]at bx ch;have ci:=m.row f bO;simp only at ci;rw[<-cD,<-cd]at ci;have ex:¬(S (A (⟨l,0,Z⟩:bQ)) (L e) a5).ownBlock=A r:=m.ng;have dm:=m.lt;have dn:=m.le;obtain⟨fe,aN,ey,rfl,cE,_,dp⟩:=ce.open;obtain⟨ff,ax,dq,rfl,dr,_,bU⟩:=ch.open;obtain⟨ez,eA,rfl,aX,cA⟩:=dp (aN-1) O;obtain⟨ds,dt,rfl,aY,eB⟩:=bU 0 O;obtain⟨cF,cG⟩:=K ((al bS (aN-1)).1);obtain⟨cI,cJ⟩:=K ((al t 0).1);rw[cE,<-cG,<-cJ]at P;rw[<-cG]at aX;rw[<-cJ]at aY;simp only[Nat.zero_mul,eX]at aY;have bV:((aN:I)-1)=((aN-1:N):I):=O
 obtain⟨bW,du⟩:=K (aN-1);rw[<-du]at aX bV;have fg:bW<aN:=O
 have fh:aN<=1000000:=O
 have cj:H (aB (bW:I)=bW):=Q (cV O O);have fi:ax<=1000000:=O
 have eC:∀aQ:i3 d,(Instr.lookup 342 (.map (A i)) ae F).run ab aQ.w= .ok c aQ.w:=λaQ=>by have:=(m.map.bw aQ.bw).BB underlying342 underlying3 rc ae;simp only[bo,Option.getD_some]at this;exact this
 have eD:∀aQ:i3 d,(Instr.lookup 342 (.map (A i)) ag F).run ab aQ.w= .ok f aQ.w:=λaQ=>by have:=(m.map.bw aQ.bw).BB underlying342 underlying3 rc ag;simp only[bq,Option.getD_some]at this;exact this
 obtain⟨cK,ck⟩:=K (L e);have R:=m.c6;have ay:=m.c7;have aR:=m.c8;have aA:=m.inst.c1;simp only at ay;rw[<-ck]at R;rw[<-ck]at b9 bO;have fj:=aJ c;have fk:(c:I)<cK:=O
 have fl:=aJ f;have fm:(f:I)<cK:=O
 have fn:=aJ bW;have fo:(bW:I)<aN:=O
 have fp:(0:I)<ax:=O
 have fq:0<ax:=O
 have o:=Q m;have bA:=Q (U dm dn);change H _ at ci;clear dm dn ex;have dv:=Q dk;have fr:=Q (U ha cd);have eE:=Q ce;have eF:=Q ch;have eG:=Q ck;have fs:=Q (U bo bq);have bB:=Q (U cE dr);have ft:=Q (U dc dd);change H _ at P du;clear ha cd ce ch ck bo bq cE dr m h db dk bl c' da em ep en eq b' ca de df dd dl cD cG cJ dp bU cA eB dc ej et;change H _ at dg cc;go_in;go_upto_region 1 with fail;rw[dg];refine bv [0,1,2,4,7,8,9,11,103,105,106,14,110,112,113,15] ?_;iterate 16 refine mS ?_
 refine bc ?_;clear eC eD;obtain⟨cl,cL⟩:=K d.drew;try rw[<-cL]
 have u:B d.heap.size d cl:=by rw[cL];exact an _
 clear cL;have R:=s u R;have ay:=s u ay;have aR:=s u aR;have aA:=s u aA;have bP:=s u bP;have bR:=s u bR;have aW:=s u aW;have bu:=s u bu;have bx:=s u bx;have aX:=s u aX;have aY:=s u aY;go_upto_region 2 with fail;refine bv [0,1,2,4,7,8,9,11,103,5,106,14,110,12,113,15] ?_;iterate 16 refine mS ?_
 refine bc ?_;obtain⟨p,cM⟩:=K cl.drew;try rw[<-cM]
 have v:B cl cl p:=by rw[cM];exact an _
 clear cM;have R:=s v R;have ay:=s v ay;have aR:=s v aR;have aA:=s v aA;have bP:=s v bP;have bR:=s v bR;have aW:=s v aW;have bu:=s v bu;have bx:=s v bx;have aX:=s v aX;have aY:=s v aY;have bX:B d.heap.size d p:=q u v;change H _ at bX;clear u v;go_upto_region 3 with fail;by_cases bC:c=f
 ·have eH:((c:I)==(f:I))=T:=by simp;omega
  refine bv [0,1,2,3,4,5,6,7,8,9,11,110,112,13,14,15,16,17,18,20,119,121,22,23] ?_;iterate 8 refine mS ?_
  try simp only[dJ]
  try rw[bV]
  try rw[cj]
  iterate 16 refine mS ?_
  refine bc ?_;obtain⟨x,IP⟩:=K p.drew;try rw[<-IP]
  have k:B p p x:=ql
  clear IP;have aS:B d.heap.size d x:=q bX k;have j:=br _ _ (o.toBelow aS);change H _ at j;clear k aS;go_wp2_with fail;(try simp only[Exit.inBlock,Exit.then]);refine b0 (results_none J _ _ _) J ?_;refine⟨J,?_⟩;rw[P];rw[am bC];exact j
 have eH:((c:I)==(f:I))=F:=aF
 by_cases aT:cF=ae;case neg=>
  have eI:(cF !=ae)=T:=X aT
  refine bv [0,1,2,3,4,5,6,7,8,9,11,110,112,13,14,15,16,17,18,20,119,121,22,23] ?_;iterate 8 refine mS ?_
  try simp only[dJ]
  try rw[bV]
  try rw[cj]
  iterate 16 refine mS ?_
  refine bc ?_;obtain⟨x,IP⟩:=K p.drew;try rw[<-IP]
  have k:B p p x:=ql
  clear IP;have aS:B d.heap.size d x:=q bX k;have j:=br _ _ (o.toBelow aS);change H _ at j;clear k aS;go_wp2_with fail;(try simp only[Exit.inBlock,Exit.then]);refine b0 (results_none J _ _ _) J ?_;refine⟨J,?_⟩;rw[P];rw[ak bC,am aT];exact j
 have eI:(cF !=ae)=F:=X aT
 by_cases bD:cI=ag;case neg=>
  have eJ:(cI !=ag)=T:=X bD
  refine bv [0,1,2,3,4,5,6,7,8,9,11,110,112,13,14,15,16,17,18,20,119,121,22,23] ?_;iterate 8 refine mS ?_
  try simp only[dJ]
  try rw[bV]
  try rw[cj]
  iterate 16 refine mS ?_
  refine bc ?_;obtain⟨x,IP⟩:=K p.drew;try rw[<-IP]
  have k:B p p x:=ql
  clear IP;have aS:B d.heap.size d x:=q bX k;have j:=br _ _ (o.toBelow aS);change H _ at j;clear k aS;go_wp2_with fail;(try simp only[Exit.inBlock,Exit.then]);refine b0 (results_none J _ _ _) J ?_;refine⟨J,?_⟩;rw[P];rw[ak bC,ak (λh=>h aT),am bD];exact j
 have eJ:(cI !=ag)=F:=X bD
 refine bv [0,1,2,3,4,5,6,7,8,9,11,110,112,13,14,15,16,17,18,20,119,121,22,23] ?_;iterate 8 refine mS ?_
 try simp only[dJ]
 try rw[bV]
 try rw[cj]
 iterate 16 refine mS ?_
 refine bc ?_;obtain⟨x,IP⟩:=K p.drew;try rw[<-IP]
 have k:B p p x:=ql
 clear IP;have dw:B d.heap.size d x:=q bX k;have R:=s k R;have ay:=s k ay;have aR:=s k aR;have aA:=s k aA;have aW:=s k aW;obtain⟨dx,HH⟩:=K (decide (aG<=0/\z<=y));change H _ at dw;clear k bP bR aX aY bu bx;go_upto_region 4 with fail;go_cut [77] (λeK eL=>eK=au dx/\B x x eL);case first=>
  by_cases Ew:aG<=0
  ·by_cases C7:z<=y
   ·exact v2
   exact v2
  have JH:True:=trivial;clear JH;refine bv [0,101,2,3,4,5,6,8,9,10,11,107,112,13,14] ?_;iterate 15 refine mS ?_
  refine bc ?_;go_wp2;go_meet;exact⟨by rw[HH];first|(simp[Ew];done)|(simp;omega),an _⟩
 obtain⟨rfl,dy⟩:=hcut;have cN:B d.heap.size d wc:=q dw dy;cases dx with
  |true=>have cn:aG<=0/\z<=y:=of_decide_eq_true HH.symm;clear HH;have j:=br _ _ (o.toBelow cN);change H _ at j;go_wp2_with fail;(try simp only[Exit.inBlock,Exit.then]);refine b0 (results_none J _ _ _) J ?_;refine⟨J,?_⟩;rw[P,ak bC,ak (λh=>h aT),ak (λh=>h bD),am cn];exact j
  |false=>
 have cn:¬(aG<=0/\z<=y):=of_decide_eq_false HH.symm;clear HH aW R ay aR aA;obtain⟨dz,dA,dB,eM,dC,dD⟩:=Oq wc (S (A ⟨ez,eA,Z⟩) aN ey) (S (A ⟨ds,dt,Z⟩) ax dq);have co:=q cN dB;have eN:=Q (L0 wc _ _ bS t dz (eE.bw co) (eF.bw co) dC dD (Y bB.oo) (Y bB.oo));have dE:=Q co;change H _ at cN;clear co;change H _ at dA;clear dB eM dC dD dy;go_upto_region 5 with fail;go_wp2_with fail;rw[dA];go_wp2_with fail;refine mF eN λeO bE bF bG ⟨cO,dF⟩=>?_;have bY:=q dE dF;have dG:=cO.di;have dH:=Q (pt a8 y aC aE a9 G bb be (S bE bF bG) bh (bS++t) eO (dv.bw bY) dG ek (by rw[bL,bB.oo.1,bB.oo.2];omega));have dI:=o.bw bY;obtain⟨dK,aA,dL,dM,dN,dO⟩:=dI.inst;obtain⟨eP,eQ,eR,rfl,_,_,_⟩:=dv.open;obtain⟨cP,dP⟩:=K (cf G bh aC aE (bS++t));rw[<-dP]at dH P;have eS:=Q cO;change H _ at bY;clear cO;change H _ at dI;clear dF dG dP;go_wp2_with fail;refine mU dH λcQ bZ=>?_;by_cases cp:cP=0;case neg=>
  have eT:(cP !=0)=T:=X cp
  have j:=br _ _ (o.toBelow (q bY bZ));change H _ at j;clear bZ dK aA dL dM dN dO;go_wp2_with fail;(try simp only[Exit.inBlock,Exit.then]);refine b0 (results_none J _ _ _) J ?_;refine⟨J,?_⟩;rw[P,ak bC,ak (λh=>h aT),ak (λh=>h bD),ak cn,am cp];exact j
 have eT:(cP !=0)=F:=X cp
 have cR:=q bY bZ;have bH:=o.bw cR;have cS:=eS.bw bZ;have b2:=cS.lt;have fu:d.heap.size<=(dz:N):=dE.size;have dQ:=bH.adH (aal:=λb=>g b\/(S bE bF bG).ownBlock=A b) (λb a=>.inl a) (λb a=>by rcases a with a|a;exact⟨bH.lt b a,bH.le b a⟩;have:=b2 b a;have fv:=bA.1 r bH.has.1;have fw:=bA.2 r bH.has.1;omega);have cr:=Q cR;have eV:=Q cS;change H _ at dQ;clear cR cS;change H _ at b2;clear bH bZ dK aA dL dM dN dO;go_wp2;go_loopw [92] (λcT wr=>∃n:N,cT=(n:I)/\n<=ax/\cH bK r i (λb=>g b\/(S bE bF bG).ownBlock=A b) a8 y aC aE (S a9 G bb) (S eP eQ eR) (S (A l) (L e) a5) bM (e,z,λb3=>if b3∈(t.take n).map (·.1)then A (c:I)else bg b3) wr/\M (λb=>b=i) cQ wr) (λcT _=>ax-(aw cT).toNat);exact⟨0,J,a3 _,X dQ.oo,M.refl _ _⟩;obtain⟨n,rfl,fx,aU,a0⟩:=hrel;obtain⟨aV,rfl⟩:=K wr;by_cases bI:n<ax
 ·have dR:ba aV (S (A ⟨ds,dt,Z⟩) ax dq) t:=ci aV (a1 cr.size a0.size) (λb dS av=>(a0.block b (cg dS cr.size) (λa=>av (.inr (.inr (.inl a))))).trans (cr.block b dS));obtain⟨_,_,_,b5,_,_,bU⟩:=dR.open;simp only[bf]at b5;obtain⟨rfl,rfl,rfl⟩:=b5;obtain⟨_,_,b5,Ew,C7⟩:=bU n bI;simp only[a2,bN,bT]at b5;obtain⟨rfl,rfl⟩:=b5;have cU:=Ot t n (by rw[bB.2];exact bI) c bg;obtain⟨dT,dU⟩:=K ((al t n).1);obtain⟨eW,dV⟩:=K ((al t n).2);rw[<-dU]at Ew cU;rw[<-dV]at C7;have fy:=aJ n;have fz:(n:I)<ax:=by omega
  obtain⟨ct,dW,cW,eY,eZ,e0⟩:=eU aV dT eW;have cu:=aU.bw cW;have aR:=cu.c8;have dX:M (λb=>b=i) cQ ct:=a0.trans (M.bw (I':=λ_=>False) cW) I2 (λ_ _ a=>a.elim);have dY:=cu.map;have e1:=Q cu;have e2:=Q dX;change H _ at cU;clear dX;change H _ at dW;clear dR bU dU dV aU a0 cW eY e0 cu;go_upto_region 10 with fail;rw[dW];refine bv [0,1,2,4,6,103,105,307] ?_;iterate 7 refine mS ?_
  refine b4 λd0 b6=>?_;refine pn (.tmp 99) (.tmp 101) (.tmp 102) 342 J ct.drew i (dY.bw (an _)) underlying342 underlying3 dT c J J J ?_;intro d1 d2 cX;refine b6 _ _ ?_;clear aR;refine bc ?_;have d3:cs d1 i (λb3=>if b3∈(t.take (n+1)).map (·.1)then A (c:I)else bg b3):=by rw[<-cU];exact d2
  have d4:=(e1.bw (an ct)).BF d3 cX;have d5:M (λb=>b=i) cQ d1:=(e2.trans (M.bw (I':=λ_=>False) (an ct)) I2 (λ_ _ a=>a.elim)).trans cX I2 I2;change H _ at d4 d5;clear d2 d3 cX dY Ew C7 eZ;go_wp2;go_roundw;case rel=>exact⟨n+1,aK,O,d4,d5⟩
  simp only[aw];first|exact dZ bI|exact ea bI O
 have bI:n=ax:=O
 subst bI;have d6:t.take n=t:=cm (by rw[bB.2];exact aL _);rw[d6]at aU;have d7:M (λb=>b=i) d aV:=(M.bw (I':=λ_=>False) cr).trans a0 (λ_ _ a=>a.elim) I2;have d8:=eV.aO a0 (λb a aT=>bi (b2 b a) (bA.1 i o.has.2.1));have fA:l<d.heap.size:=bA.1 l (o.has.2.2 l J);have fB:r<d.heap.size:=bA.1 r o.has.1;have fC:i<d.heap.size:=bA.1 i o.has.2.1;have d9:aI ba (λb=>¬(g b\/(S bE bF bG).ownBlock=A b)\/b=r\/b=i\/b=l) aV (S bE bF bG) (bS++t):=nX d8.di (λb cY a _ av=>by subst a;have m:=b2 b J;rcases av with av|av|av|av;exact av (.inr J);omega;omega;omega);have d':L e=cK:=eG.symm;have e3:=aU.at_ (i:=c) (by simp only;omega);have e4:=aU.at_ (i:=f) (by simp only;omega);obtain⟨u0,_,e5⟩:=e3;obtain⟨eb,_,ec⟩:=e4;have cZ:=aU.BG J (JJ:=c) O d9;have cv:=cZ.BG D (JJ:=f) O (Kl:=S Z 0 0) (J8:=[]) (λbm _ _=>ba.nil bm);obtain⟨b7,a4⟩:=K (aj aV ⟨l,c,Z⟩ (S bE bF bG));have e6:C b7 ⟨l,f,Z⟩=A (bM.getD f undef):=by rw[a4,cq _ _ _ _ (by intro a;have:=cz Addr.off a;simp only at this;omega)];exact eb
 have e7:aH b7 ⟨l,f,Z⟩=F:=by rw[a4,bs];exact ec
 rw[<-a4]at cZ cv;obtain⟨bJ,b8⟩:=K (aj b7 ⟨l,f,Z⟩ (S Z 0 0));rw[<-b8]at cv;have c2:∀(c3:W) (cY:N) (c0:V),M g c3 (aj c3 ⟨l,cY,Z⟩ c0):=λc3 cY c0=>M.grown (bn _ _ _) (λb a=>by simp only[a2]at a;subst a;exact o.has.2.2 _ J);have ed:M g aV b7:=by rw[a4];exact c2 _ _ _
 have ee:M g b7 bJ:=by rw[b8];exact c2 _ _ _
 have ef:M g d bJ:=((d7.mono (λb _ a=>a▸o.oo.has.2.1)).trans ed I2 I2).trans ee I2 I2;have R:=aU.c6;rw[d']at R;have fE:(bJ:N)=aV:=by rw[b8,a4];simp[aj]
 have e8:=Q cv;have e9:=Q ef;clear ef;change H _ at a4 b8;clear aU a0 d6 d7 d8 d9 cZ cv c2 ed ee d';go_upto_region 12 with fail;refine bv [0,1,2,4,5,6,7,9,10,103,108,11,312,13,314] ?_;iterate 12 refine mS ?_
 refine b4 λd0 b6=>?_;go_simp;try rw[<-a4]
 refine b6 _ _ ?_;clear R;refine mS ?_;refine b4 λd0 b6=>?_;go_simp;try rw[<-b8]
 refine b6 _ _ ?_;refine bc ?_;obtain⟨eg,c4⟩:=K bJ.drew;try rw[<-c4]
 have c5:B bJ bJ eg:=by rw[c4];exact an _
 have cw:=e8.bw c5;have ay:=cw.c7;simp only at ay;have fF:=cw.z7;have eh:=cw.Wo (J1:=aB (z-1));have ei:M g d (aj eg ⟨r,7,Z⟩ (aB (z-1))):=(e9.trans (M.bw (I':=λ_=>False) c5) I2 (λ_ _ a=>a.elim)).trans (O2:=g) (M.grown (bn _ _ _) (λb a=>by simp only[a2]at a;subst a;exact o.has.1)) I2 I2;have j:=br _ _ ⟨_,_,eh,ei,λb a=>a.imp_right λa=>Y ((b2 b a).1)⟩;change H _ at j;clear c4 c5 cw eh ei u0 e5 eb ec e6 e7;go_wp2;go_end0;refine⟨J,?_⟩;rw[P,ak bC,ak (λh=>h aT),ak (λh=>h bD),ak cn,ak (λh=>h cp)];exact j
section
section
variable{aay aaz aaA:N}{aaB:aD}{aaC aaD aaE aaF:I}{aaG aaH aaI:V}{aaJ:aP}{aaK:ar}{aaL:I}{aaM:I->Option I}{aaN aaO:W}
def cH.push{g c b:N}{k:V}{v:ag}(e:cH aay aaz aaA aaB aaC aaD aaE aaF aaG aaH aaI aaJ (aaK,aaL,aaM) aaN)(D:aI ba (λd=>d≠b\/d=aaz\/d=aaA\/af aaI=A d) aaN k v)(G:b<aaN/\aay<=b)(ae:∀d,aaB d->d≠b)(H:aaO.ownsRow aay 96 1 (S (A g) (L aaK+1) c) (L aaK+1) (aaJ++[k]))(K:aaN.grownBy aaO (af aaI))(m:af aaI=A g\/g=aaN)(ah:g<aaO)(ai:aay<=(aaN:N)):cH aay aaz aaA (λd=>aaB d\/d=b\/d=g) aaC aaD aaE aaF aaG aaH (S (A g) (L aaK+1) c) (aaJ++[k]) (aaK++[v],aaL,aaM) (aj aaO ⟨aaz,6,Z⟩ (S (A g) (L aaK+1) c)):=by
 have j:=M.grown K λd a=>a;have n:M (λd=>d=aaz\/af aaI=A d) aaN (aj aaO ⟨aaz,6,Z⟩ (S (A g) (L aaK+1) c)):=j.trans (M.grown (bn _ _ _) (λd a=>X a.symm)) (λ_ _ a=>.inr a) (λ_ _ a=>.inl a);have w:=e.lt aaz e.has.1;have ak:=e.lt aaA e.has.2.1;have x:g≠aaz:=λa=>by rcases m with f|f;exact e.ng (a▸f);omega
 have P:g≠aaA:=λa=>by rcases m with f|f;exact e.nm (a▸f);omega
 have Q:L aaJ=L aaK:=by have:=e.own.1;simpa using this
 have h:∀o p,o≠6->C aaN ⟨aaz,o,Z⟩=A p->(aj aaO ⟨aaz,6,Z⟩ (S (A g) (L aaK+1) c)).cell? ⟨aaz,o,Z⟩=A p:=λo p y R=>by rw[cq _ _ _ _ (by intro a;first|exact y (cz Addr.off a)|exact y (cz Addr.off a).symm)];exact j.cell R e.ng
 have z:=n.block;have U:∀d,d<(aaN:N)->(¬(aaB d\/d=b\/d=g)\/d=aaz\/d=aaA\/(S (A (⟨g,0,Z⟩:bQ)) (L aaK+1) c).ownBlock=A d)->(¬aaB d\/d=aaz\/d=aaA\/af aaI=A d):=λd i q=>by rcases q with a|a|a|a;exact .inl λr=>a (.inl r);exact .inr (.inl a);exact .inr (.inr (.inl a));simp only[af,a2]at a;rcases m with f|f;exact .inr (.inr (.inr (by rw[f,a])));omega
 have Y:∀d,d<(aaN:N)->(¬(aaB d\/d=b\/d=g)\/d=aaz\/d=aaA\/(S (A (⟨g,0,Z⟩:bQ)) (L aaK+1) c).ownBlock=A d)->(d≠b\/d=aaz\/d=aaA\/af aaI=A d):=λd i q=>by rcases q with a|a|a|a;exact .inl λr=>a (.inr (.inl r));exact .inr (.inl a);exact .inr (.inr (.inl a));simp only[af,a2]at a;rcases m with f|f;exact .inr (.inr (.inr (by rw[f,a])));omega
 refine⟨⟨h _ _ O e.inst.c0,h _ _ O e.inst.c1,h _ _ O e.inst.c2,h _ _ O e.inst.c3,h _ _ O e.inst.c4,h _ _ O e.inst.c5⟩,bP _ _ _ (by rw[j.cell e.c6 e.ng];rfl),h _ _ O e.c7,h _ _ O e.c8,by rw[bs];exact j.free e.z6 w e.ng,by rw[bs];exact j.free e.z7 w e.ng,?_,λl ad=>?_,e.map.aO n (λa=>by rcases a with a|a;exact e.ne a.symm;exact e.nm a),e.ne,?_,?_,⟨.inl e.has.1,.inl e.has.2.1,λd a=>?_⟩,λd a=>?_,λd a=>?_⟩;simp only[bL,eu];exact gd H (bn aaO ⟨aaz,6,Z⟩ _) (.inr (by simp[af,x]));simp only[bL,eu]at ad;by_cases i:l<L aaK;have s:(aaJ++[k]).getD l undef=aaJ.getD l undef:=by simp[List.getD,List.getElem?_append,show l<L aaJ by omega]
 simp only[s,K2 i];exact(e.row l i).step n.size (λd i u=>z d i λa=>u (by rcases a with a|a;exact .inr (.inl a);exact .inr (.inr (.inr a)))) U;have a:l=L aaK:=O
 subst a;have s:(aaJ++[k]).getD (L aaK) undef=k:=by simp[List.getD,<-Q]
 simp only[s,K3];exact D.step n.size (λd i u=>z d i λa=>u (by rcases a with a|a;exact .inr (.inl a);exact .inr (.inr (.inr a)))) Y;simp[af,x];simp[af,P];simp only[af,a2]at a;exact .inr (.inr a.symm);simp only[aj,Array.size_modify];rcases a with a|a|a;exact cg (e.lt d a) j.size;exact cg (a▸G.1) j.size;omega;rcases a with a|a|a;exact e.le d a;omega;rcases m with f|f;exact a▸e.le g (e.has.2.2 g f);omega
def cH.start{I9:N}{a:W}(d:ci a aaz aaC aaD aaE aaF aaG aaH)(e:C a ⟨aaz,6,Z⟩=A (S Z 0 0))(f:C a ⟨aaz,7,Z⟩=A (aa ac aaL))(g:C a ⟨aaz,8,Z⟩=A (.map (A aaA))) (h:aH a ⟨aaz,6,Z⟩=F) (i:aH a ⟨aaz,7,Z⟩=F) (j:cs a aaA (λ_=>Z)) (k:aaz≠aaA) (l:aay<=aaz/\aay<=aaA) (m:aaz<a/\aaA<a):cH aay aaz aaA (λc=>c=aaz\/c=aaA) aaC aaD aaE aaF aaG aaH (S Z 0 0) [] ([],aaL,λ_=>Z) a:=⟨d,e,f,g,h,i,World.ownsRow_nil _ _ _ _,λn d=>absurd d D,j,k,by simp[af],by simp[af],⟨.inl J,.inr J,λc b=>by cases b⟩,λc b=>by rcases b with b|b<;>omega,λc b=>by rcases b with b|b<;>omega⟩
end
def Ov(a:W)(c f1 d e aaG aaH u6 u7 u8:V):∃b,a.alloc (az #[c,f1,d,e,aaG,aaH,u6,u7,u8] 345)=b/\B a a b/\b.heap.size=(a:N)+1/\ci b a c f1 d e aaG aaH/\C b ⟨a,6,Z⟩=A u6/\C b ⟨a,7,Z⟩=A u7/\C b ⟨a,8,Z⟩=A u8/\aH b ⟨a,6,Z⟩=F/\aH b ⟨a,7,Z⟩=F:=⟨_,J,aN _ _,D,⟨by simp[go_sem],by simp[go_sem],by simp[go_sem],by simp[go_sem],by simp[go_sem],by simp[go_sem]⟩,by simp[go_sem],by simp[go_sem],by simp[go_sem],by simp[go_sem],by simp[go_sem]⟩
def Ow(a:W)(c:V):∃b,a.alloc (az #[c] 341)=b/\B a a b/\b.heap.size=(a:N)+1/\C b a=A c:=⟨_,J,aN _ _,D,by simp[go_sem]⟩
def Ox(a:W)(c:V):∃b,a.alloc (az #[c] 96)=b/\B a a b/\b.heap.size=(a:N)+1/\C b a=A c:=⟨_,J,aN _ _,D,by simp[go_sem]⟩
def Oy:(ab.info? 96).map (λa=>(a.zero,a.size,a.bytes))=A (A (S Z 0 0),1,24):=by kernel_rfl
def bS.Wp{i:bj}{d:N}{b:aD}{j e:W}{f:V}{k:aP}{aaK:ar}(a:bS i ba b j d f k aaK e)(l:∀c,b c->c<=d)(m:L aaK<=1000000):aI bb b e f aaK:=by rcases bW a.own with⟨rfl,n⟩|⟨s,t,rfl,_,_,u,_⟩;rw[dn.1 n];exact λaaO _ _=>jQ aaO;refine qI (a.gS m) (λo=>Y (l _ o)) λp v g q=>?_;have⟨h,_⟩:=a.at_ g;rw[q]at h;cases h;exact(a.row p g).mono λc r=>.inl r
def Oz(aaK:ar)(a:N)(c:a<L aaK):(aaK.take (a+1)).filter (λb=>decide (b≠[]))=(aaK.take a).filter (λb=>decide (b≠[]))++if ah aaK a=[]then[]else[ah aaK a]:=by
 have d:ah aaK a=aaK[a]:=by simp[ah,c]
 rw[eR c,h1,<-d];by_cases e:ah aaK a=[]<;>simp[e]
def ym(aaK:ar)(a:N):((aaK.take a).filter (λb=>decide (b≠[]))).length<=L aaK:=a1 (List.length_filter_le _ _) (by rw[dd];omega)
def gt.fold{d:ad}{f I9:N}{I0:ai}{veh cap len:I}(a:b7)(hp:∀b∈a,b.1∈d/\b.2.1∈d)(c:iD)(g:gt d f c):gt d f (a.foldl (fG I9 I0 veh cap len) c)/\(a.foldl (fG I9 I0 veh cap len) c).1.length=c.1.length:=by
 induction a generalizing c with
  |nil=>exact⟨g,J⟩
  |cons b a h=>have e:=hp b D;have⟨i,j⟩:=h (λk e=>hp k (by simp[e])) _ (g.next (I9:=I9) (I0:=I0) (veh:=veh) (cap:=cap) (len:=len) b e.1 e.2);exact⟨i,by rw[List.foldl_cons,j,Oj]⟩
def nN{a:ad}{b:I}(c:b∈cF a):b∈a:=by unfold cF at c;exact List.mem_mergeSort.1 c
def ci.bl{aaB:aD}{e aaO:W}{d:N}{f f1 g h i aaH:V}(a:ci e d f f1 g h i aaH)(b:M aaB e aaO)(c:¬aaB d):ci aaO d f f1 g h i aaH:=⟨b.cell a.c0 c,b.cell a.c1 c,b.cell a.c2 c,b.cell a.c3 c,b.cell a.c4 c,b.cell a.c5 c⟩
end
section
attribute [local go_sem] Oper.semAt_some
def OA(ay k l m:I)(aA:bz)(i aC:N)(ce eC:V)(r:ai)(g:ag)(c:W)(gj:i<=1000000)(dy:bt c ce r)(dz:ba c eC g)(gl:L g<=1000000):ap ab 254 #[ao #[aa ac ay,aa ac k,aa ac l,aa ac m,S aA i aC,ce],eC] c (qJ c (hq i r k l m g)):=by
 have gm:= @run_makeMap ab;obtain⟨eD,dA,eE,eF,e⟩:=bR c (aa ac ay) (aa ac k) (aa ac l) (aa ac m) (S aA i aC) ce;obtain⟨ad,dB,bG,gn,eG,eH⟩:=cP eD (S Z 0 0);obtain⟨aW,dC,eI,go,eJ⟩:∃aW,ad.alloc (.map #[] 0)=aW/\B (ad:N) ad aW/\aW.heap.size=(ad:N)+1/\cs aW (ad:N) (λ_=>Z):=⟨_,J,aN _ _,D,cs.new ad⟩
 obtain⟨eK,cR,dD,gp,dE,eL,eM,eN,cS,eO⟩:=Ov aW (aa ac ay) (aa ac k) (aa ac l) (aa ac m) (S aA i aC) ce (S Z 0 0) (aa ac (L g)) (.map (A (ad:N)));obtain⟨ar,cT,aX,gq,cf⟩:=Ow eK (aM (A ⟨aW.heap.size,0,Z⟩));have ch:cH (c:N) aW.heap.size (ad:N) (λf=>f=aW.heap.size\/f=(ad:N)) ay k l m (S aA i aC) ce (S Z 0 0) [] ([],(L g:I),λ_=>Z) ar:=cH.start (I9:=0) (dE.bw aX) (s aX eL) (s aX eM) (s aX eN) (aY aX O cS) (aY aX O eO) ((eJ.bw dD).bw aX) O O O;have cU:=q eI (q dD aX);have dF:=q bG cU;have eQ:=q eE dF;have eR:=e.bw dF;have eS:=e.bw bG;have dG:=s cU eG;have dH:=aY cU O eH;have b2:(eD:N)=(c:N)+1:=eF;have gr:(ad:N)=(c:N)+2:=O
 have dJ:aW.heap.size=(ad:N)+1:=O
 have eT:(eK:N)=(ad:N)+1+1:=O
 have cj:(ar:N)=(ad:N)+3/\(ad:N)=(c:N)+2:=O
 rw[dJ]at ch cT;rw[eT,dJ]at cf;rw[b2]at dG dH;have eV:=Q dy;obtain⟨a0,a4,a5,rfl,_,_,_⟩:=dy.open;obtain⟨eW,a6,eX,rfl,bq,_,eY⟩:=dz.open;rw[bq]at cR ch;have eZ:a6<=1000000:=O
 obtain⟨gs,gu⟩:=K (c:N);have gv:gs+1=(c:N)+1:=O
 have gw:=Q eR;have e0:=Q eQ;change H _ at eS dA dB dC cR cT ch dG dH eY bq cj cf gu;clear eR eQ;change H _ at dz;clear eE bG eI dD aX eF gn go gp gq eJ dE eL eM eN cS eO e eG eH dy gl cU dF b2 gr dJ eT gv;refine m3 func254 J ?_;simp only[ntmps254,List.size_toArray,dx,et,Nat.reduceAdd,Nat.reduceSub,Array.replicate_succ,Array.replicate_zero,List.push_toArray,List.append_toArray,List.nil_append,List.cons_append];go_upto_region 1 with fail;rw[dA.oo,dB.oo];obtain⟨ck,cV,a8,cW,cX,cY⟩:=eS.oo;go_upto_region 2 with fail;try rw[dC.oo]
 try rw[cR.oo]
 try rw[cT.oo]
 clear ck cV a8 cW cX cY gm;obtain⟨d,dK⟩:=K (ad:N);have gx:H (cH (c:N) (d+1) d (λf=>f=d+1\/f=d) ay k l m (S aA i aC) (S a0 a4 a5) (S Z 0 0) [] ([],(a6:I),λ_=>Z) ar):=Q (by rw[dK];exact ch.oo);rw[<-dK]at cj cf⊢;change H _ at dK;clear ch dA dB dC cR cT;have e1:∀a,(a=d+1\/a=d)->a=d+1\/a=d\/(ar:N)<=a:=λa b=>O
 change H _ at e1;go_wp2;go_loopw [20] (λa9 wr=>∃(f:N) (bH:V) (aQ:aP) (o:aD),a9=aa ac f/\f<=a6/\cH (c:N) (d+1) d o ay k l m (S aA i aC) (S a0 a4 a5) bH aQ (hn g f,(a6:I),ho g f) wr/\M (λa=>a=d+1\/a=d) ar wr/\∀a,o a->a=d+1\/a=d\/(ar:N)<=a) (λa9 _=>a6-(aw a9).toNat);exact⟨0,_,_,_,J,a3 _,gx.oo,M.refl _ _,e1.oo⟩;case round=>
  obtain⟨f,bH,aQ,o,rfl,be,IM,j,cl⟩:=hrel;obtain⟨t,rfl⟩:=K wr;have cZ:(ar:N)=d+3/\d=(c:N)+2:=cj.oo;by_cases Ch:f<a6
  ·obtain⟨c0,gy,rfl,br,f1⟩:=eY.oo f Ch;have b3:B (c:N) c t:=e0.oo.trans (j.bg O λa e b=>O);have br:=bk b3 (aR _ _ br) br;have f1:=bk b3 (aR _ _ f1) f1;have hG:=aJ f;have hH:(f:I)<a6:=by omega
   have dL:=Ok g f (by rw[bq.oo];exact Ch);have c1:ho g (f+1)=λaV=>if aV=(al g f).1 then A (f:I)else ho g f aV:=J;have c2:=rn g f (by rw[bq.oo];exact be);obtain⟨⟨ax,c3⟩,e2⟩:=K (al g f);rw[<-e2]at br f1 dL c1;simp only at br f1 c1;obtain⟨n,e3,aE,gz,G,e4⟩:=eU t ax c3;obtain⟨e5,e6,dM,gA,cn,co⟩:=eU n ax c3;rw[gz]at cn co;obtain⟨y,e7,dN,gB,u0⟩:=Ox e5 (S (A ⟨(t:N)+1,0,Z⟩) 1 1);have dO:=q dM dN;have dP:=q aE dO;have bJ:=IM.bw aE;have e8:=IM.bw dP;have gC:M (λa=>a=d+1\/a=d) ar n:=j.trans (M.bw (I':=λ_=>False) aE) I2 (λ_ _ b=>b.elim);have e9:M (λa=>a=d+1\/a=d) ar y:=j.trans (M.bw (I':=λ_=>False) dP) I2 (λ_ _ b=>b.elim);have dQ:=gC.cell cf.oo O;obtain⟨P,u,ae,cp⟩:∃cq dR aV,bH=S cq dR aV:=vz
   subst cp;have c4:=bJ.c6;have fa:∀a,o a->a<(t:N):=IM.lt;have fb:(t:N)<n:=O
   have gD:d+1+1<(t:N):=Y j.size
   have bs:∀a,a=d+1\/a=d+1+1\/(t:N)<=a->¬(S P u ae).ownBlock=A a:=λa e b=>by have p:=IM.has.2.2 a b;have fc:=cl a p;have hI:=IM.lt a p;have hJ:a≠d+1:=λb2=>IM.ng (b2▸b);omega
   have gE:=bU.cell (G:=λa=>(S P u ae).ownBlock=A a) dQ (bs _ (.inr (.inl J)));have gF:=bU.cell (G:=λa=>(S P u ae).ownBlock=A a) c4 (bs _ (.inl J));have gG:=bU.cell (G:=λa=>(S P u ae).ownBlock=A a) G (bs _ (.inr (.inr (aL _))));have gH:=bU.cell (G:=λa=>(S P u ae).ownBlock=A a) e4 (bs _ (.inr (.inr (aL _))));have fd:ba y (S (A ⟨(t:N)+1,0,Z⟩) 1 1) [(ax,c3)]:=(w3 cn co).bw dN;have fe:aI ba (λa=>a≠(t:N)+1\/a=d+1\/a=d\/(S P u ae).ownBlock=A a) y (S (A ⟨(t:N)+1,0,Z⟩) 1 1) [(ax,c3)]:=nX fd (λc0 gy ha _ e=>by simp only[a2,bN,bT]at ha;obtain⟨rfl,_⟩:=ha;rcases e with e|e|e|e;exact e J;omega;omega;exact bs _ (.inr (.inr O)) e);have gI:(y:N)=(n:N)+2:=O
   have gJ:(t:N)+1<(y:N)/\(c:N)<=(t:N)+1:=O
   have gK:=Q (d2 u0);have dT:=e8.bw (an y);have ff:y.drew.ownsRow (c:N) 96 1 (S P u ae) f aQ:=by have:=dT.own;rw[show(hn g f,(a6:I),ho g f).1.length=f from c2]at this;exact this
   have gL:=Q (λ(JG a8:N) (bh:W) (p:bh.ownsRow (c:N) 96 1 (S (A ⟨JG,0,Z⟩) (f+1) a8) (f+1) (aQ++[S (A ⟨(t:N)+1,0,Z⟩) 1 1])) (b5:y.drew.grownBy bh (S P u ae).ownBlock) (bu:(S P u ae).ownBlock=A JG\/JG=(y.drew:N)) (fg:JG<(bh:N))=>by have fh:=dT.push (b:=(t:N)+1) (fe.bw (an y)) ⟨by show (t:N)+1<(y:N);omega,O⟩ (λa e b=>Y (fa a e)) (by rw[c2];exact p) b5 bu fg (by show (c:N)<=y;omega);rw[<-dL,c2]at fh;exact fh);have R:=Q bJ;have fi:=Q (U dO trivial);have bx:=Q cl;have fj:=Q e9;change H _ at e3 e6 e7 fe dL c2 ff dT c1;clear cl e9;have gM:=Q cZ;change H _ at e8 dM;clear cZ IM j bJ aE dN dP dO gA gB cn co u0 fd e2 b3 c4;go_upto_region 5 with fail;rw[e3.oo];clear br f1;refine od (λa=>(S P u ae).ownBlock=A a) [100,101,2,3,104,105,206,207,208,9,10,311] ?_;iterate 6 refine mS ?_
   refine aU λc5 j=>?_;go_simp;try rw[e6.oo]
   refine j.oo _ _ (.mk (M.bw (q dM.oo (an _)))) ?_;refine aU λc5 j=>?_;go_simp;try rw[e7.oo]
   refine j.oo _ _ (.mk (M.bw (q fi.oo.1 (an _)))) ?_;refine aU λc5 j=>?_;refine iy (.tmp 29) (.tmp 32) 343 96 _ 1 24 underlying343 Oy J av av J y.drew (c:N) (S P u ae) f aQ [S (A ⟨(t:N)+1,0,Z⟩) 1 1] (e5:N) J J (gK.oo.bw (an _)) J eP ff.oo O (by show (c:N)<=y;omega) ?_;intro JG a8 bh p b5 bu c7;have fk:=gL.oo JG a8 bh p b5 bu c7;have b6:M (λa=>(S P u ae).ownBlock=A a) n bh:=(M.bw (I':=λ_=>False) (q fi.oo.1 (an y))).trans (M.grown (I':=λa=>(S P u ae).ownBlock=A a) b5 (λ_ b=>b)) (λ_ _ b=>b.elim) I2;have c4:=b6.cell R.oo.c6 R.oo.ng;have cS:=b6.free R.oo.z6 (R.oo.lt _ R.oo.has.1) R.oo.ng;have gN:=R.oo.lt _ R.oo.has.1;have fl:=b6.cell G (bs _ (.inr (.inr (aL _))));have fm:=b6.cell dQ (bs _ (.inr (.inl J)));have fn:∀a,(o a\/a=(t:N)+1\/a=JG)->a=d+1\/a=d\/(ar:N)<=a:=λa e=>by have hK:=gM.oo;have hL:=fj.oo.size;rcases e with e|e|e;exact bx.oo a e;omega;rcases bu with h|h;subst e;exact bx.oo _ (R.oo.has.2.2 _ h);have:JG=(y:N):=h;omega
   have fo:M (λa=>a=d+1\/a=d) ar bh:=(fj.oo.trans (M.bw (I':=λ_=>False) (an y)) I2 (λ_ _ b=>b.elim)).trans (M.grown (I':=λa=>(S P u ae).ownBlock=A a) b5 (λ_ b=>b)) I2 (λa e b=>Y (bx.oo a (R.oo.has.2.2 a b)));refine j.oo _ _ (.mk b6) ?_;have fp:=Q fk;have gO:=Q fo;change H _ at fn b6;clear fk fo;clear gE gF gG gH bu c7 b5 p;iterate 2 refine mS ?_
   refine b4 λc5 j=>?_;go_simp;obtain⟨c9,c'⟩:=K (aj bh ⟨d+1,6,Z⟩ (S (A ⟨JG,0,Z⟩) (f+1) a8));try rw[<-c']
   refine j.oo _ _ ?_;refine bc ?_;rw[<-c']at fp;have da:M (λa=>a=d+1) bh c9:=by rw[c'];exact M.grown (bn _ _ _) (λa b=>X b.symm)
   obtain⟨cr,dU⟩:=K c9;try rw[<-dU]
   have ct:B (c9:N) c9 cr:=by rw[dU];exact aS _ _
   have db:=fp.oo.bw ct;have gP:=db.c8;have gQ:=s ct (da.cell fm O);have gR:=s ct (da.cell fl O);have fq:M (λa=>a=d+1\/a=d) ar cr:=(gO.oo.trans da I2 (λ_ _ b=>.inl b)).trans (M.bw (I':=λ_=>False) ct) I2 (λ_ _ b=>b.elim);have fs:=db.map;have gS:=Q db;have gT:(t:N)≠d+1:=O
   have gU:=Q fq;clear fq;clear c' dU ct da db c4 cS gN fl fm bs fa fb gD gI gJ gT;go_upto_region 6 with fail;refine bv [4,6,100,1,2,103,105,307] ?_;iterate 7 refine mS ?_
   refine b4 λc5 j=>?_;refine pn (.tmp 39) (.tmp 41) (.tmp 42) 342 J cr.drew d (fs.bw (an _)) underlying342 underlying3 ax f J J J ?_;intro ft fu dV;refine j.oo _ _ ?_;refine bc ?_;have fv:cs ft d (ho g (f+1)):=by rw[c1.oo];exact fu
   have fw:=(gS.oo.bw (an cr)).BF fv dV;have fx:M (λa=>a=d+1\/a=d) ar ft:=(gU.oo.trans (M.bw (I':=λ_=>False) (an cr)) I2 (λ_ _ b=>b.elim)).trans dV I2 (λ_ _ b=>.inr b);change H _ at fw fx;clear fu fv dV fs gQ gP gR G e4 dQ;go_wp2;go_roundw;case rel=>exact⟨f+1,_,_,_,aK,O,fw.oo,fx.oo,fn.oo⟩
   exact bY
  have gV:f=a6:=O
  subst gV;have gW:=gw.oo.bl j O;have fy:=j.cell cf.oo O;have dW:=j.cell dG.oo O;have fz:=j.free dH.oo O O;have b3:B (c:N) c t:=e0.oo.trans (j.bg O λa e b=>O);have gX:=Q (N0 ay k l m (S aA i aC) (S a0 a4 a5) (S eW f eX) t ⟨_,_,_,J⟩ ⟨_,_,_,J⟩ ⟨_,_,_,J⟩);obtain⟨ck,cV,a8,cW,cX,cY⟩:=gW;have fA:=Q IM;have gY:H (ci t (c:N) (aa ac ay) (aa ac k) (aa ac l) (aa ac m) (S aA i aC) (S a0 a4 a5)):=Q ⟨ck,cV,a8,cW,cX,cY⟩;have bK:d+1+1<(t:N)/\d+1+1<(ar:N):=Y j.size
  have hM:=Q cZ;have bx:=Q cl;have dX:=Q b3;change H _ at fy dW fz bK;clear cl b3;clear IM j cZ;go_wp2_with fail;refine gX.oo.mono ?_;rintro b n ⟨fB,fC,rfl,dY,d1,fg,hN,aE⟩;have d3:=dX.oo.trans (aE.mono (dX.oo.size));have gZ:L g<=1000000:=by rw[bq.oo];exact eZ
  have g0:=Q (Oa fB fC ay k l m (S aA i aC) (S a0 a4 a5) (S eW f eX) r g c n ⟨_,_,_,J⟩ eV.oo dz.oo gZ d3 dY d1);have fb:fB<(n:N)/\fC<(n:N):=⟨aR _ _ dY,d1.lt⟩
  have bJ:=fA.oo.bw aE;have d4:=s aE fy.oo;have dc:=s aE dW.oo;have fE:=aY aE (aR _ _ dW.oo) fz.oo;have g1:=gY.oo.bw aE;have fF:=fA.oo.lt;have hO:=dX.oo.size;have hP:=aE.size;obtain⟨G,cu⟩:∃G:iD,G=(hn g f,(f:I),ho g f):=⟨_,J⟩
  rw[<-cu]at bJ;have fH:gt (g.map (·.1)) f G:=by rw[cu];have:=gt.start g (f:I);rw[bq.oo]at this;exact this
  have d5:G.1.length=f:=by rw[cu];exact rn g f (by rw[bq.oo];exact aL _)
  have fI:=Q (λaG (hp:∀bA∈aG,bA∈f0 r (cF (g.map (·.1))))=>gt.fold (I9:=i) (I0:=r) (veh:=k) (cap:=l) (len:=m) aG (λbA h=>by obtain⟨cq,c0⟩:=ss r _ bA (hp bA h);exact⟨nN cq,nN c0⟩) G fH);have dd:H (hq i r k l m g=((f0 r (cF (g.map (·.1)))).foldl (fG i r k l m) G).1.filter λbL=>decide (bL≠[])):=Q (by unfold hq ro;rw[bq.oo,cu]);have g3:=Q (λ(w:W) (fJ:B (c:N) c w)=>eV.oo.bw fJ);have fK:=Q d3;have R:=Q bJ;change H _ at d4 dc fE g1 d5;clear d3 bJ;clear aE dY d1 cu fH ck cV a8 cW cX cY;go_wp2_with fail;refine nY J (enters_of func283 aT J) g0.oo (λ_=>rfl) (λaG bm de=>(∃aQ,cH (c:N) (d+1) d bm ay k l m (S aA i aC) (S a0 a4 a5) bH aQ (aG.foldl (fG i r k l m) G) de)/\M o n de/\∀a,bm a->o a\/(n:N)<=a) o (λaG bm de hS ⟨⟨aQ,IM⟩,be,bO⟩ fL=>⟨⟨aQ,IM.aO fL (λf b h=>h.2 b)⟩,be.trans fL I2 (λa e b=>absurd b.1 O),bO⟩) (λaG bm de ⟨⟨aQ,IM⟩,be,bO⟩ a b=>⟨IM.lt a b,λdf=>by have p:=IM.le a b;rcases df with df|df|df;omega;rcases bO a b with h|h;have:=fF a h;omega;omega;rcases bO a b with h|h;have:=fF a h;omega;omega⟩) ⟨⟨_,R.oo⟩,M.refl _ _,λa b=>.inl b⟩ ?round ?done;case round=>
   intro hT aG a bm w d6 e fM dg;obtain⟨⟨fN,IM⟩,be,d7⟩:=d6;obtain⟨hU,d8⟩:=e;obtain⟨b7,b8,b9⟩:=a;have fO:∀bA∈aG,bA∈f0 r (cF (g.map (·.1))):=λbA hp=>by rw[d8];exact List.mem_append_left _ hp
   obtain⟨dh,di⟩:=fI.oo aG fO;obtain⟨cv,dj⟩:=ss r _ (b7,b8,b9) (by rw[d8];exact List.mem_append_right _ D);have cv:=nN cv;have dj:=nN dj;have d9:(aG++[(b7,b8,b9)]).foldl (fG i r k l m) G=fG i r k l m (aG.foldl (fG i r k l m) G) (b7,b8,b9):=by rw[List.foldl_append];rfl
   obtain⟨⟨z,d',eb⟩,cw⟩:=K (aG.foldl (fG i r k l m) G);rw[<-cw]at IM dh di d9;simp only at di;rw[d5.oo]at di;obtain⟨cx,cy,bB,g4,cz,fP,fQ⟩:=tM w b7 b8 b9;obtain⟨bo,bV⟩:=K ((n:N)+1);rw[<-bV]at fM dg;have cA:¬o (d+1+1):=λb=>bi (bx.oo _ b) bK.oo.2
   have fR:=be.cell d4.oo cA;have g5:0<L z:=by obtain⟨a9,g6,_⟩:=dh.on _ cv;simp only at g6;omega
   obtain⟨JG,aV,ec⟩:∃JG aV,bH=S (A ⟨JG,0,Z⟩) (L z) aV:=by rcases bW IM.own with⟨_,g7⟩|⟨JG,Jv,b,_⟩;simp only at g7;omega;exact⟨JG,Jv,b⟩
   have cB:B (c:N) c w:=fK.oo.trans (be.bg O λa e b=>Y (R.oo.le a b));have g8:=Q (λ(cC:W) (hV:B (w:N) w cC\/True) (g9:cH (c:N) (d+1) d bm ay k l m (S aA i aC) (S a0 a4 a5) (S (A ⟨JG,0,Z⟩) (L z) aV) fN (z,d',eb) cC) (g':B (c:N) c cC)=>Ou (c:N) (d+1) d JG aV bm ay k l m aA i aC (S a0 a4 a5) fN z d' eb r b7 b8 b9 (g.map (·.1)) f cC g9 dh cv dj eZ gj (g3.oo cC g') O);have dk:=Q IM;have fS:=Q be;have cD:=Q cB;change H _ at cy bB d9 d7 bV;clear be cB;change H _ at ec dg;clear IM d8 fO dh di cv dj cw g5 cA;simp only[iC,List.zip_toArray,List.zip_cons_cons,List.zip_nil_left];gi_wp2;rw[cy.oo];refine⟨bB.oo,λcE bC=>?_⟩;rw[<-bV.oo]at bC;have dl:(w:N)≠bo:=O
   have cz:=bC.cell cz dl;have fP:=bC.cell fP dl;have fQ:=bC.cell fQ dl;have fT:d+1+1≠bo:=bi bV.oo bK.oo.1
   have hW:=bC.cell (s bB.oo fR) fT;have ed:=(dk.oo.bw bB.oo).aO bC (λa b b2=>dg.oo a b b2);have dm:M (λa=>a=bo) w cE:=(M.bw (I':=λ_=>False) bB.oo).trans bC (λ_ _ b=>b.elim) I2;have fU:B (c:N) c cE:=cD.oo.trans (dm.bg (cD.oo.size) λa e b=>Y bV.oo);rw[ec.oo]at ed;have hb:=Q (g8.oo cE (.inr trivial) ed fU);have fV:bo<cE.heap.size:=cg fM dm.size;have ee:=Q dm;change H _ at fV;clear dm;clear bC dl ed fU fT fR;gi_upto_region 10 with fail;refine jY jI dI ?_;go_wp2_with fail;refine mU hb.oo λdp ⟨ef,eg,eh,dq,ei⟩=>?_;rw[<-ec.oo,<-d9.oo]at eh;have fW:∃ej,((∃aQ,cH (c:N) (d+1) d ej ay k l m (S aA i aC) (S a0 a4 a5) bH aQ ((aG++[(b7,b8,b9)]).foldl (fG i r k l m) G) dp)/\M o n dp/\∀a,ej a->o a\/(n:N)<=a)/\M (λa=>bm a\/a=bo) w dp/\dp.heap[bo]? =cE.heap[bo]?/\∀a,ej a->bm a\/(w:N)<=a:=by have hX:=ee.oo.size;have hY:=fS.oo.size;refine⟨ef,⟨⟨eg,eh⟩,?_,λa b=>?_⟩,ee.oo.trans dq (λ_ _ b=>.inr b) (λ_ _ b=>.inl b),dq.block bo fV.oo (λb=>dg.oo bo b J),λa b=>(ei a b).imp_right λb=>O⟩;refine(fS.oo.trans ee.oo I2 (λa e b=>?_)).trans dq I2 (λa e b=>?_);have:=bV.oo;omega;rcases d7.oo a b with h|h;exact h;omega;rcases ei a b with h|h;exact d7.oo a h;exact .inr O
   change H _ at fW;clear eh dq ei;gi_wp2;have h:=fW.oo;rw[bV.oo]at h;exact h
  case done=>
   intro ef w d6 j fX;obtain⟨⟨eg,IM⟩,b',bO⟩:=d6;have cG:=(fI.oo _ (λbA h=>h)).2;rw[d5.oo]at cG;have dr:=dd.oo;obtain⟨⟨z,d',eb⟩,cw⟩:=K ((f0 r (cF (g.map (·.1)))).foldl (fG i r k l m) G);rw[<-cw]at IM cG dr;simp only at cG dr;obtain⟨cx,cy,bX,g4,fY,fZ⟩:=cP w (S Z 0 0);have cA:¬o (d+1+1):=λb=>bi (bx.oo _ b) bK.oo.2
   have ek:¬o ((c:N)+1):=λb=>bi (bx.oo _ b) cj.oo
   have hd:=s bX (b'.cell d4.oo cA);have f2:=s bX (b'.cell dc.oo ek);have f3:=aY bX (cg (aR _ _ dc.oo) b'.size) (b'.free fE.oo (aR _ _ dc.oo) ek);have cB:B (c:N) c w:=fK.oo.trans (b'.bg O λa e b=>Y (R.oo.le a b));obtain⟨P,u,ae,cp⟩:∃cq dR aV,bH=S cq dR aV:=vz
   have he:u=f:=by rcases bW IM.own with⟨p,fc⟩|⟨JG,Jv,p,_⟩;rw[cp]at p;simp only[bf]at p;simp only at fc;omega;rw[cp]at p;simp only[bf]at p;omega
   subst cp;subst he;have f4:=IM.bw bX;have hf:=f4.c6;have f5:(n:N)<w/\(c:N)+1<d/\(c:N)<=n/\(c:N)+1<(n:N):=by have:=(bM.1 j).1;have:=cj.oo;have:=bK.oo.1;omega
   have f6:∀a,(a<(c:N)\/a=(c:N)+1\/a=(n:N))->¬ef a:=λa e b=>by rcases e with e|e|e;have:=IM.le a b;omega;rcases bO a b with h|h;have p:=bx.oo a h;have:=bK.oo.2;omega;have:=bK.oo.1;have:=R.oo.lt _ R.oo.has.1;omega;exact fX a b e
   have f7:=(bX.block _ (bM.1 j).1).trans j;have el:bS 98 ba (λa=>a<(c:N)\/a=(c:N)+1\/a=(n:N)) cx (w:N) (S Z 0 0) [] ((z.take 0).filter λbL=>decide (bL≠[])) cx:=bS.start fY fZ (aS _ _);have cI:=cG;have dk:=Q IM;have hg:(w:N)<cx:=O
   have bB:=Q bX;have dd:=Q dr;have cD:=Q cB;change H _ at cy f6 f7 el f2 f3 f5;clear bX dr cB;change H _ at cI;clear IM f4 b' cw cG cA ek fX j fY fZ bO;go_upto_region 12 with fail;rw[cy.oo];obtain⟨ca,cc⟩:=K (w:N);rw[<-cc]at el hg⊢;change H _ at cc;go_wp2_with fail;change H _ at hd hf;go_loopw [56] (λa9 wr=>∃(v:N) (ds:V) (em:aP),a9=aa ac v/\v<=u/\bS 98 ba (λa=>a<(c:N)\/a=(c:N)+1\/a=(n:N)) cx ca ds em ((z.take v).filter λbL=>decide (bL≠[])) wr) (λa9 _=>u-(aw a9).toNat);exact⟨0,_,_,J,a3 _,el.oo⟩;case round=>
    obtain⟨v,ds,em,rfl,dE,x⟩:=hrel;obtain⟨ax,rfl⟩:=K wr;by_cases D5:v<u
    ·have en:B (w:N) w ax:=bB.oo.trans (by rw[<-cc.oo];exact x.bw);have cJ:=dk.oo.aO (M.bw (I':=λ_=>False) en) I2;obtain⟨JG,hh⟩:∃JG,P=A ⟨JG,0,Z⟩:=by rcases bW cJ.own with⟨b,_⟩|⟨JG,Jv,b,_⟩;simp only[bf]at b;omega;simp only[bf]at b;exact⟨JG,b.1⟩
     subst hh;have eo:v<L z:=by rw[cI.oo];exact D5
     obtain⟨br,cK,_⟩:=cJ.at_ (i:=v) eo;have cL:=cJ.row v eo;simp only at cK cL;obtain⟨bD,ep⟩:=K (eg.getD v undef);rw[<-ep]at br cK cL;obtain⟨eq,cM,er,rfl,es,_,_⟩:=cK.open;have bE:=Oz z v eo;have cN:=ym z v;have dt:aI ba (λa=>(a<(c:N)\/a=(c:N)+1\/a=(n:N))\/a=ca\/af ds=A a) ax (S eq cM er) (ah z v):=cL.step (aL _) (λ_ _ _=>rfl) (λa eu e=>by by_cases fJ:a<(w:N);rcases e with e|e|e;exact .inl (f6.oo a e);have:=cc.oo;omega;have p:=(bI x.own a e).1;have:=cc.oo;omega;exact .inl λb=>Y (dk.oo.lt a b));obtain⟨f8,ev⟩:=K (ah z v);obtain⟨hi,ew⟩:=K ((z.take v).filter λbL=>decide (bL≠[]));rw[<-ev]at es bE dt;rw[<-ew]at x bE cN;rw[cI.oo]at cN;have hZ:=aJ v;have h0:(v:I)<u:=O
     by_cases f9:cM=0
     ·subst f9;have:f8=[]:=dn.1 es;rw[am this,e']at bE;rw[<-bE]at x;have hj:=Q x;clear x;clear en cJ cK cL dt ep ev ew bE this;go_wp2;go_roundw;case rel=>exact⟨v+1,_,_,aK,O,hj.oo⟩
      simp only[aw];exact qx
     have hk:f8≠[]:=λb=>f9 (by rw[<-es,b];rfl);rw[ak hk]at bE;have h1:(0:I)<cM:=O
     obtain⟨bD,bZ,b0,rfl,hl,hm⟩:=x.form;obtain⟨f',ey,ez,hr,ga⟩:=d0 ax (S eq cM er);have cO:=x.next ez;have gb:=dt.bw ez;have hs:=Q (d2 ga);have cn:=x.cell;have co:=x.free;have ht:ca+1<=(f':N):=Y cO.lt
     have gc:=Q cO;have hu:=Q cO.cell;have hv:=Q cO.free;have hw:=Q bE;replace ey:=Q ey;change H _ at gb hl hm;clear bE;clear x en cJ cK cL dt ep ev ew ez hr ga cO;go_wp2_with (at_builtin;rw[ey.oo];refine fr J _ _ 93 98 (ao #[S Z 0 0]) 1 24 underlying93 lI J av av J f' (ca+1) (S bD bZ b0) (L hi) em [S eq cM er] (ax:N) J J hs.oo J eP gc.oo.own O ht ?_);intro g2 Jv bF p gd bG bu hx c7;have eA:=gc.oo.push gb.oo p gd bu;rw[<-hw.oo]at eA;have h2:C bF ⟨ca,0,Z⟩=A (S bD bZ b0):=bk bG (fD _) hu.oo;have h3:aH bF ⟨ca,0,Z⟩=F:=ex bG (fD _) hv.oo;change H _ at eA;clear p gd bG bu hx c7 cn co;go_wp2;go_roundw;case rel=>exact⟨v+1,_,_,aK,O,eA.oo⟩
     simp only[aw];exact qx
    have hy:v=u:=O
    subst hy;have eB:z.take v=z:=cm (by rw[cI.oo];exact aL _);rw[eB,<-dd.oo]at x;obtain⟨bD,bZ,b0,rfl,hz,hA⟩:=x.form;have cN:=ym z v;rw[eB,<-dd.oo,cI.oo]at cN;have hB:=f5.oo;have hC:=cc.oo;have hD:=bk x.bw O f2.oo;have h4:=ex x.bw O f3.oo;obtain⟨bF,cd⟩:=K (aj ax ⟨(c:N)+1,0,Z⟩ (S bD bZ b0));obtain⟨du,dv⟩:=K (bF.putObj (n:N) (.deferred Z));have hE:(bF:N)=ax:=by rw[cd];simp[aj]
    have ge:bF.heap[(n:N)]? =A (.deferred (A [])):=by rw[cd,Below.heap_setCell _ _ _ _ aF];exact(x.bw.block _ O).trans f7.oo
    have cQ:M (λa=>a=(n:N)) bF du:=by rw[dv];exact hc _ _ _
    have dw:M (λa=>a=(c:N)+1) ax bF:=by rw[cd];exact M.grown (bn _ _ _) (λa b=>X b.symm)
    have gf:aI bb (λa=>a<(c:N)) du (S bD bZ b0) (hq i r k l m g):=(x.Wp (λa b=>by rcases b with b|b|b<;>omega) O).step (a1 dw.size cQ.size) (λa eu gg=>(cQ.block a O (λb=>gg (.inr (.inr b)))).trans (dw.block a eu (λb=>gg (.inr (.inl b))))) (λa eu b=>.inl b);have gh:C du ⟨(c:N)+1,0,Z⟩=A (S bD bZ b0):=cQ.cell (by rw[cd];exact bP _ _ _ (by rw[hD];rfl)) O;have gi:B (c:N) c du:=by have p:B (c:N) c ax:=(cD.oo.trans (bB.oo.mono cD.oo.size)).trans (x.bw.mono O);exact(p.trans (dw.bg p.size λa e b=>O)).trans (cQ.bg (Y p.size) λa e b=>O)
    have ck:=x.cell;change H _ at gf gi ge gh;change H _ at cd dv;clear x eB cQ dw cN hB hC hz hA hE;go_wp2_with fail;try rw[<-cd.oo]
    have cz:=gh.oo;rw[dv.oo]at cz;exact kK (Kl:=ao #[S bD bZ b0]) ge.oo (by simp[results,results254,go_sem,cz]) (by rw[<-dv.oo];exact⟨_,_,_,J,gf.oo,gi.oo⟩)
end
def OB(a:W)(f:ag)(g:bp)(b:W):Prop:=∃c d e,g=aq (ao #[S c d e])/\aW 89 b a (S c d e) f/\B a a b
def yn(d:V)(b:ag)(a:W)(e:ba a d b)(s:L b<=1000000):ap ab 249 #[d] a (l1 a (cF (b.map (·.1)))):=by have m:=Q (o8 d b a e O);obtain⟨t,u,v,rfl,_,_,_⟩:=e.open;clear e;go_in;go_wp2_with fail;refine mE m λf n ⟨c,g⟩=>?_;have o:=Q (rg n _ a f c aF);have h:=c.lt;obtain⟨w,x,y,rfl,_,_,_⟩:=c.ints.open;have i:=Q g;change H _ at h;clear g;clear c;go_wp2_with fail;refine mU o λp ⟨j,k⟩=>?_;have l:B a a p:=i.trans ((aS _ f).grown k i.size (λq r=>(h q r).1));change H _ at j l;clear k;go_wp2;go_ret;exact⟨_,J,j,l⟩
def kX(a:ad):Bool:= !h5 a (L a-1)
def yo(o:V)(b:ad)(f:W)(p:aX f o b)(y:L b<=4000000000000):ap ab 248 #[o] f (ir f (kX b)):=by
 obtain⟨M,c,P,rfl,q,_,j⟩:=p.open;have R:c<=4000000000000:=O
 have r:H (kX b= !h5 b (c-1)):=Q (by rw[<-q];rfl);generalize kX b=t at*;change H _ at j;clear p y q;go_in;go_wp2;go_loopw [3] (λk wr=>∃(a:N),k=aa ac ((a:I)+1)/\a<=c-1/\h5 b a=T/\B f f wr) (λk _=>c+1-(aw k).toNat);exact⟨0,J,a3 _,J,aS _ _⟩;obtain⟨a,rfl,U,i,d⟩:=hrel;obtain⟨Y,rfl⟩:=K wr;have l:=Q d;change H _ at i;have ag:(a:I)+1<=4000000000001:=O
 by_cases z:a+1<c
 ·obtain⟨ah,ai,rfl,u⟩:=j a O;have⟨ak,al,v,f1⟩:=j (a+1) z;simp only[a2,bN,bT]at v;obtain⟨rfl,rfl⟩:=v;have u:=s d u;have f1:=s d f1;have w:=Q (rh b a);have am:=aJ a;have an:(a:I)<c:=by omega
  have ar:(a:I)+1<(c:I):=O
  have av:(0:I)<=a+1:=O
  have ax:((a:I)+1).toNat=a+1:=O
  have x:IntKind.i64.wrap ((a:I)+1-1)=(a:I):=by rw[hf _ O];omega
  generalize ae b a=m at*;generalize ae b (a+1)=n at*;clear d;by_cases e:n=m
  ·have D:(n==m)=T:=by simp[e]
   have g:H (t=T):=Q (by rw[r,ya b (a+1) (c-1) (by rw[w,i];simp[e]) O];rfl);have h:=l.oo;clear e;go_upto_region 4 with fail;go_quiet (fail);clear x;go_wp2;go_ret;rw[g];exact⟨J,by first|exact h.drew|exact eb h _|exact h⟩
  have D:(n==m)=F:=X e
  have g:H (h5 b (a+1)=T):=Q (by rw[w,i];simp[e]);have G:a+1<=c-1:=O
  clear e;go_upto_region 4 with fail;go_quiet (fail);clear x;go_wp2;go_roundw;case rel=>exact⟨a+1,aK,G,g,by first|exact eb l _|exact l⟩
  simp[aw];omega
 have g:H (t=F):=Q (by rw[r,show c-1=a by omega,i];rfl);have ay:decide ((a:I)+1<(c:I))=F:=aF
 have h:=d;clear d;go_wp2;go_ret;rw[g];exact⟨J,h⟩
def rp(d e:I)(b:W):ap ab 247 #[ao #[d,e]] b (OB b [(d,e)]):=by
 have⟨c,o,j,p,r,t⟩:=eU b d e;obtain⟨a,u,g,G,v,w⟩:∃a,c.alloc (az #[S Z 0 0] 98)=a/\B c.heap.size c a/\a.heap.size=c.heap.size+1/\C a ⟨c.heap.size,0,Z⟩=A (S Z 0 0)/\aH a ⟨c.heap.size,0,Z⟩=F:=⟨_,J,aN _ _,D,aE,aE⟩
 have⟨i,k,h,K,u0,u1⟩:=eU a d e;have x:aW 89 i a.heap.size (S (A ⟨a.heap.size,0,Z⟩) 1 1) [(d,e)]:=by rw[<-k];exact⟨lC,.inr ⟨a.heap.size,1,_,J,aL _,heap_alloc_last a _,D,by simp[maxLen],D,lC⟩⟩
 have ad:=s g r;have ae:=s g t;have y:=s h v;have P:=aY h O w;rw[p]at y P;have Q:b.heap.size+2=a.heap.size:=O
 have l:M (λm=>m=b.heap.size+1) i (aj i ⟨b.heap.size+1,0,Z⟩ (S (A ⟨a.heap.size,0,Z⟩) 1 1)):=M.grown (bn _ _ _) (λm f=>X f.symm);have z:(aj i ⟨b.heap.size+1,0,Z⟩ (S (A ⟨a.heap.size,0,Z⟩) 1 1)).cell? ⟨b.heap.size+1,0,Z⟩=A (S (A ⟨a.heap.size,0,Z⟩) 1 1):=bP _ _ _ (by rw[y];rfl);have n:=U ((x.aO l (λag f=>vC)).mono (B':=b.heap.size) O) ((q j (q g h)).trans (l.bg (J0:=b.heap.size) (Y ((q j (q g h)).size)) λm ak f=>O));change H _ at o u k n z;clear j g h r t v w u0 u1 x l p G K Q;go_in;go_upto_region 1 with fail;rw[o,u];go_wp2_with (rw[k]);have R:=z.oo;exact b0 (v:=ao #[S (A ⟨a.heap.size,0,Z⟩) 1 1]) (by simp[results,results247,go_sem,R]) J ⟨_,_,_,J,n.1,n.2⟩
def iE(b:N)(c:ai)(d e:I)(f:ag):I:=
 match f.find? (λa=>decide (cf b c d e [a]≠0))with
  |some a=>cf b c d e [a]
  |none=>if kX (cF (f.map (·.1)))then 11 else 0
def yp{f:Type}{c:f->Bool}(b:E f)(a:N)(g:a<L b)(h:∀d,(i:d<a)->c (b[d]' O)=F)(e:c b[a]=T):b.find? c=A b[a]:=by
 induction b generalizing a with
  |nil=>simp at g
  |cons j b k=>
   match a with
    |0=>simp at e;simp[List.find?,e]
    |a+1=>have l:c j=F:=h 0 O;rw[List.find?_cons_of_neg (by rw[l];simp)];simpa using k a (X g) (λd i=>h (d+1) O) (X e)
def OC{I9:N}{I0:ai}{Jv JV:I}{J8:ag}(a:N)(c:a<L J8)(e:∀b,b<a->cf I9 I0 Jv JV [al J8 b]=0)(d:cf I9 I0 Jv JV [al J8 a]≠0):iE I9 I0 Jv JV J8=cf I9 I0 Jv JV [al J8 a]:=by unfold iE;rw[yp J8 a c (λb f=>by have:=e b f;rw[jP O]at this;simp[this]) (by rw[jP c]at d;simpa using d),jP c]
def OD{I9:N}{I0:ai}{Jv JV:I}{J8:ag}(d:∀a,a<L J8->cf I9 I0 Jv JV [al J8 a]=0):iE I9 I0 Jv JV J8=if kX (cF (J8.map (·.1)))then 11 else 0:=by
 unfold iE;have:J8.find? (λb=>decide (cf I9 I0 Jv JV [b]≠0))=Z:=List.find?_eq_none.2 λb e=>by obtain⟨a,c,rfl⟩:=gP e;have:=d a c;rw[jP c]at this;simp[this]
 rw[this]
def OE(w x f g:I)(y:bz)(c z:N)(o G:V)(d:ai)(b:ag)(h:W)(a6:c<=1000000)(aD:bt h o d)(aE:ba h G b)(a8:L b<=1000000):ap ab 227 #[ao #[w,x,f,g,S y c z,o],G] h (fW h (iE c d f g b)):=by
 have⟨M,aF,p,bH,a9⟩:=bR h w x f g (S y c z) o;have bb:=Q (λP be bf R bg=>pt w x f g y c z o be d [bf] P ((aD.bw p).bw R) bg a6 D);have bh:=Q (λP R=>yn G b P ((aE.bw p).bw R) a8);obtain⟨bI,bJ,bK,rfl,_,_,_⟩:=aD.open;obtain⟨bL,i,bM,rfl,bi,_,aG⟩:=(aE.bw p).open;have bN:i<=1000000:=O
 have bl:=Q (λa (bm:a<i)=>OC (I9:=c) (I0:=d) (Jv:=f) (JV:=g) (J8:=b) a O);have bq:=Q (λl=>OD (I9:=c) (I0:=d) (Jv:=f) (JV:=g) (J8:=b) (by rw[bi];exact l));have aI:(h:N)<M:=O
 have r:=Q p;have aL:=Q a9;change H _ at aF aG;go_in;go_upto_region 1 with fail;rw[aF];have⟨bO,aN⟩:=K (h:N);rw[<-aN]at aL aI⊢;change H _ at aN;go_wp2;go_loopw [10] (λU wr=>∃a:N,U=(a:I)/\a<=i/\(∀e,e<a->cf c d f g [al b e]=0)/\B M M wr) (λU _=>i-(aw U).toNat);exact⟨0,J,a3 _,λe aO=>absurd aO (fx _),aS _ _⟩;obtain⟨a,rfl,bm,l,j⟩:=hrel;obtain⟨aP,rfl⟩:=K wr;by_cases Ch:a<i
 ·obtain⟨bP,bS,rfl,m,f1⟩:=aG a Ch;have m:=bk j (aR _ _ m) m;have f1:=bk j (aR _ _ f1) f1;have bT:=aJ a;have bU:(a:I)<i:=by omega
  have s:=bl a Ch l;have⟨⟨ad,ae⟩,ah⟩:=K (al b a);rw[<-ah]at m f1 s;simp only at m f1;have⟨t,aQ,ak,bV,bW,bX⟩:=eU aP ad ae;have aT:=j.trans (ak.mono j.size);have⟨bZ,b0,b2,b3,b5,b6⟩:=aL.lower aT aI;have br:=Q l;have n:=Q aT;change H _ at aQ;change H _ at s;change H _ at ah;go_upto_region 4 with fail;rw[aQ];refine bv [100,101,202,203,4] ?_;iterate 2 refine mS ?_
  refine aU λbs am=>?_;go_simp;refine mF (rp ad ae t.drew) λaV b7 b8 b9 ⟨bu,ar⟩=>?_;have av:=q (an t) ar;refine am _ _ (.mk av) ?_;have ax:=n.trans (av.mono n.size);have aW:=Q (bb.oo aV _ _ ax bu.di);have⟨ay,aA⟩:=K (cf c d f g [(ad,ae)]);rw[<-aA]at aW s;change H _ at aA;refine aU λbs am=>?_;go_simp;refine mU aW λb' aX=>?_;have aY:=ax.trans (aX.mono ax.size);refine am _ _ (.mk (q av aX)) ?_;refine mS ?_;refine bc ?_;by_cases u:ay=0
  ·have bx:(ay !=0)=F:=by simpa using u
   have bA:=Q aY;have bB:H (∀e,e<a+1->cf c d f g [al b e]=0):=Q (λe aO=>by
    by_cases bC:e<a;exact br e bC;have:e=a:=O
    subst this;rw[<-ah,<-aA,u])
   go_wp2;go_roundw;case rel=>exact⟨a+1,aK,O,bB,bA⟩
   exact bY
  have bx:(ay !=0)=T:=X u
  have a0:=s u;have k:=r.trans (aY.mono r.size);change H _ at a0 k;go_wp2;go_ret;rw[a0];exact⟨J,k⟩
 have bD:a=i:=O
 subst bD;have v:=bq l;have bE:=Q (bh.oo aP j);have⟨bF,aC⟩:=K (kX (cF (b.map (·.1))));rw[<-aC]at v;have a1:(cF (b.map (·.1))).length<=1000000:=by rw[ol,de];omega
 have a2:=Q j;change H _ at v aC a1;go_wp2_with fail;refine mE bE λt bG ⟨a4,ak⟩=>?_;have a5:=Q (yo bG _ t a4.ints (Y a1.oo));rw[<-aC]at a5;obtain⟨ca,cc,cd,rfl,_,_,_⟩:=a4.ints.open;have n:=Q (a2.oo.trans (ak.mono a2.size));go_wp2_with fail;refine mU a5 λaV ar=>?_;have k:=r.trans ((n.trans (ar.mono n.size)).mono r.size);change H _ at k;cases bF with
  |true=>go_wp2;go_ret;rw[v];exact⟨J,k⟩
  |false=>go_wp2;go_ret;rw[v];exact⟨J,k⟩
section
def gu(aa5:ar):ad:=cF (aa5.flatten.map (·.1))
def j5(aa1:N)(aa2:ai)(aa3 aa4:I)(aa5:ar)(a:N):ad:=(aa5.take a).map λb=>cf aa1 aa2 aa3 aa4 b
def fh(aa1:N)(aa2:ai)(aa3 aa4:I)(aa5:ar)(a:N):N:=((aa5.take a).filter λb=>decide (cf aa1 aa2 aa3 aa4 b≠0)).length
def j6(aa5:ar)(a:N):ad:=(aa5.take a).map gf
def j7(aa2:ai)(aa5:ar)(a:N):ad:=(aa5.take a).map (b2 aa2)
def nd(aa5:ar)(a:N)(b:a<L aa5):aa5.take (a+1)=aa5.take a++[ah aa5 a]:=by rw[eR b];simp[ah,b]
def OF(aa1:N)(aa2:ai)(aa3 aa4:I)(aa5:ar)(a:N)(b:a<L aa5):j5 aa1 aa2 aa3 aa4 aa5 (a+1)=j5 aa1 aa2 aa3 aa4 aa5 a++[cf aa1 aa2 aa3 aa4 (ah aa5 a)]:=by unfold j5;rw[nd aa5 a b,ck];rfl
def OG(aa1:N)(aa2:ai)(aa3 aa4:I)(aa5:ar)(a:N)(b:a<L aa5):fh aa1 aa2 aa3 aa4 aa5 (a+1)=fh aa1 aa2 aa3 aa4 aa5 a+if cf aa1 aa2 aa3 aa4 (ah aa5 a)=0 then 0 else 1:=by unfold fh;rw[nd aa5 a b,h1,bL];by_cases c:cf aa1 aa2 aa3 aa4 (ah aa5 a)=0<;>simp[c]
def yq(aa1:N)(aa2:ai)(aa3 aa4:I)(aa5:ar)(a:N):fh aa1 aa2 aa3 aa4 aa5 a<=L aa5:=a1 (List.length_filter_le _ _) (by rw[dd];omega)
def OH(aa5:ar)(a:N)(b:a<L aa5):j6 aa5 (a+1)=j6 aa5 a++[gf (ah aa5 a)]:=by unfold j6;rw[nd aa5 a b,ck];rfl
def OI(aa2:ai)(aa5:ar)(a:N)(b:a<L aa5):j7 aa2 aa5 (a+1)=j7 aa2 aa5 a++[b2 aa2 (ah aa5 a)]:=by unfold j7;rw[nd aa5 a b,ck];rfl
def yr:(ab.info? 28).map (λa=>(a.zero,a.size,a.bytes))=A (A (aa ac 0),1,8):=by kernel_rfl
abbrev pu(aaT f1 aaU aaV aaW aaX aaY aaZ:V)(aa0:Bool)(aba:V)(a:I)(abb abc:V):aP:=[aaT,f1,aaU,aaV,aaW,aaX,aaY,aaZ,au aa0,aba,a,abb,abc]
abbrev tV:aP:=[(0:I),(0:I),(0:I),(0:I),S Z 0 0,S Z 0 0,S Z 0 0,S Z 0 0,au F,S Z 0 0,(0:I),S Z 0 0,S Z 0 0]
def rq(aaR:W):∃a,aaR.alloc (az #[(0:I),(0:I),(0:I),(0:I),S Z 0 0,S Z 0 0,S Z 0 0,S Z 0 0,au F,S Z 0 0,(0:I),S Z 0 0,S Z 0 0] 353)=a/\B aaR aaR a/\a.heap.size=(aaR:N)+1/\ax a aaR tV/\∀b,b<13->aH a ⟨aaR,b,Z⟩=F:=⟨_,J,aN _ _,D,ax.new aaR tV _,λb _=>by simp[go_sem]⟩
def rr(aaR:W)(aaT f1 aaU aaV aaW aaX aaY aaZ u8 aba u10 abb abc:V):∃a,aaR.alloc (az #[aaT,f1,aaU,aaV,aaW,aaX,aaY,aaZ,u8,aba,u10,abb,abc] 353)=a/\B aaR aaR a/\a.heap.size=(aaR:N)+1/\ax a aaR [aaT,f1,aaU,aaV,aaW,aaX,aaY,aaZ,u8,aba,u10,abb,abc]:=⟨_,J,aN _ _,D,ax.new aaR [aaT,f1,aaU,aaV,aaW,aaX,aaY,aaZ,u8,aba,u10,abb,abc] _⟩
def ax.inst{aaR:W}{b:N}{aaT f1 aaU aaV aaW aaX:V}{c:aP}(a:ax aaR b (aaT::f1::aaU::aaV::aaW::aaX::c)):ci aaR b aaT f1 aaU aaV aaW aaX:=⟨a 0 _ J,a 1 _ J,a 2 _ J,a 3 _ J,a 4 _ J,a 5 _ J⟩
def ax.bl{b:aD}{aaR aaS:W}{a:N}{c:aP}(d:ax aaR a c)(e:M b aaR aaS)(f:¬b a):ax aaS a c:=λg h i=>e.cell (d g h i) f
def jg(aaR:W)(a:N)(u0 u1 u2 u3 u4 u5 u6 u7 u8 u9 u10 u11 u12:V):W:=(((((((((((((aj aaR a u0).setCell ⟨a,1,Z⟩ u1).setCell ⟨a,2,Z⟩ u2).setCell ⟨a,3,Z⟩ u3).setCell ⟨a,4,Z⟩ u4).setCell ⟨a,5,Z⟩ u5).setCell ⟨a,6,Z⟩ u6).setCell ⟨a,7,Z⟩ u7).setCell ⟨a,8,Z⟩ u8).setCell ⟨a,9,Z⟩ u9).setCell ⟨a,10,Z⟩ u10).setCell ⟨a,11,Z⟩ u11).setCell ⟨a,12,Z⟩ u12)
def ys{aaR:W}{o:N}{a:aP}(p:ax aaR o a)(q:L a=13)(u0 u1 u2 u3 u4 u5 u6 u7 u8 u9 u10 u11 u12:V):ax (jg aaR o u0 u1 u2 u3 u4 u5 u6 u7 u8 u9 u10 u11 u12) o [u0,u1,u2,u3,u4,u5,u6,u7,u8,u9,u10,u11,u12]:=by
 obtain⟨b,c,d,e,f,g,h,i,j,k,l,m,n,rfl⟩:∃b c d e f g h i j k l m n,a=[b,c,d,e,f,g,h,i,j,k,l,m,n]:=by
  match a,q with
   |[b,c,d,e,f,g,h,i,j,k,l,m,n],_=>exact⟨b,c,d,e,f,g,h,i,j,k,l,m,n,J⟩
 exact(((((((((((((p.set 0 u0 D).set 1 u1 D).set 2 u2 D).set 3 u3 D).set 4 u4 D).set 5 u5 D).set 6 u6 D).set 7 u7 D).set 8 u8 D).set 9 u9 D).set 10 u10 D).set 11 u11 D).set 12 u12 D)
def tW(aaR:W)(a:N)(u0 u1 u2 u3 u4 u5 u6 u7 u8 u9 u10 u11 u12:V):M (λf=>f=a) aaR (jg aaR a u0 u1 u2 u3 u4 u5 u6 u7 u8 u9 u10 u11 u12):=by
 have g:∀(b:W) (c:N) (d:V),M (λe=>e=a) b (aj b ⟨a,c,Z⟩ d):=λb c d=>M.grown (bn b ⟨a,c,Z⟩ d) λe h=>X h.symm
 unfold jg;repeat(refine M.trans ?_ (g _ _ _) I2 I2)
 exact M.refl _ _
def OJ(aaR:W)(b:N)(u0 u1 u2 u3 u4 u5 u6 u7 u8 u9 u10 u11 u12:V)(a:bQ):(jg aaR b u0 u1 u2 u3 u4 u5 u6 u7 u8 u9 u10 u11 u12).frozen? a=aH aaR a:=by unfold jg;simp only[bs]
structure dO(gk c:N)(n:W)(o f1 p q r s t u:V)(v:Bool)(i:N)(g:ai)(j k:I)(d:ar)(l w x y:N)(b:W)(h e f:V):Prop where
 aA:ax b gk (pu o f1 p q r s t u v h (fh i g j k d w) e f)
 bH:∀m,m<13->aH b ⟨gk,m,Z⟩=F
 o9:b.ownsRow c 28 1 h l ((j5 i g j k d l).map (aa ac))
 gv:ay b c e (j6 d x)
 gw:ay b c f (j7 g d y)
 n1:∀a,af h=A a->af e≠A a/\af f≠A a
 n2:∀a,af e=A a->af f≠A a
 gB:gk<c/\c<=(b:N)
 aO:M (λa=>a=gk\/c<=a) n b
section
variable{gk aaP:N}{aaQ aaR aaS:W}{aaT f1 aaU aaV aaW aaX aaY aaZ:V}{aa0:Bool}{aa1:N}{aa2:ai}{aa3 aa4:I}{aa5:ar}{aa6 aa7 aa8 aa9:N}{aba abb abc:V}
def dO.next(a:dO gk aaP aaQ aaT f1 aaU aaV aaW aaX aaY aaZ aa0 aa1 aa2 aa3 aa4 aa5 aa6 aa7 aa8 aa9 aaR aba abb abc)(b:B aaR aaR aaS):dO gk aaP aaQ aaT f1 aaU aaV aaW aaX aaY aaZ aa0 aa1 aa2 aa3 aa4 aa5 aa6 aa7 aa8 aa9 aaS aba abb abc:=⟨a.aA.bw b,λc d=>aY b a.aA.lt (a.bH c d),c3 a.o9 (M.bw (I':=λ_=>False) b) I2,a.gv.bw b,a.gw.bw b,a.n1,a.n2,⟨a.gB.1,a1 a.gB.2 b.size⟩,a.aO.trans (M.bw (I':=λ_=>False) b) I2 (λ_ _ f=>f.elim)⟩
def dO.bad(b:dO gk aaP aaQ aaT f1 aaU aaV aaW aaX aaY aaZ aa0 aa1 aa2 aa3 aa4 aa5 aa6 aa7 aa8 aa9 aaR aba abb abc){kb':N}:dO gk aaP aaQ aaT f1 aaU aaV aaW aaX aaY aaZ aa0 aa1 aa2 aa3 aa4 aa5 aa6 kb' aa8 aa9 (aj aaR ⟨gk,10,Z⟩ (fh aa1 aa2 aa3 aa4 aa5 kb')) aba abb abc:=by
 have d:M (λa=>a=gk) aaR (aj aaR ⟨gk,10,Z⟩ (fh aa1 aa2 aa3 aa4 aa5 kb')):=M.grown (bn _ _ _) (λk e=>X e.symm);have f:∀{g:V},(∀a,af g=A a->aaP<=a)->∀a,af g=A a->¬a=gk:=λh a c e=>bi (h a c) b.gB.1
 exact⟨b.aA.set 10 _ D,λi j=>by rw[bs];exact b.bH i j,c3 b.o9 d (f λa c=>(bI b.o9 a c).1),b.gv.bl d (f λa c=>(b.gv.lt a c).1),b.gw.bl d (f λa c=>(b.gw.lt a c).1),b.n1,b.n2,⟨b.gB.1,by simpa[aj]using b.gB.2⟩,b.aO.trans d I2 (λ_ _ e=>.inl e)⟩
def dO.grow(b:dO gk aaP aaQ aaT f1 aaU aaV aaW aaX aaY aaZ aa0 aa1 aa2 aa3 aa4 aa5 aa6 aa7 aa8 aa9 aaR aba abb abc){v:V}{c:N}(h:v=aba\/v=abb\/v=abc)(i:aaR.grownBy aaS (af v))(j:af v=A c\/c=aaR):M (λa=>aaP<=a) aaR aaS/\(∀d,d=aba\/d=abb\/d=abc->d≠v\/True)/\aaP<=c:=by
 have f:∀a,af v=A a->aaP<=a:=λa e=>by rcases h with rfl|rfl|rfl;exact(bI b.o9 a e).1;exact(b.gv.lt a e).1;exact(b.gw.lt a e).1
 refine⟨M.grown i f,λ_ _=>.inr trivial,?_⟩;rcases j with g|g;exact f c g;have:=b.gB.2;omega
def dO.Wq{e Ju:N}(d:dO gk aaP aaQ aaT f1 aaU aaV aaW aaX aaY aaZ aa0 aa1 aa2 aa3 aa4 aa5 aa6 aa7 aa8 aa9 aaR aba abb abc)(t:aaS.ownsRow aaP 28 1 (S (A e) (aa6+1) Ju) (aa6+1) ((j5 aa1 aa2 aa3 aa4 aa5 (aa6+1)).map (aa ac)))(h:aaR.grownBy aaS (af aba))(o:af aba=A e\/e=aaR):dO gk aaP aaQ aaT f1 aaU aaV aaW aaX aaY aaZ aa0 aa1 aa2 aa3 aa4 aa5 (aa6+1) aa7 aa8 aa9 (aj aaS ⟨gk,9,Z⟩ (S (A e) (aa6+1) Ju)) (S (A e) (aa6+1) Ju) abb abc:=by
 have⟨_,_,H⟩:=d.grow (v:=aba) D h o;have f:=M.grown h λ_ b=>b;have g:M (λa=>a=gk) aaS (aj aaS ⟨gk,9,Z⟩ (S (A e) (aa6+1) Ju)):=M.grown (bn _ _ _) (λO b=>X b.symm);have u:=λa c=>(bI d.o9 a c)
 have i:=λa c=>(d.gv.lt a c)
 have j:=λa c=>(d.gw.lt a c)
 have p:=d.gB;have q:∀a,af aba=A a->aaP<=a/\a<(aaR:N):=λa c=>by first|exact u a c|exact i a c|exact j a c
 have r:¬af aba=A gk:=λb=>Y (q gk b)
 have s:∀{k:V},(∀a,af k=A a->aaP<=a/\a<(aaR:N))->(∀a,af k=A a->af aba≠A a)->∀a,af k=A a->(S (A (⟨e,0,Z⟩:bQ)) (aa6+1) Ju).ownBlock≠A a:=λv w a c b=>by simp only[af,a2]at b;subst b;rcases o with b|b;exact w _ c b;have:=v _ c;omega
 have x:∀a,(S (A (⟨e,0,Z⟩:bQ)) (aa6+1) Ju).ownBlock=A a->¬a=gk:=λa c b=>by simp only[af,a2]at c;omega
 have y:=(d.aO.trans f I2 (λa _ b=>.inr (q a b).1)).trans g I2 (λ_ _ b=>.inl b);exact⟨by have:=(d.aA.bl f r).set 9 (S (A e) (aa6+1) Ju) D;simpa using this,(λz G=>by rw[bs];exact f.free (d.bH z G) d.aA.lt r),c3 t g x,(d.gv.bl f (λa c b=>(d.n1 a b).1 c)).bl g (λa c b=>Y (i a c)),(d.gw.bl f (λa c b=>(d.n1 a b).2 c)).bl g (λa c b=>Y (j a c)),λa c=>⟨λb=>s i (λl m n=>(d.n1 l n).1 m) a b c,λb=>s j (λl m n=>(d.n1 l n).2 m) a b c⟩,d.n2,⟨p.1,by simp[aj];exact a1 p.2 h.size⟩,y⟩
def dO.Wr{e Ju:N}(d:dO gk aaP aaQ aaT f1 aaU aaV aaW aaX aaY aaZ aa0 aa1 aa2 aa3 aa4 aa5 aa6 aa7 aa8 aa9 aaR aba abb abc)(H:aa8<L aa5)(s:ay aaS aaP (S (A e) (aa8+1) Ju) (j6 aa5 (aa8+1)))(h:aaR.grownBy aaS (af abb))(n:af abb=A e\/e=aaR):dO gk aaP aaQ aaT f1 aaU aaV aaW aaX aaY aaZ aa0 aa1 aa2 aa3 aa4 aa5 aa6 aa7 (aa8+1) aa9 (aj aaS ⟨gk,11,Z⟩ (S (A e) (aa8+1) Ju)) aba (S (A e) (aa8+1) Ju) abc:=by
 have⟨_,_,K⟩:=d.grow (v:=abb) D h n;have f:=M.grown h λ_ c=>c;have g:M (λa=>a=gk) aaS (aj aaS ⟨gk,11,Z⟩ (S (A e) (aa8+1) Ju)):=M.grown (bn _ _ _) (λP c=>X c.symm);have i:=λa b=>(bI d.o9 a b)
 have t:=λa b=>(d.gv.lt a b)
 have j:=λa b=>(d.gw.lt a b)
 have o:=d.gB;have p:∀a,af abb=A a->aaP<=a/\a<(aaR:N):=λa b=>by first|exact i a b|exact t a b|exact j a b
 have q:¬af abb=A gk:=λc=>Y (p gk c)
 have r:∀{k:V},(∀a,af k=A a->aaP<=a/\a<(aaR:N))->(∀a,af k=A a->af abb≠A a)->∀a,af k=A a->(S (A (⟨e,0,Z⟩:bQ)) (aa8+1) Ju).ownBlock≠A a:=λu v a b c=>by simp only[af,a2]at c;subst c;rcases n with c|c;exact v _ b c;have:=u _ b;omega
 have w:∀a,(S (A (⟨e,0,Z⟩:bQ)) (aa8+1) Ju).ownBlock=A a->¬a=gk:=λa b c=>by simp only[af,a2]at b;omega
 have x:=(d.aO.trans f I2 (λa _ c=>.inr (p a c).1)).trans g I2 (λ_ _ c=>.inl c);exact⟨by have:=(d.aA.bl f q).set 11 (S (A e) (aa8+1) Ju) D;simpa using this,(λy z=>by rw[bs];exact f.free (d.bH y z) d.aA.lt q),c3 (c3 d.o9 f (λa b c=>(d.n1 a b).1 c)) g (λa b c=>Y (i a b)),s.bl g w,(d.gw.bl f (λa b c=>d.n2 a c b)).bl g (λa b c=>Y (j a b)),λa b=>⟨λc=>r i (λl m=>(d.n1 l m).1) a b c,(d.n1 a b).2⟩,λa b c=>r j (λl m G=>d.n2 l G m) a c b,⟨o.1,by simp[aj];exact a1 o.2 h.size⟩,x⟩
def dO.Ws{e Ju:N}(d:dO gk aaP aaQ aaT f1 aaU aaV aaW aaX aaY aaZ aa0 aa1 aa2 aa3 aa4 aa5 aa6 aa7 aa8 aa9 aaR aba abb abc)(z:aa9<L aa5)(s:ay aaS aaP (S (A e) (aa9+1) Ju) (j7 aa2 aa5 (aa9+1)))(h:aaR.grownBy aaS (af abc))(n:af abc=A e\/e=aaR):dO gk aaP aaQ aaT f1 aaU aaV aaW aaX aaY aaZ aa0 aa1 aa2 aa3 aa4 aa5 aa6 aa7 aa8 (aa9+1) (aj aaS ⟨gk,12,Z⟩ (S (A e) (aa9+1) Ju)) aba abb (S (A e) (aa9+1) Ju):=by
 have⟨_,_,G⟩:=d.grow (v:=abc) D h n;have f:=M.grown h λ_ c=>c;have g:M (λa=>a=gk) aaS (aj aaS ⟨gk,12,Z⟩ (S (A e) (aa9+1) Ju)):=M.grown (bn _ _ _) (λK c=>X c.symm);have i:=λa b=>(bI d.o9 a b)
 have j:=λa b=>(d.gv.lt a b)
 have o:=d.gB;have p:∀a,af abc=A a->aaP<=a/\a<(aaR:N):=λa b=>by first|exact i a b|exact j a b|exact(λa b=>(d.gw.lt a b)) a b
 have q:¬af abc=A gk:=λc=>Y (p gk c)
 have r:∀{k:V},(∀a,af k=A a->aaP<=a/\a<(aaR:N))->(∀a,af k=A a->af abc≠A a)->∀a,af k=A a->(S (A (⟨e,0,Z⟩:bQ)) (aa9+1) Ju).ownBlock≠A a:=λt u a b c=>by simp only[af,a2]at c;subst c;rcases n with c|c;exact u _ b c;have:=t _ b;omega
 have v:∀a,(S (A (⟨e,0,Z⟩:bQ)) (aa9+1) Ju).ownBlock=A a->¬a=gk:=λa b c=>by simp only[af,a2]at b;omega
 have w:=(d.aO.trans f I2 (λa _ c=>.inr (p a c).1)).trans g I2 (λ_ _ c=>.inl c);exact⟨by have:=(d.aA.bl f q).set 12 (S (A e) (aa9+1) Ju) D;simpa using this,(λx y=>by rw[bs];exact f.free (d.bH x y) d.aA.lt q),c3 (c3 d.o9 f (λa b c=>(d.n1 a b).2 c)) g (λa b c=>Y (i a b)),(d.gv.bl f (λa b c=>d.n2 a b c)).bl g (λa b c=>Y (j a b)),s.bl g v,λa b=>⟨(d.n1 a b).1,λc=>r i (λl m=>(d.n1 l m).2) a b c⟩,λa b c=>r j (λl m=>d.n2 l m) a b c,⟨o.1,by simp[aj];exact a1 o.2 h.size⟩,w⟩
end
structure j8(b:W)(d:N)(c:ai)(e f:I)(a:ar)(g h:V)(tw:Bool)(i:V)(bad:I)(j k:V):Prop where
 gS:bb b g a
 on:aX b h (gu a)
 tw:tw=kX (gu a)
 fa:aX b i (j5 d c e f a (L a))
 bad:bad=(fh d c e f a (L a):I)
 lo:aX b j (j6 a (L a))
 le:aX b k (j7 c a (L a))
def j8.bw{aaR Kx:W}{aa1:N}{aa2:ai}{aa3 aa4:I}{aa5:ar}{aaY aaZ aba abb abc:V}{aa0:Bool}{c:I}(a:j8 aaR aa1 aa2 aa3 aa4 aa5 aaY aaZ aa0 aba c abb abc)(b:B aaR aaR Kx):j8 Kx aa1 aa2 aa3 aa4 aa5 aaY aaZ aa0 aba c abb abc:=⟨a.gS.bw b,a.on.bw b,a.tw,a.fa.bw b,a.bad,a.lo.bw b,a.le.bw b⟩
end
structure cj where
 at_:N
 n:I
 dl:I
 cap:I
 len:I
 cv:V
 dv:V
 Zab:I
 ei:Bool
def om(b:V)(a:cj):aP:=[b,a.at_,a.n,a.dl,a.cap,a.len,a.cv,a.dv,a.Zab,au a.ei]
structure cw(a b:W)(c:N)(d:V)(e:Zaa)(f:cj):Prop where
 aA:ax b c (om d f)
 bH:∀g,aH b ⟨c,g,Z⟩=F
 rs:m5 a d e
 fy:B a a b
 ge:a<=c
def cw.lt{b:Zaa}{c:cj}(d:cw w x a u b c):a<x:=aR _ _ (d.aA 0 _ J)
def cw.bw{KA Kx:W}{d:Zaa}{e:cj}(b:cw KA w a u d e)(c:B w w Kx):cw KA Kx a u d e:=⟨b.aA.bw c,λi=>aY c b.lt (b.bH i),b.rs,b.fy.trans (c.mono b.fy.size),b.ge⟩
def cw.aO{h:W}{i:Zaa}{j:cj}{I':aD}(b:cw w x a u i j)(c:M I' x h)(g:∀d,d<(x:N)->I' d->a<d):cw w h a u i j:=⟨b.aA.bl c (λe=>Nat.lt_irrefl _ (g a b.lt e)),λn=>c.free (b.bH n) b.lt (λe=>Nat.lt_irrefl _ (g a b.lt e)),b.rs,b.fy.trans (c.bg b.fy.size λd c e=>bi (g d (cg c b.fy.size) e) b.ge),b.ge⟩
def cw.set{g:Zaa}{h S':cj}(b:cw w x a u g h)(c:N)(d:V)(k:c<10)(l:(om u h).set c d=om u S'):cw w (aj x ⟨a,c,Z⟩ d) a u g S':=⟨by rw[<-l];exact b.aA.set c d k,λm=>by rw[bs];exact b.bH m,b.rs,b.fy.setCell (p:=⟨a,c,Z⟩) b.ge d,b.ge⟩
def ca(a:W)(b d:N)(e:V):M (λc=>c=b) a (aj a ⟨b,d,Z⟩ e):=M.grown (bn _ _ _) (λc f=>X f.symm)
def cp(a:Zaa)(b:N):bD:=if b<L a then cZ a b else[]
def cj.next(a:cj)(b:N):cj:=if a.at_<b then{a with at_:=a.at_+1}else a
def tX(b i:W)(c:N)(j:V)(a:Zaa)(d:cj)(k:bp)(e:W):Prop:=∃f g h,k=aq (S f g h)/\bO b (S f g h) (cp a d.at_)/\cw b e c j a (d.next (L a))/\M (λl=>l=c) i e
def pv(c:N)(w:V)(h:Zaa)(d:cj)(j e:W)(g:cw j e c w h d)(x:L h<=1000000)(n:d.at_<=L h):ap ab 78 #[aM (A c)] e (tX j e c w h d):=by
 have X:=g.aA 0 _ J;have y:=g.aA 1 _ J;have Y:=g.bH 1;obtain⟨ad,b,o,rfl,z,_,_,p⟩:=fa.open g.rs;have aD:b<=1000000:=O
 have⟨a,i⟩:=K d.at_;rw[<-i]at y n;by_cases ae:a<b
 ·have ag:decide ((b:I)<=a)=F:=by simp;omega
  have ah:decide (b<=a)=F:=aF
  obtain⟨D,G,ai,rfl,P,q⟩:=p a ae;obtain⟨al,an,ar,rfl⟩:∃r b t,ai=S r b t:=by obtain⟨r,t,ax,_⟩:=q;exact⟨r,_,t,ax⟩
  have k:∀l,B e e l->cw j (aj l ⟨c,1,Z⟩ (aa ac ((a:I)+1))) c (S (A ⟨D,G,Z⟩) b o) h {d with at_:=d.at_+1}/\∀f,tX j e c (S (A ⟨D,G,Z⟩) b o) h d (aq (S al an ar)) ((aj l ⟨c,1,Z⟩ (aa ac ((a:I)+1))).drewN f):=λl R=>by have U:=(g.bw R).set (S':={d with at_:=d.at_+1}) 1 (aa ac ((a:I)+1)) av (by simp[om,i]);exact⟨U,λf=>⟨_,_,_,J,by unfold cp;rw[am O,<-i];exact q,by unfold cj.next;rw[am O];exact U.bw (eb (aS _ _) f),(((M.bw R).tr (ca l c 1 _)).then (eb (aS _ _) f))⟩⟩
  have aG:=aJ a;have aI:(a:I)<b:=O
  have aK:(a:I)<=1000000:=O
  have ay:=Q i;change H _ at k;clear i;change H _ at P;clear g p q z n x;go_in;go_upto_region 1 with fail;go_quiet (fail);have⟨m,u⟩:=k (e.drewN nq) (eb (aS _ _) nq);have⟨aC,v⟩:=K ((e.drewN nq).setCell ⟨c,1,Z⟩ (aa ac ((a:I)+1)));rw[<-v]at m u;have aL:=m.aA 0 _ J;have aN:C aC ⟨c,1,Z⟩=A (aa ac ((a:I)+1)):=by have:=m.aA 1 _ J;rw[this,ay];rfl
  have aO:=s m.fy P;change H _ at v u;clear m;go_upto_region 4 with fail;rw[<-v];clear X y Y;go_quiet (fail);go_wp2;go_ret;exact u _
 have ag:decide ((b:I)<=a)=T:=aF
 have ah:decide (b<=a)=T:=aF
 have k:∀f,tX j e c (S ad b o) h d (aq (S Z 0 0)) (e.drewN f):=λf=>⟨_,_,_,J,by unfold cp;rw[ak O];exact fa.nil _ _,by unfold cj.next;rw[ak O];exact g.bw (eb (aS _ _) f),M.bw (eb (aS _ _) f)⟩
 change H _ at k;clear g p i z n x;go_in;go_upto_region 1 with fail;go_quiet (fail);go_wp2;go_ret;exact k _
def yt(a:bD)(b:N)(c:L a=b):a.take b=a:=by rw[<-c];exact List.take_length
def yu(m n:V)(d e:bD)(a:W)(r:bO a m d)(s:bO a n e):ap ab 77 #[m,n] a (ch a (au (decide (d=e)))):=by obtain⟨o,b,g,rfl,h,K,M,g1⟩:=r.open;obtain⟨p,q,i,rfl,j,P,Q,g2⟩:=s.open;by_cases k:b=q;subst k;by_cases t:b=0;subst t;refine mR (slices_Equal_string_empty o p g 0 i a O) ?_;rw[dn.1 h,dn.1 j];exact⟨D,aS _ _⟩;obtain⟨u,v,rfl,_⟩:=g1 0 O;obtain⟨w,x,rfl,_⟩:=g2 0 O;refine(slices_Equal_string u v b g w x b i d e a O O O O (λl y=>?_) (λl y=>?_)).mono ?_;have⟨z,G,c,f⟩:=g1 l O;simp only[a2,bN,bT]at c;obtain⟨rfl,rfl⟩:=c;exact f;have⟨z,G,c,f⟩:=g2 l O;simp only[a2,bN,bT]at c;obtain⟨rfl,rfl⟩:=c;exact f;rintro c R ⟨rfl,H,rfl⟩;rw[yt d b h,yt e b j];exact⟨J,eb (aS _ _) H⟩;refine mR (slices_Equal_string_lens o p b g q i a k) ?_;rw[c9 (λf:d=e=>k (by rw[<-h,<-j,f]))];exact⟨J,aS _ _⟩
def kY(c d:W)(a:N)(e:V)(f:Zaa)(g:Bool)(h:cj)(i:bp)(b:W):Prop:=i=aq (au g)/\cw c b a e f h/\M (λj=>j=a) d b
def OK(e:N)(k:V)(b:Zaa)(a:cj)(h c:W)(d:cw h c e k b a):ap ab 56 #[aM (A e)] c (kY h c e k b (decide (a.at_=L b)) a):=by
 have q:=d.aA 0 _ J;have n:=d.aA 1 _ J;obtain⟨o,f,p,rfl,l,_,_,_⟩:=fa.open d.rs;have⟨i,j⟩:=K a.at_;rw[<-j]at n;have m:∀g,kY h c e (S o f p) b (decide (a.at_=L b)) a (aq (au (((i:I)==(f:I))))) (c.drewN g):=λg=>⟨by rw[l,<-j,show decide (i=f)=((i:I)==(f:I)) by rw[Bool.eq_iff_iff];simp;omega],d.bw (eb (aS _ _) g),M.bw (eb (aS _ _) g)⟩
 change H _ at m;clear d j l;go_in;go_upto_region 1 with fail;go_quiet (fail);go_wp2;go_ret;exact m _
def pw:bD:=[⟨#[116,114,97,110,116,101,114]⟩,⟨#[49]⟩]
def jh(b:W)(a:bD)(e:L a<=1000):bO (b.alloc (az (a.map a7).toArray 9)) (S (A (b:N)) (L a) (L a)) a:=⟨_,L a,J,aL _,O,λc d=>⟨_,_,_,J,ax.new b (a.map a7) _ (0+c) (a7 (a.getD c default)) (by rw[bX,List.getElem?_map,e7 d];simp[List.getD,d]),J⟩⟩
def OL(e:N)(g:V)(a:Zaa)(b:cj)(h f:W)(o:cw h f e g a b)(p:L a<=1000000)(q:b.at_<=L a):ap ab 51 #[aM (A e)] f (kY h f e g a (decide (cp a b.at_=pw)) (b.next (L a))):=by
 have r:=Q (pv e g a b h f o p q);go_in;go_wp2_with fail;refine mF r λc x y z ⟨s,t,u⟩=>?_;obtain⟨d,i,j,v⟩:∃d,c.alloc (az #[a7 ⟨#[116,114,97,110,116,101,114]⟩,a7 ⟨#[49]⟩] 9)=d/\B c c d/\bO d (S (A (c:N)) 2 2) pw:=⟨_,J,aN _ _,jh c pw av⟩
 have k:=t.bw j;have w:=Q (yu _ _ _ _ d (bO.dj.bw s k.fy) v);have l:=Q (U k (u.then j));change H _ at i;go_wp2_with (rw[i]);refine mU w λD m=>?_;have n:=Q (U (l.oo.1.bw m) (l.oo.2.then m));go_wp2;go_ret;exact⟨J,n.1,n.2⟩
def h7(a:bD)(b:N):bD:=(List.range b).map λc=>aG a (2*c+1)
def on(b c:bD)(d:N):Prop:=∀a,a<d->aG b (2*a)=aG c a
instance(a b:bD)(c:N):Decidable (on a b c):=Nat.decidableBallLT c λd _=>aG a (2*d)=aG b d
def oo(a b:ByteArray):(a.toList==b.toList)=decide (a=b):=by rw[<-beq_toListBytes,Bool.eq_iff_iff,decide_eq_true_iff,MapKept.bytes_beq]
def d6(b a:bD):E I×Bool:=if (L b)=2*L a/\on b a (L a) then dy (h7 b (L a))else([],F)
def yv(h b:W)(c:N)(i:V)(j:Zaa)(d:E I×Bool)(k:cj)(l:bp)(a:W):Prop:=∃e f g,l=aq (aZ #[S e f g,au d.2])/\ay a b (S e f g) d.1/\cw h a c i j k/\M (λm=>m=c) b a
def aI.Wt(b:aD)(c:W)(a:ByteArray):aI m4 b c (a7 a) a:=λ_ _ _=>rfl
def ne:(ab.info? 9).map (λa=>(a.zero,a.size,a.bytes))=A (A (a7 ByteArray.empty),1,16):=aT
def yw(o:N)(G al:V)(d:Zaa)(e:bD)(f:cj)(M p:W)(be:cw M p o G d f)(bH:L d<=1000000)(bI:f.at_<=L d)(bg:bO p al e)(bJ:L e<=1000)(bi:∀g k,(∃bK P,al=S (A ⟨g,k,Z⟩) bK P)->g≠o)(bL:∀bM∈d,∀l∈bM,l.size<=1000000):ap ab 79 #[aM (A o),al] p (yv M p o G d (d6 (cp d f.at_) e) (f.next (L d))):=by
 have bP:=Q (pv o G d f M p be bH bI);have an:∀l∈cp d f.at_,l.size<=1000000:=λl h=>by unfold cp at h;split at h;rename_i x;exact bL _ (by rw[show cZ d f.at_=d[f.at_] by simp[cZ,x]];exact dY _) l h;cases h
 have⟨b,ar⟩:=K (cp d f.at_);rw[<-ar]at an⊢;obtain⟨bR,c,cg,rfl,ax,_,_,bk⟩:=bg.open;have⟨r,R⟩:=K (d6 b e);rw[<-R];have ch:c<=1000:=O
 have aA:¬(L b=2*c/\on b e c)->r=([],F):=λx=>by rw[R,d6,ax,ak x]
 have bl:L b=2*c->on b e c->r=dy (h7 b c):=λbS bU=>by rw[R,d6,ax,am ⟨bS,bU⟩]
 have bm:∀a,a<c->∃g k,bR=A ⟨g,k,Z⟩/\g≠o/\C p ⟨g,k+a,Z⟩=A (a7 (aG e a)):=λa y=>by have⟨g,k,i,bV⟩:=bk a y;exact⟨g,k,i,bi g k ⟨_,_,by rw[i]⟩,bV⟩
 change H _ at aA bl bm;change H _ at an ar;clear be bg bi R bk ax bJ;go_in;go_wp2_with fail;refine mF bP λz ci ad cl ⟨h,aC,y⟩=>?_;rw[<-ar]at h;have bn:=bO.dj.bw h aC.fy;have m:=Q (U aC y);have⟨_,_,_,bo,bq,_,cm,aD⟩:=bn.open;simp only[bf]at bo;obtain⟨rfl,rfl,rfl⟩:=bo;change H _ at aD;clear h aC y bn;by_cases br:ad=2*c;rotate_left
 ·have bW:((ad:I)!=2*(c:I))=T:=by rw[bne_iff_ne];omega
  have t:=Q (aA.oo O);clear br bq;go_wp2;go_ret2;rw[t];exact⟨_,_,_,J,ay.nil _ _,m.1,m.2⟩
 have bW:((ad:I)!=2*(c:I))=F:=aF
 have aL:=Q (U br (bh ((L b)=2*c)));clear bq;go_wp2;go_loopw [7,20] (λbX n wr=>∃(a:N) (ae:V) (aO:aP),ae=bX/\n=(a:I)/\a<=c/\cc 9 m4 (λ_=>False) z wr ae aO (h7 b a)/\on b e a/\B z z wr) (λ_ n _=>c-(aw n).toNat);exact⟨0,_,[],J,J,a3 _,cc.nil _ _ _ _ _,λaQ bs=>absurd bs (fx _),aS _ _⟩;obtain⟨a,ae,aO,rfl,rfl,y,D,ag,q⟩:=hrel;obtain⟨u,rfl⟩:=K wr;by_cases Ch:a<c
 ·obtain⟨g,k,rfl,bZ,aR⟩:=bm a Ch;have aR:=s q (m.2.cell aR bZ);obtain⟨cn,co,rfl,aT⟩:=aD (2*a) O;have⟨_,_,i,g1⟩:=aD (2*a+1) O;simp only[a2,bN,bT]at i;obtain⟨rfl,rfl⟩:=i;have aT:=s q aT;have g1:=s q g1;have aU:h7 b (a+1)=h7 b a++[aG b (2*a+1)]:=by unfold h7;rw[fu,ck];rfl
  have aV:aG b (2*a)=aG e a->on b e (a+1):=λi aQ bs=>by by_cases aW:aQ=a;subst aW;exact i;exact ag aQ O
  have aX:aG b (2*a)≠aG e a->r=([],F):=λi=>aA λx=>i (x.2 a Ch);have⟨aY,a0⟩:=K (aG b (2*a));have⟨ah,bt⟩:=K (aG b (2*a+1));have⟨a4,a5⟩:=K (aG e a);rw[<-a0,<-a5]at aV aX;rw[<-a0]at aT;rw[<-bt]at g1 aU;rw[<-a5]at aR;have cq:=aJ a;have cr:(a:I)<c:=O
  have cs:(0:I)<=2*(a:I):=O
  have ct:2*(a:I)+1<(ad:I):=O
  have j:=Q q;have b0:=Q D;change H _ at aU aV aX;clear ag q D a0 bt a5;by_cases v:aY=a4;rotate_left
  ·have t:=Q (aX.oo v);have aW:(aY.toList==a4.toList)=F:=by rw[oo];simpa using v
   clear v;go_wp2;go_ret2;rw[t];exact⟨_,_,_,J,ay.nil _ _,m.1.bw j,m.2.then j⟩
  have b2:=Q (aV.oo v);have aW:(aY.toList==a4.toList)=T:=by rw[oo];simpa using v
  obtain⟨w,a6,ai,bu⟩:∃w,u.alloc (az #[a7 ah] 9)=w/\B u u w/\C w u=A (a7 ah):=⟨_,J,aN _ _,aE⟩
  have a8:=b0.bw ai;have a9:(h7 b a).length=a:=by simp[h7]
  have bv:(z:N)<=w.heap.size:=a1 j.size ai.size;have b3:=Q (j.oo.trans (ai.mono j.size));have⟨b4,ba⟩:=K (h7 b a);rw[<-ba]at a8 a9;have bx:=Q aU.oo;rw[<-ba]at bx;replace a6:=Q a6;clear v ai ba;go_wp2_with (at_builtin;rw[a6];refine n1 J _ _ 37 9 (a7 ByteArray.empty) 16 underlying37 ne J av J w z ae aO b4 (a7 ah) ah u J J bu J a8 (aI.Wt _ _ _) (by rw[a9];omega) bv ?_);intro cu cv cx bb b5 bz b6 b7 _;rw[<-bx]at bb;have bA:=Q (U bb (b3.oo.trans bz));clear bb b5 bz b6 b7 bu a8 bv a9;go_wp2;go_roundw;case rel=>exact⟨a+1,_,_,J,aK,O,bA.1,b2,bA.2⟩
  exact bY
 have b8:a=c:=O
 subst b8;have t:=Q (bl.oo aL.2 ag);have bB:=D.sl;have bC:∀l∈h7 b a,l.size<=1000000:=λl h=>by
  obtain⟨n,b9,rfl⟩:=List.mem_map.1 h;have cy:n<a:=X b9
  refine an _ ?_;rw[show aG b (2*n+1)=b[2*n+1]'(Y aL.2) by simp[aG,show 2*n+1<L b by have:=aL.oo.2;omega]];exact dY _
 have b':=Q (te _ _ u bB (by simp[h7];omega) bC);have j:=Q q;obtain⟨cz,cA,cB,rfl,ca,_⟩:=D.form;clear ca ag D q bB bC;go_wp2_with fail;refine mF b' λcd bE bF P ⟨bG,bc⟩=>?_;have ce:=Q (show yv M p o G d r (f.next (L d)) (aq (aZ #[S bE bF P,au r.2])) cd by rw[t];exact⟨bE,bF,P,J,bG.mono (a1 m.2.size j.size),(m.1.bw j).bw bc,(m.2.then j).then bc⟩);have cf:=Q (show r.2=(dy (h7 b a)).2 by rw[t]);rw[<-cf];clear bG bc;go_wp2;go_ret2;exact ce
def yx{JQ:bD}(a:(dy JQ).2=T):(dy JQ).1.length=L JQ:=by unfold dy at*;split;simp;rename_i b;rw[ak b]at a;cases a
def yy{JW J2:bD}(a:(d6 JW J2).2=T):(d6 JW J2).1.length=L J2:=by unfold d6 at*;split;rename_i b;rw[am b]at a;rw[yx a];simp[h7];rename_i b;rw[ak b]at a;cases a
def ji:bD:=[⟨#[100,97,121,115]⟩,⟨#[118,101,104,105,99,108,101,115]⟩,⟨#[99,97,112,97,99,105,116,121]⟩,⟨#[108,101,110,103,116,104]⟩]
def iF:bD:=[⟨#[99,117,115,116,111,109,101,114,115]⟩]
def cj.vm(b:cj)(a:E I×Bool):cj:=if a.2 then{b with n:=ae a.1 0,dl:=ae a.1 1,cap:=ae a.1 2,len:=ae a.1 3}else b
def cj.many(a:cj)(b:E I×Bool):cj:=if b.2 then{a with Zab:=ae b.1 0}else a
def OM(d:N)(m:V)(a:Zaa)(g:cj)(o b:W)(p:cw o b d m a g)(G:L a<=1000000)(O:g.at_<=L a)(P:∀q∈a,∀ax∈q,ax.size<=1000000):ap ab 52 #[aM (A d)] b (kY o b d m a (d6 (cp a g.at_) ji).2 ((g.next (L a)).vm (d6 (cp a g.at_) ji))):=by
 obtain⟨k,R,u,U,ay⟩:∃k,b.alloc (az #[a7 ⟨#[100,97,121,115]⟩,a7 ⟨#[118,101,104,105,99,108,101,115]⟩,a7 ⟨#[99,97,112,97,99,105,116,121]⟩,a7 ⟨#[108,101,110,103,116,104]⟩] 9)=k/\B b b k/\bO k (S (A (b:N)) 4 4) ji/\k.heap.size=(b:N)+1:=⟨_,J,aN _ _,jh b ji av,D⟩
 have aC:=p.lt;have v:=Q (yw d m (S (A (b:N)) 4 4) a ji g o k (p.bw u) G O U av (λX aX n=>vJ) P);have w:=λp=>yy (JW:=cp a g.at_) (J2:=ji) p;have⟨aD,Y⟩:=K (d6 (cp a g.at_) ji);rw[<-Y]at v w⊢;have⟨l,ad⟩:=K (g.next (L a));rw[<-ad]at v⊢;obtain⟨q,X⟩:=aD;have aE:=Q (M.bw (I':=λaF=>aF=d) u);change H _ at R w;clear p u U ay aC Y ad G O P;go_in;go_wp2_with (rw[R]);refine mF v λag a3 J0 Ju ⟨x,c,y⟩=>?_;have s:=aE.tr y;cases X with
  |false=>have aG:=Q (show kY o b d m a F (l.vm (q,F)) (aq (au F)) ag from⟨J,c,s⟩);clear x c y s;go_wp2;go_ret;exact aG
  |true=>
   have ah:=w J;obtain⟨e,h,i,j,rfl⟩:∃e h i j,q=[e,h,i,j]:=by
    match q,ah with
     |[e,h,i,j],_=>exact⟨_,_,_,_,J⟩
   have⟨a4,a5,ai,aI,aJ,aK,r⟩:=x.out D;simp only[bf]at ai;obtain⟨rfl,rfl,rfl⟩:=ai;have ak:=(r 0 D).1;have f1:=(r 1 D).1;have al:=(r 2 D).1;have am:=(r 3 D).1;simp only[ae,List.getD_cons_zero,List.getD_cons_succ,eX,bX]at ak f1 al am;have aL:=c.aA 2 _ J;have aO:=c.aA 3 _ J;have aP:=c.aA 4 _ J;have aQ:=c.aA 5 _ J;have aR:=c.bH 2;have aT:=c.bH 3;have aU:=c.bH 4;have aV:=c.bH 5;have an:∀t,kY o b d m a T (l.vm ([e,h,i,j],T)) (aq (au T)) ((((ag.drewN t).setCell ⟨d,2,Z⟩ (e:I)).setCell ⟨d,3,Z⟩ (h:I)).setCell ⟨d,4,Z⟩ (i:I)|>.setCell ⟨d,5,Z⟩ (j:I)):=λt=>⟨J,((((c.bw (eb (aS _ _) t)).set (S':={l with n:=e}) 2 (e:I) av J).set (S':={l with n:=e,dl:=h}) 3 (h:I) av J).set (S':={l with n:=e,dl:=h,cap:=i}) 4 (i:I) av J).set (S':={l with n:=e,dl:=h,cap:=i,len:=j}) 5 (j:I) av J,((((s.then (eb (aS _ _) t)).tr (ca _ _ _ _)).tr (ca _ _ _ _)).tr (ca _ _ _ _)).tr (ca _ _ _ _)⟩
   change H _ at an;clear x c y s r aI aJ aK ah;go_upto_region 3 with fail;refine bv [0,1,2,3,4,5,7,8,10,11,13,14,106,109,112,115,16,17,18,319,20,21,22,323,24,25,26,327,28,29,30,331] ?_;iterate 20 refine mS ?_
   clear ak f1 al am;iterate 12 refine mS ?_
   refine bc ?_;clear aL aO aP aQ aR aT aU aV;go_wp2;go_ret;exact an 1
def ON(d:N)(i:V)(a:Zaa)(c:cj)(j b:W)(k:cw j b d i a c)(v:L a<=1000000)(w:c.at_<=L a)(x:∀l∈a,∀ad∈l,ad.size<=1000000):ap ab 53 #[aM (A d)] b (kY j b d i a (d6 (cp a c.at_) iF).2 ((c.next (L a)).many (d6 (cp a c.at_) iF))):=by
 obtain⟨g,y,o,z,ag⟩:∃g,b.alloc (az #[a7 ⟨#[99,117,115,116,111,109,101,114,115]⟩] 9)=g/\B b b g/\bO g (S (A (b:N)) 1 1) iF/\g.heap.size=(b:N)+1:=⟨_,J,aN _ _,jh b iF av,D⟩
 have ah:=k.lt;have p:=Q (yw d i (S (A (b:N)) 1 1) a iF c j g (k.bw o) v w z av (λG ay n=>vJ) x);have q:=λk=>yy (JW:=cp a c.at_) (J2:=iF) k;have⟨ai,O⟩:=K (d6 (cp a c.at_) iF);rw[<-O]at p q⊢;have⟨r,P⟩:=K (c.next (L a));rw[<-P]at p⊢;obtain⟨l,G⟩:=ai;have ak:=Q (M.bw (I':=λal=>al=d) o);change H _ at y q;clear k o z ag ah O P v w x;go_in;go_wp2_with (rw[y]);refine mF p λR aF J0 Ju ⟨s,h,t⟩=>?_;have m:=ak.tr t;cases G with
  |false=>have u:=Q (show kY j b d i a F (r.many (l,F)) (aq (au F)) R from⟨J,h,m⟩);clear s h t m;go_wp2;go_ret;exact u
  |true=>
   have U:=q J;obtain⟨e,rfl⟩:∃e,l=[e]:=by
    match l,U with
     |[e],_=>exact⟨_,J⟩
   have⟨aG,aI,X,am,an,ar,Y⟩:=s.out D;simp only[bf]at X;obtain⟨rfl,rfl,rfl⟩:=X;have ax:=(Y 0 D).1;simp only[ae,List.getD_cons_zero,eX]at ax;have aJ:=h.aA 8 _ J;have aK:=h.bH 8;have u:=Q (show kY j b d i a T (r.many ([e],T)) (aq (au T)) (aj R ⟨d,8,Z⟩ (e:I))from⟨J,h.set (S':={r with Zab:=e}) 8 (e:I) av J,m.tr (ca _ _ _ _)⟩);clear s h t m Y am an ar U;go_wp2;go_ret;exact u
def px(a b c d:N)(f:b<256)(l:d<256):(256*a+b)&&&(256*c+d)=256*(a&&&c)+(b&&&d):=by have m:b&&&d<2^8:=Nat.lt_of_le_of_lt Nat.and_le_left (X f);apply Nat.eq_of_testBit_eq;intro e;rw[Nat.testBit_and];have g:=Nat.testBit_two_pow_mul_add a (i:=8) (X f) e;have i:=Nat.testBit_two_pow_mul_add c (i:=8) (X l) e;have j:=Nat.testBit_two_pow_mul_add (a&&&c) (i:=8) m e;simp only[show(2:N)^8=256 from J]at g i j;rw[g,i,j];by_cases k:e<8;simp[k];simp[k]
def e0(a:N):N->N
 |0=>0
 |b+1=>256*e0 a b+a
def g1(a:N):N:=(a/2&&&85)+(a&&&85)
def g2(a:N):N:=(a/4&&&51)+(a&&&51)
def g3(a:N):N:=(a/16+a)&&&15
def bytes(a:N->N):N->N->N
 |0,_=>0
 |c+1,b=>256*bytes a c (b/256)+a (b%256)
def py(b:N->Bool)(c:(List.range 256).all b=T)(a:N)(d:a<256):b a=T:=by rw[d4]at c;exact c a (X d)
def OO(a:N)(c:a<256):∀b,b<2->(128*b+a/2)&&&85=a/2&&&85:=by
 intro b d;have:=py (λa=>(128*0+a/2&&&85)==(a/2&&&85)&&(128*1+a/2&&&85)==(a/2&&&85)) hN a c;rw[cr,beq_iff_eq,beq_iff_eq]at this;match b,d with
  |0,_=>exact this.1
  |1,_=>exact this.2
def OP(a:N)(c:a<256):∀b,b<4->(64*b+a/4)&&&51=a/4&&&51:=by intro b d;have:=py (λa=>(List.range 4).all λb=>(64*b+a/4&&&51)==(a/4&&&51)) hN a c;rw[d4]at this;simpa using this b (X d)
def OQ(b:N):∀a,a<256^b->(a/2&&&e0 85 b)+(a&&&e0 85 b)=bytes g1 b a:=by
 induction b with
  |zero=>intro a _;simp[e0,bytes]
  |succ b e=>
   intro a f;have g:a/256<256^b:=by rw[Nat.pow_succ]at f;omega
   have h:a=256*(a/256)+a%256:=O
   have i:a/2=256*(a/256/2)+(128*(a/256%2)+a%256/2):=O
   have c:=px (a/256/2) (128*(a/256%2)+a%256/2) (e0 85 b) 85 O av;have d:=px (a/256) (a%256) (e0 85 b) 85 O av;rw[<-i]at c;rw[<-h]at d;have j:=OO (a%256) O (a/256%2) O;simp only[e0,bytes];rw[c,d,j,<-e (a/256) g];unfold g1;omega
def OR(b:N):∀a,a<256^b->(a/4&&&e0 51 b)+(a&&&e0 51 b)=bytes g2 b a:=by
 induction b with
  |zero=>intro a _;simp[e0,bytes]
  |succ b e=>
   intro a f;have g:a/256<256^b:=by rw[Nat.pow_succ]at f;omega
   have h:a=256*(a/256)+a%256:=O
   have i:a/4=256*(a/256/4)+(64*(a/256%4)+a%256/4):=O
   have c:=px (a/256/4) (64*(a/256%4)+a%256/4) (e0 51 b) 51 O av;have d:=px (a/256) (a%256) (e0 51 b) 51 O av;rw[<-i]at c;rw[<-h]at d;have j:=OP (a%256) O (a/256%4) O;simp only[e0,bytes];rw[c,d,j,<-e (a/256) g];unfold g2;omega
def pz:N->aD
 |0,a=>a=0
 |b+1,a=>a%16<=4/\a/16%16<=4/\pz b (a/256)
def OS(a:N)(e:a<256)(c:N)(f:c<=4)(g:a%16<=4)(h:a/16<=4):(16*c+(a/16+a))&&&15=(a/16+a)&&&15:=by have d (b:N):b&&&15=b%16:=Nat.and_two_pow_sub_one_eq_mod b 4;rw[d,d];omega
def OT(b:N):∀a,pz b a->(a/16+a)&&&e0 15 b=bytes g3 b a:=by
 induction b with
  |zero=>intro a _;simp[e0,bytes]
  |succ b e=>
   intro a ⟨ha,i,c⟩;have f:a/256%16<=4:=by
    cases b with
     |zero=>have:a/256=0:=c;omega
     |succ b=>exact c.1
   have g:a/16+a=256*(a/256/16+a/256)+(16*(a/256%16)+(a%256/16+a%256)):=O
   have d:=px (a/256/16+a/256) (16*(a/256%16)+(a%256/16+a%256)) (e0 15 b) 15 O av;rw[<-g]at d;have h:=OS (a%256) O (a/256%16) f O O;simp only[e0,bytes];rw[d,h,<-e (a/256) c];rfl
def OU(c:N->N)(e:∀d,d<256->c d<256)(b:N):∀a,bytes c b a<256^b:=by
 induction b with
  |zero=>intro a;simp[bytes]
  |succ b f=>intro a;have g:=f (a/256);have h:=e (a%256) O;simp only[bytes,Nat.pow_succ];omega
def yz(b e:N->N)(f:∀d,d<256->b d<256)(c:N):∀a,bytes e c (bytes b c a)=bytes (λd=>e (b d)) c a:=by
 induction c with
  |zero=>intro a;rfl
  |succ c g=>intro a;have h:=f (a%256) O;simp only[bytes];rw[show(256*bytes b c (a/256)+b (a%256))/256=bytes b c (a/256) by omega,show(256*bytes b c (a/256)+b (a%256))%256=b (a%256) by omega,g]
def OV(a:N->N)(e:∀d,d<256->a d<256/\a d%16<=4/\a d/16<=4)(c:N):∀b,pz c (bytes a c b):=by
 induction c with
  |zero=>intro b;rfl
  |succ c f=>intro b;have⟨g,h,i⟩:=e (b%256) O;simp only[bytes,pz];refine⟨O,O,?_⟩;rw[show(256*bytes a c (b/256)+a (b%256))/256=bytes a c (b/256) by omega];exact f _
def Zab(a b:N):N:=((List.range b).filter a.testBit).length
def OW(a:N)(b:a<256):g3 (g2 (g1 a))=Zab a 8:=by have:=py (λa=>g3 (g2 (g1 a))==Zab a 8) hN a b;simpa using this
def l4(b a:N):Zab b a<=a:=by have:=List.length_filter_le b.testBit (List.range a);rwa [List.length_range]at this
def l5(a b:N):Zab a (8+b)=Zab (a%256) 8+Zab (a/256) b:=by unfold Zab;rw[List.range_add,h1,bL,List.filter_map,de];congr 1;congr 1;apply List.filter_congr;intro c d;simp at d;have:=Nat.testBit_mod_two_pow a 8 c;rw[show(2:N)^8=256 from J]at this;rw[this];simp[d];congr 1;apply List.filter_congr;intro c _;have:=Nat.testBit_div_two_pow (n:=8) a c;rw[show(2:N)^8=256 from J]at this;rw[this,Nat.add_comm];rfl
def OX(a:N):Zab a 0=0:=J
def yA(a:N)(b:a<256):g2 (g1 a)<256/\g2 (g1 a)%16<=4/\g2 (g1 a)/16<=4:=by have:=py (λa=>decide (g2 (g1 a)<256/\g2 (g1 a)%16<=4/\g2 (g1 a)/16<=4)) hN a b;simpa using this
def yB(a:N)(b:a<256):g1 a<256:=by have:=py (λa=>decide (g1 a<256)) hN a b;simpa using this
def OY(j g f e d c b a k h i l:N)(m:j<=8/\g<=8/\f<=8/\e<=8/\d<=8/\c<=8/\b<=8/\a<=8)(n:k=256*(256*(256*(256*(256*(256*(256*(256*0+a)+b)+c)+d)+e)+f)+g)+j)(o:h=k+k/256)(p:i=h+h/65536)(q:l=i+i/4294967296):h<18446744073709551616/\i<18446744073709551616/\l<9223372036854775808/\l%128=j+g+f+e+d+c+b+a:=by
 obtain⟨v,w,x,y,z,D,G,H⟩:=m;have r:k/256=256*(256*(256*(256*(256*(256*a+b)+c)+d)+e)+f)+g:=O
 have K:h=256*(256*(256*(256*(256*(256*(256*a+(b+a))+(c+b))+(d+c))+(e+d))+(f+e))+(g+f))+(j+g):=O
 clear n o r;have s:h/65536=256*(256*(256*(256*(256*a+(b+a))+(c+b))+(d+c))+(e+d))+(f+e):=O
 have t:i=256*(256*(256*(256*(256*(256*(256*a+(b+a))+(c+b+a))+(d+c+b+a))+(e+d+c+b))+(f+e+d+c))+(g+f+e+d))+(j+g+f+e):=O
 clear p s;have u:i/4294967296=256*(256*(256*a+(b+a))+(c+b+a))+(d+c+b+a):=O
 refine⟨O,O,O,?_⟩;rw[q,u,t];omega
def OZ:e0 85 8=6148914691236517205:=hN
def O0:e0 51 8=3689348814741910323:=hN
def O1:e0 15 8=1085102592571150095:=hN
def O2:∀a b,pz a b->b<=68*(256^a-1)/255:=by
 intro a;induction a with
  |zero=>intro b c;have:b=0:=c;omega
  |succ a d=>intro b ⟨f,g,e⟩;have h:=d _ e;have hp:1<=256^a:=Nat.one_le_pow _ _ av;rw[Nat.pow_succ];generalize 256^a=i at*;omega
def O3(a:N)(p:a<18446744073709551616):∃d e b f g h:N,d<18446744073709551616/\e<=4919131752989213764/\b<18446744073709551616/\f<18446744073709551616/\g<18446744073709551616/\h<9223372036854775808/\(a/2&&&6148914691236517205)+(a&&&6148914691236517205)=d/\(d/4&&&3689348814741910323)+(d&&&3689348814741910323)=e/\(e/16+e)&&&1085102592571150095=b/\b+b/256=f/\f+f/65536=g/\g+g/4294967296=h/\h%128=Zab a 64:=by
 have l:=OQ 8 a (X p);have m:=OU g1 yB 8 a;have i:=OR 8 (bytes g1 8 a) m;rw[yz g1 g2 yB]at i;have n:=OV (λc=>g2 (g1 c)) yA 8 a;have j:=OT 8 _ n;rw[yz (λc=>g2 (g1 c)) g3 (λc q=>(yA c q).1)]at j;rw[OZ]at l;rw[O0]at i;rw[O1]at j;have r:∀k,g3 (g2 (g1 (k%256)))=Zab (k%256) 8:=λk=>OW _ (Nat.mod_lt _ av);have o:=O2 8 _ n;rw[show 68*(256^8-1)/255=4919131752989213764 from J]at o;generalize s:bytes (λc=>g3 (g2 (g1 c))) 8 a=b at*;have t:b=256*(256*(256*(256*(256*(256*(256*(256*0+Zab (a/256/256/256/256/256/256/256%256) 8)+Zab (a/256/256/256/256/256/256%256) 8)+Zab (a/256/256/256/256/256%256) 8)+Zab (a/256/256/256/256%256) 8)+Zab (a/256/256/256%256) 8)+Zab (a/256/256%256) 8)+Zab (a/256%256) 8)+Zab (a%256) 8:=by rw[<-s];simp only[bytes,r]
 have⟨u,v,w,x⟩:=OY _ _ _ _ _ _ _ _ b _ _ _ ⟨l4 _ 8,l4 _ 8,l4 _ 8,l4 _ 8,l4 _ 8,l4 _ 8,l4 _ 8,l4 _ 8⟩ t J J J;refine⟨_,_,b,_,_,_,?_,o,?_,u,v,w,l,i,j,J,J,J,?_⟩;simpa using m;omega;rw[x];have y:=l5 a 56;have z:Zab (a/256) 56=Zab (a/256%256) 8+Zab (a/256/256) 48:=l5 _ 48;have D:Zab (a/256/256) 48=Zab (a/256/256%256) 8+Zab (a/256/256/256) 40:=l5 _ 40;have G:Zab (a/256/256/256) 40=Zab (a/256/256/256%256) 8+Zab (a/256/256/256/256) 32:=l5 _ 32;have H:Zab (a/256/256/256/256) 32=Zab (a/256/256/256/256%256) 8+Zab (a/256/256/256/256/256) 24:=l5 _ 24;have K:Zab (a/256/256/256/256/256) 24=Zab (a/256/256/256/256/256%256) 8+Zab (a/256/256/256/256/256/256) 16:=l5 _ 16;have M:Zab (a/256/256/256/256/256/256) 16=Zab (a/256/256/256/256/256/256%256) 8+Zab (a/256/256/256/256/256/256/256) 8:=l5 _ 8;have O:Zab (a/256/256/256/256/256/256/256) 8=Zab (a/256/256/256/256/256/256/256%256) 8+Zab (a/256/256/256/256/256/256/256/256) 0:=l5 _ 0;rw[y,z,D,G,H,K,M,O,OX,eX];simp only[Nat.add_assoc]
def yC(b c a d:N)(ha:b<18446744073709551616)(f:c<18446744073709551616)(e:a<18446744073709551616)(g:(b&&&a)+(c&&&a)=d)(h:d<18446744073709551616):IntKind.u64.wrap (bits .and b1 (b:I) (a:I)+bits .and b1 (c:I) (a:I))=(d:I):=by rw[u64_and_nat b a ha e,u64_and_nat c a f e,<-g];rw[<-Int.natCast_add];exact IntWalk.u64_in _ O
def rt(b c a:N)(d:b+c=a)(e:a<18446744073709551616):IntKind.u64.wrap ((b:I)+(c:I))=(a:I):=by rw[<-Int.natCast_add,d];exact IntWalk.u64_in _ O
def yD(a:N)(ha:a<9223372036854775808):(BitVec.ofInt 64 (a:I)).toNat=a:=by rw[BitVec.ofInt_natCast,BitVec.toNat_ofNat];exact Nat.mod_eq_of_lt O
def O4(a b:N)(ha:a<9223372036854775808)(c:b<9223372036854775808):bits .and ac (a:I) (b:I)=((a&&&b:N):I):=by have d:a&&&b<2^63:=Nat.and_lt_two_pow _ O;show IntKind.i64.wrap ((BitVec.ofInt 64 (a:I)&&&BitVec.ofInt 64 (b:I)).toNat:I)=_;rw[BitVec.toNat_and,yD a ha,yD b c,IntKind.wrap_i64];omega
def O5(a:N):Zab a 64=(a8 a 0 64).length:=by unfold Zab a8;rw[de];simp
def O6(a:N)(i:W)(j:a<18446744073709551616):ap ab 242 #[aa b1 a] i λD G=>D=aq ((a8 a 0 64).length:I)/\i=G:=by
 have⟨c,b,k,d,e,f,l,ag,ah,K,M,m,P,Q,R,U,X,Y,g⟩:=O3 a j;rw[O5]at g;have n:=yC (a/2) a 6148914691236517205 c O j av P l;have o:=yC (c/4) c 3689348814741910323 b O l av Q O;have p:=rt (b/16) b _ J O;have h:=u64_and_nat (b/16+b) 1085102592571150095 O av;rw[R]at h;have q:=rt k (k/256) d U K;have r:=rt d (d/65536) e X M;have s:=rt e (e/4294967296) f Y O;change H _ at n o p h q r s g m;go_in;go_wp2;go_ret;refine⟨?_,J⟩;have t:=n.oo;have u:=o.oo;have v:=p.oo;have w:=h.oo;have x:=q.oo;have y:=r.oo;have z:=s.oo;have ad:bits .and ac (aB (f:I)) 127=((a8 a 0 64).length:I):=by have ae:=m.oo;rw[cV O O];have:=O4 f 127 ae av;rw[nat_mask7]at this;rw[<-g];exact this
 simp only[Int.natCast_ediv,Int.cast_ofNat_Int]at t u v w x y z;simp only[t,u,v,w,x,y,z,ad];rfl
def O7(a:N)(b:W)(c:a<18446744073709551616):ap ab 217 #[aa b1 a] b λd e=>d=aq ((a8 a 0 64).length:I)/\b=e:=by go_in;go_wp2_with fail;refine mR (O6 a b c) ?_;go_wp2;go_ret;exact⟨J,J⟩
def ay.at_{e:ad}(j:ay w a (S (A b) c d) e)(i:N)(k:i<L e):C w ⟨b,i,Z⟩=A (aa ac (ae e i))/\aH w ⟨b,i,Z⟩=F:=by have⟨g2,p,h,_,_,_,l⟩:=j.out O;simp only[bf,a2,bN,bT]at h;obtain⟨rfl,_,_⟩:=h;have:=l i k;rwa [bX]at this
def ay.si{f:ad}(i:ay w a (S (A b) c d) f)(e:N)(g:I)(n:e<L f):ay (aj w ⟨b,e,Z⟩ g) a (S (A b) c d) (f.set e g):=by have:=i.set e g n;rwa [bX]at this
def adW(a b c JN:N)(t:JN<c):(JN:I)∈a8 a b c↔b<=JN/\a.testBit JN=T:=by
 exact v4
def adX(a b c:N):(a8 a b c).Pairwise (·<·):=vu
def adY(b c a:N):∀KB∈a8 b c a,0<=KB/\KB<a:=vt
def d7(a:ByteArray):ad:=a.data.toList.map λb=>(b.toNat:I)
def O8(a:ByteArray):(d7 a).length=a.size:=by simp[d7]
def t0(a:ByteArray)(b:N)(c:b<a.size):ae (d7 a) b=((a[b]'c).toNat:I):=by rw[e9 (by rw[O8];exact c)];simp[d7];rfl
def eD(b:ad):N->N
 |0=>0
 |a+1=>if ae b a=49 then eC (eD b a) (a:I)else eD b a
def pA(c:ad)(a:N):eD c a<18446744073709551616:=by
 induction a with
  |zero=>exact(by decide:(0:N)<18446744073709551616)
  |succ a b=>unfold eD;split;exact tI _ b;exact b
def O9(d:ad)(a:N)(g:a<64)(b:N):(eD d b).testBit a=(decide (a<b)&&decide (ae d a=49)):=by
 induction b with
  |zero=>simp[eD]
  |succ b f=>
   unfold eD;by_cases c:ae d b=49;rw[am c,MU _ _ a g,f];by_cases e:a=b;subst e;simp[c];have:¬(b:I)=a:=O
   rw[c9 this,Bool.or_false];congr 1;rw[decide_eq_decide];omega;rw[ak c,f];by_cases e:a=b;subst e;simp[c];congr 1;rw[decide_eq_decide];omega
def h8(b:ad)(c:N):Prop:=∀a,a<c->ae b a=48\/ae b a=49
def nf(a:ByteArray)(b:N)(c:I):Prop:=(a.size=0/\b=0/\c=2)\/(0<a.size/\(¬h8 (d7 a) a.size)/\b=0/\c=2)\/(64<a.size/\h8 (d7 a) a.size/\b=0/\c=3)\/(0<a.size/\a.size<=64/\h8 (d7 a) a.size/\b=eD (d7 a) a.size/\c=0)
def nf.same{m:ByteArray}(n:nf m a i)(o:nf m b j):a=b/\i=j:=by unfold nf at n o;rcases n with⟨k,c,d⟩|⟨k,e,c,d⟩|⟨k,e,c,d⟩|⟨k,t,e,c,d⟩<;>rcases o with⟨l,f,g⟩|⟨l,h,f,g⟩|⟨l,h,f,g⟩|⟨l,u,h,f,g⟩<;>first|exact absurd h e|exact absurd e h|(exfalso;omega)|exact⟨by rw[c,f],by rw[d,g]⟩
def yG(b:W)(d:ByteArray)(e:bp)(f:W):Prop:=∃(a:N)(c:I),e=aq (aZ #[aa b1 (a:I),c])/\nf d a c/\a<18446744073709551616/\B b b f
def qC(a:W)(b:ByteArray)(c:N):B a a (a.iter b c):=(aS _ _).alloc (aL _) _
def ru{b:ad}(e:h8 b a)(f:ae b a=48\/ae b a=49):h8 b (a+1):=by intro d h;by_cases g:d=a;subst g;exact f;exact e d O
def O'(b:ByteArray)(f:W)(U:b.size<=65536):ap ab 111 #[a7 b] f (yG f b):=by
 go_in;go_wp2;go_loopw [4,5] (λG v wr=>∃(a d:N),wr=f.iter b a/\a<=b.size/\v=a/\G=aa b1 (d:I)/\d=eD (d7 b) a/\h8 (d7 b) a) (λ_ _ wr=>b.size-wr.iterPos f);exact⟨0,0,J,a3 _,J,J,J,λv K=>absurd K O⟩;obtain⟨a,d,rfl,X,rfl,rfl,h,k⟩:=hrel;by_cases c:a<b.size
 ·have e:=t0 b a c;have o:=Q (show d<18446744073709551616 by rw[h];exact pA _ _);have l:=Q h;have i:=Q k;clear h k;by_cases ha:(b[a]'c).toNat<128
  ·have m:=λj=>run_next_ascii (P:=ab) f b a j c ha;by_cases n:(b[a]'c).toNat=48
   ·rw[n]at m e;have p:=Q e;have q:H (eD (d7 b) (a+1)=d):=Q (by rw[eD,e,ak av,l]);clear n ha e;go_wp2;go_roundw;case rel=>exact⟨a+1,d,J,O,aK,J,q.symm,ru i (.inl p)⟩
    simp;omega
   by_cases r:(b[a]'c).toNat=49
   ·rw[r]at m e;have p:=Q e;have q:H (eD (d7 b) (a+1)=eC d (a:I)):=Q (by rw[eD,e,am av,l]);clear n r ha e;go_wp2_with fail;refine mR (tH d (a:I) _ o.out) ?_;go_wp2;go_roundw;case rel=>exact⟨a+1,_,J,O,aK,J,q.symm,ru i (.inr p)⟩
    simp;omega
   have x:(((b[a]'c).toNat:I)==48)=F:=kw
   have s:(((b[a]'c).toNat:I)==49)=F:=kw
   have H6:H (¬h8 (d7 b) b.size):=Q (λt=>Y (t a c));have H5:0<b.size:=O
   clear n r ha e;generalize(b[a]'c).toNat=ad at*;exact wq
  have m:=λj=>run_next_any (P:=ab) f b a j c;have⟨u,_⟩:=decode_high b a c O;have H6:H (¬h8 (d7 b) b.size):=Q (λt=>Y (t a c));have H5:0<b.size:=O
  clear ha e;generalize Utf8.decode b a=M at*;obtain⟨y,ae⟩:=M;have x:((y:I)==48)=F:=by rw[lz];simp at u;omega
  have s:((y:I)==49)=F:=by rw[lz];simp at u;omega
  clear u;exact wq
 have z:a=b.size:=O
 have m:=λj=>run_next_end (P:=ab) f b a j c;have g:=Q z;have l:=Q h;have i:=Q k;have o:=Q (show d<18446744073709551616 by rw[h];exact pA _ _);clear h k z c;by_cases D:a=0;·subst D;go_wp2;go_ret2;exact⟨0,2,J,.inl ⟨by rw[<-g],J,J⟩,av,qC _ _ _⟩
 have x:((a:I)==0)=F:=kw
 have P:0<a:=O
 clear D;by_cases R:64<a
 ·have s:decide (64<(a:I))=T:=by simp;omega
  go_wp2;go_ret2;exact⟨0,3,J,.inr (.inr (.inl ⟨by rw[<-g];exact R,by rw[<-g];exact i,J,J⟩)),av,qC _ _ _⟩
 have s:decide (64<(a:I))=F:=aF
 go_wp2;go_ret2;exact⟨d,0,J,.inr (.inr (.inr ⟨by rw[<-g];exact P,by rw[<-g];omega,by rw[<-g];exact i,by rw[<-g];exact l,J⟩)),o.out,qC _ _ _⟩
def Pa(c:ad)(a:N)(d:a<64)(b:ae c a=48\/ae c a=49):(h0 (eD c a)).set a (ae c a-48)=h0 (eD c (a+1)):=by rcases b with b|b;rw[b,eD,b,ak av];apply o4 D;intro g e;rw[b',lZ]at e;rw[nV (by rw[lZ];exact d),pp _ _ e];by_cases f:a=g;subst f;rw[am J,q',O9 c a d a];simp;rw[ak f];rw[b,eD,b,am J];exact MA _ a d
def Pb:h0 0=List.replicate 64 0:=hN
def Pd(a:ByteArray)(j:W)(D:a.size<=65536):ap ab 17 #[a7 a] j (yG j a):=by
 have⟨ai,k,p,q⟩:=ra j 64 av;rw[show((64:N):I)=64 from J]at k;change H _ at k p q;by_cases l:a.size=0
 ·have G:((a.size:I)==0)=T:=by rw[beq_iff_eq];omega
  have K:=Q l;clear l D;go_in;go_wp2;go_ret2;exact⟨0,2,J,.inl ⟨K,J,J⟩,av,aS _ _⟩
 have G:((a.size:I)==0)=F:=kw
 have s:0<a.size:=O
 clear l;go_in;go_wp2;go_loopw [4] (λd wr=>∃(b:N),wr=j/\b<=a.size/\d=b/\h8 (d7 a) b) (λd _=>a.size-(aw d).toNat);exact⟨0,J,a3 _,J,λd M=>absurd M O⟩;obtain⟨b,rfl,ak,rfl,f⟩:=hrel;by_cases c:b<a.size
 ·have H2:=t0 a b c;have e:=Q f;have P:=aJ b;have R:(b:I)<(a.size:I):=by omega
  clear f;by_cases g:(a[b]'c).toNat=48
  ·rw[g]at H2;have m:=Q H2;clear H2;go_wp2;go_roundw;case rel=>exact⟨b+1,trivial,O,aK,ru e (.inl m)⟩
   simp[aw];omega
  by_cases t:(a[b]'c).toNat=49
  ·rw[t]at H2;have m:=Q H2;clear H2 g;go_wp2;go_roundw;case rel=>exact⟨b+1,trivial,O,aK,ru e (.inr m)⟩
   simp[aw];omega
  have U:H (¬h8 (d7 a) a.size):=Q (λh=>Y (h b c));have u:(((a[b]'c).toNat:I)!=48)=T:=mJ
  have al:(((a[b]'c).toNat:I)!=49)=T:=mJ
  have am:(((a[b]'c).toNat:I)==48)=F:=kw
  have an:(((a[b]'c).toNat:I)==49)=F:=kw
  clear H2 g t;go_wp2;go_ret2;exact⟨0,2,J,.inr (.inl ⟨s,U,J,J⟩),av,aS _ _⟩
 have v:b=a.size:=O
 rw[v]at f;have e:=Q f;clear f v;by_cases w:64<a.size
 ·have u:decide (64<(a.size:I))=T:=by simp;omega
  go_wp2;go_ret2;exact⟨0,3,J,.inr (.inr (.inl ⟨w,e,J,J⟩)),av,aS _ _⟩
 have u:decide (64<(a.size:I))=F:=aF
 have X:a.size<=64:=O
 clear w;go_wp2_with fail;rw[k];go_wp2_with fail;generalize x:wr.heap.size=i at*;change H _ at x;go_loopw [6] (λd y=>∃(JL:N),JL<=a.size/\d=JL/\ay y i (S (A i) 64 64) (h0 (eD (d7 a) JL))/\B i wr y) (λd _=>a.size-(aw d).toNat);exact⟨0,a3 _,J,by rw[eD,Pb];exact p,q⟩;obtain⟨JL,ar,rfl,o,n⟩:=hrel;clear c;by_cases c:JL<a.size
 ·have⟨ax,hF⟩:=o.at_ JL (by rw[lZ];omega);have H2:=t0 a JL c;have DH:=o.si JL (ae (d7 a) JL-48) (by rw[lZ];omega);rw[Pa (d7 a) JL O (e JL c)]at DH;have P:=aJ JL;have R:(JL:I)<(a.size:I):=by omega
  have aA:(JL:I)<64:=O
  rcases e.oo JL c with h|h
  ·rw[h]at DH H2;have g:(a[JL]'c).toNat=48:=by omega
   have H3:=Q DH;have H4:=n.setCell (p:=⟨i,JL,none⟩) (Nat.le_refl _) (.int .i64 (48-48));exact wp
  rw[h]at DH H2;have g:(a[JL]'c).toNat=49:=O
  have H3:=Q DH;have H4:=n.setCell (p:=⟨i,JL,none⟩) (Nat.le_refl _) (.int .i64 (49-48));exact wp
 have z:JL=a.size:=O
 have ag:=Q z;have ah:=Q o.ints;clear z o;go_wp2_with fail;refine mR (MG _ (eD (d7 a) JL) _ (pA _ _) ah) ?_;go_wp2;go_ret2;exact⟨_,0,J,.inr (.inr (.inr ⟨s,X,e,by rw[ag],J⟩)),pA _ _,by rw[x];exact n⟩
instance(a:ad)(b:N):Decidable (h8 a b):=Nat.decidableBallLT b λc _=>ae a c=48\/ae a c=49
def ej(a:ByteArray):N×I:=if a.size=0\/¬h8 (d7 a) a.size then(0,2)else if 64<a.size then(0,3)else(eD (d7 a) a.size,0)
def Pe(a:ByteArray):nf a (ej a).1 (ej a).2:=by unfold ej nf;by_cases c:a.size=0;rw[am (.inl c)];exact .inl ⟨c,J,J⟩;by_cases b:h8 (d7 a) a.size;rw[ak (by rintro(d|d);exact c d;exact d b)];by_cases e:64<a.size;rw[am e];exact .inr (.inr (.inl ⟨e,b,J,J⟩));rw[ak e];exact .inr (.inr (.inr ⟨O,O,b,J,J⟩));rw[am (.inr b)];exact .inr (.inl ⟨O,b,J,J⟩)
def Pf(a:ByteArray):(ej a).1<18446744073709551616:=by unfold ej;split;exact(by decide:(0:N)<18446744073709551616);split;exact(by decide:(0:N)<18446744073709551616);exact pA _ _
def Pg(a:ByteArray)(b:W)(c:a.size<=65536):ap ab 111 #[a7 a] b (ch b (aZ #[aa b1 ((ej a).1:I),aa ac (ej a).2])):=(O' a b c).mono λf g d=>by obtain⟨h,i,rfl,hp,_,e⟩:=d;obtain⟨rfl,rfl⟩:=hp.same (Pe a);exact⟨J,e⟩
def cD.oS{g:a0}{h:aD}(m:cD w a u g)(c:M h w x)(k:∀b,b<(w:N)->h b->b<a):cD x a u g:=by obtain⟨p,q,l,hp⟩:=m;refine⟨p,q,c3 l c (λb c d=>?_),λe f=>⟨c3 (hp e f).1 c (λb c d=>?_),(hp e f).2⟩⟩;have:=bI l b c;have:=k b this.2 d;omega;have:=bI (hp e f).1 b c;have:=k b this.2 d;omega
def cD.form{b:a0}(d:cD w a u b):∃f c g,u=S f c g/\c=L b:=by obtain⟨_,_,h,_⟩:=d;rcases bW h with⟨rfl,i⟩|⟨l,m,rfl,_⟩;exact⟨_,_,_,J,i.symm⟩;exact⟨_,_,_,J,J⟩
def ng(d:I):bD->Option (Cu×Bool)
 |[]=>Z
 |c::b=>if(c' c).2=T/\b.all (λa=>decide ((ej a).2≠2))=T then A (⟨1,(c' c).1,b.map λa=>(ej a).1,0,0,0,0,0⟩,b.any λa=>decide ((a.size:I)≠d))else Z
def l6(l h:W)(c:N)(m:V)(n:Zaa)(b:cj)(o:a0)(i:Option (Cu×Bool))(p:bp)(d:W):Prop:=p=aq (au i.isSome)/\M (λa=>a=c\/b.cv.ownBlock=A a) h d/\∀j k,i=A (j,k)->∃e f g,cw l d c m n {b with cv:=S e f g,ei:=b.ei||k}/\cD d (c+1) (S e f g) (o++[j])/\(∀a,(S e f g).ownBlock=A a->b.cv.ownBlock=A a\/(h:N)<=a)
def yH{i j:W}{q:Zaa}{g Ji:cj}{h:a0}{m:Cu}{r:Bool}{k:aP}(G:cw w i a u q Ji)(P:Ji={g with ei:=g.ei||r})(n:M (λd=>d=a) x i)(ai:a<x)(Q:L k=L h)(hp:∀l,l<L h->b5 i (a+1) (k.getD l undef) (aQ h l).ps/\∀d,g.cv.ownBlock=A d->(k.getD l undef).ownBlock≠A d)(R:∀d,g.cv.ownBlock=A d->a+1<=d/\d<(x:N))(U:b5 i (a+1) v m.ps)(X:∀d,g.cv.ownBlock=A d->af v≠A d)(ad:j.ownsRow (a+1) 43 8 (S (A b) (L h+1) c) (L h+1) (hS h k++eT m v))(t:i.grownBy j g.cv.ownBlock)(y:g.cv.ownBlock=A b\/b=i):l6 w x a u q g h (A (m,r)) (aq (au T)) (aj j ⟨a,6,Z⟩ (S (A b) (L h+1) c)):=by
 have z:=M.grown t λd e=>e;have ag:=G.aO z λd _ e=>Y ((R d e).1)
 refine⟨J,?_,λak al e=>?_⟩;refine(n.trans z (λ_ _ e=>.inl e) (λd n e=>.inr e)).trans (ca j a 6 _) I2 (λ_ _ e=>.inl e);cases e;refine⟨_,_,_,?_,(cD.push Q hp U X ad t y).oS (ca j a 6 _) (λd _ e=>O),λd e=>?_⟩;exact ag.set 6 _ av (by rw[P];rfl);simp only[af,a2]at e;subst e;rcases y with D|D;exact .inl D;have:=n.size;exact .inr O
structure bZ(a:W)(b:N)(c d:I)(e:V)(f g h i j:I):Prop where
 c0:C a b=A (aa ac c)
 c1:C a ⟨b,1,Z⟩=A (aa ac d)
 c2:C a ⟨b,2,Z⟩=A e
 c3:C a ⟨b,3,Z⟩=A (aa ac f)
 c4:C a ⟨b,4,Z⟩=A (aa ac g)
 c5:C a ⟨b,5,Z⟩=A (aa ac h)
 c6:C a ⟨b,6,Z⟩=A (aa ac i)
 c7:C a ⟨b,7,Z⟩=A (aa ac j)
def bZ.lt{c d e:I}(f:bZ w a i j u k l c d e):a<w:=aR w _ f.c0
def bZ.kept{e f g:I}{row:Option N}(b:bZ w a i j u k l e f g)(c:w.grownBy x row)(d:A a≠row):bZ x a i j u k l e f g:=⟨c.cell b.c0 d,c.cell b.c1 d,c.cell b.c2 d,c.cell b.c3 d,c.cell b.c4 d,c.cell b.c5 d,c.cell b.c6 d,c.cell b.c7 d⟩
def bZ.bw{Kx:W}{b c d:I}(f:bZ w a i j u k l b c d)(q:B w w Kx):bZ Kx a i j u k l b c d:=f.kept (row:=Z) (dS q) D
def da(a:W)(c d:I)(e:V)(f g h i j:I):∃b,a.alloc (az #[c,d,e,f,g,h,i,j] 43)=b/\B a a b/\b.heap.size=(a:N)+1/\bZ b a c d e f g h i j:=⟨_,J,(aS _ _).alloc (aL _) _,D,⟨aE,aE,aE,aE,aE,aE,aE,aE⟩⟩
def bB(a:I):Bool:=decide (-9223372036854775808<=a)&&decide (a<=9223372036854775807)
def ek:bB i=T↔-9223372036854775808<=i/\i<=9223372036854775807:=by simp[bB]
def j9(a b:I):I×Bool:=if bB (a+b)=T then(a+b,T)else(0,F)
def f2(b a:I):I:=if bB (b+a)=T then b+a else if a<0 then-9223372036854775808 else 9223372036854775807
def Ph(a b:I):bB (f2 a b)=T:=by unfold f2;split;assumption;split<;>decide
def Pj(b a:I)(ha:bB b=T)(f:bB a=T):(!(decide (aB (b+a)<b)==decide (a<0)))= !bB (b+a):=by rw[ek]at ha f;by_cases c:bB (b+a)=T;rw[c];rw[ek]at c;rw[cV c.1 c.2];by_cases d:a<0;simp[d];omega;simp[d];omega;have e:¬(-9223372036854775808<=b+a/\b+a<=9223372036854775807):=λe=>c (ek.2 e);rw[Bool.not_eq_true]at c;rw[c];unfold aB;by_cases d:a<0;simp[d];omega;simp[d];omega
def yI(a b:I)(e:W)(ha:bB a=T)(f:bB b=T):ap ab 121 #[a,b] e λg h=>g=aq (aZ #[aa ac (j9 a b).1,au (j9 a b).2])/\e=h:=by
 have d:=Pj a b ha f;by_cases c:bB (a+b)=T
 ·have Dv:H (j9 a b=(a+b,T)):=by show _=_;unfold j9;rw[am c]
  have i:H (aB (a+b)=a+b):=by show _=_;rw[ek]at c;exact cV c.1 c.2
  rw[c]at d;simp only[Bool.not_true]at d;go_in;go_wp2;go_ret2;rw[Dv.out];exact⟨by rw[i.out];rfl,J⟩
 have Dv:H (j9 a b=(0,F)):=by show _=_;unfold j9;rw[ak c]
 rw[Bool.not_eq_true]at c;rw[c]at d;simp only[Bool.not_false]at d;go_in;exact qu
def Pk(b a:I)(e:W)(ha:bB b=T)(g:bB a=T):ap ab 90 #[b,a] e λi j=>i=aq (f2 b a)/\e=j:=by
 by_cases c:bB (b+a)=T
 ·have f:j9 b a=(b+a,T):=by unfold j9;rw[am c]
  have C4:H (f2 b a=b+a):=by show _=_;unfold f2;rw[am c]
  have d:=yI b a e ha g;rw[f]at d;have Et:=Q d;exact sM
 have f:j9 b a=(0,F):=by unfold j9;rw[ak c]
 have d:=yI b a e ha g;rw[f]at d;have Et:=Q d;by_cases h:a<0
 ·have C4:H (f2 b a= -9223372036854775808):=by show _=_;unfold f2;rw[ak c,am h]
  exact sM
 have C4:H (f2 b a=9223372036854775807):=by show _=_;unfold f2;rw[ak c,ak h]
 exact sM
def dm(a b c:I):I:=min (max a b) c
def pB(a b c:I)(d:W):ap ab 37 #[a,b,c] d λe f=>e=aq (dm a b c)/\d=f:=by go_in;go_wp2;go_ret;exact⟨J,J⟩
def j'(b a:I):Bool:=a==0||(b== -9223372036854775808&&a== -1)
def gV(a b:I):I×Bool:=if j' a b=T then(0,F)else(a.tdiv b+(if a.tmod b !=0&&(decide (a<0)==decide (b<0))then 1 else 0),T)
def Pl(a b:I)(ha:bB a=T)(i:b≠0)(d:j' a b=F):(-9223372036854775808<=a.tdiv b/\a.tdiv b<=9223372036854775807)/\(a.tmod b≠0->-4611686018427387904<=a.tdiv b/\a.tdiv b<=4611686018427387904):=by
 rw[ek]at ha;have e:(a.tdiv b).natAbs=a.natAbs/b.natAbs:=Int.natAbs_tdiv a b;have f:b=1\/b= -1\/2<=b.natAbs:=O
 rcases f with rfl|rfl|g;rw[Int.tdiv_one];refine⟨ha,λc=>absurd (Int.tmod_one a) c⟩;have j:a≠-9223372036854775808:=by rintro rfl;simp[j']at d
 have h:a.tdiv (-1)= -a:=by rw[Int.tdiv_neg,Int.tdiv_one]
 rw[h];refine⟨O,λc=>absurd ?_ c⟩;rw[Int.tmod_neg,Int.tmod_one];have k:a.natAbs/b.natAbs<=a.natAbs/2:=Nat.div_le_div_left g O;have:(a.tdiv b).natAbs<=4611686018427387904:=by rw[e];omega
 omega
def Pm(c a:I)(b:j' c a=T):(a==0)=T\/((a==0)=F/\(c== -9223372036854775808)=T/\(a== -1)=T):=by
 unfold j' at b;cases d:(a==0)with
  |true=>exact .inl J
  |false=>rw[d,Bool.false_or,cr]at b;exact .inr ⟨J,b.1,b.2⟩
def Pn(a d:I)(b:j' a d=F):(d==0)=F/\((a== -9223372036854775808)=F\/((a== -9223372036854775808)=T/\(d== -1)=F)):=by
 unfold j' at b;rw[Bool.or_eq_false_iff,Bool.and_eq_false_iff]at b;refine⟨b.1,?_⟩;cases e:(a== -9223372036854775808)with
  |false=>exact .inl J
  |true=>rcases b.2 with c|c;rw[e]at c;cases c;exact .inr ⟨J,c⟩
def yJ(a b:I)(l:W)(ha:bB a=T):ap ab 119 #[a,b] l λo p=>o=aq (aZ #[aa ac (gV a b).1,au (gV a b).2])/\l=p:=by
 by_cases c:j' a b=T
 ·have d:H (gV a b=(0,F)):=by show _=_;unfold gV;rw[am c]
  rcases Pm a b c with e|⟨e,j,s⟩;all_goals go_in;go_wp2;go_ret2;rw[d.out];exact⟨J,J⟩
 rw[Bool.not_eq_true]at c;have⟨q,k⟩:=Pn a b c;have r:¬b=0:=X q
 have⟨g,h⟩:=Pl a b ha r c;have f:=cV g.1 g.2;cases i:(a.tmod b !=0)with
  |false=>
   have d:H (gV a b=(aB (a.tdiv b),T)):=by show _=_;unfold gV;rw[c,i,f];simp
   clear g h f c ha;rcases k with e|⟨e,j⟩;all_goals go_in;go_wp2;go_ret2;rw[d.out];exact⟨J,J⟩
  |true=>
   have m:=h (X i);cases n:(decide (a<0)==decide (b<0))with
    |false=>
     have d:H (gV a b=(aB (a.tdiv b),T)):=by show _=_;unfold gV;rw[c,i,f,n];simp
     clear g h m f c ha;rcases k with e|⟨e,j⟩;all_goals go_in;go_wp2;go_ret2;rw[d.out];exact⟨J,J⟩
    |true=>
     have d:H (gV a b=(aB (aB (a.tdiv b)+1),T)):=by show _=_;unfold gV;rw[c,i,f,n,cV O O];simp
     clear g h m f c ha;rcases k with e|⟨e,j⟩;all_goals go_in;go_wp2;go_ret2;rw[d.out];exact⟨J,J⟩
section
def yK(abe:W)(c:bz)(b a:N)(e:bD)(k:bO abe (S c b a) e)(l:1<=b):(∀abf,(Instr.sliceAt 37 (S c b a) (A (aa ac 1)) Z Z).run ab abf= .ok (S (fd c a 1 1) (b-1) (a-1)) abf)/\bO abe (S (fd c a 1 1) (b-1) (a-1)) (e.drop 1):=by
 have⟨g,h,_⟩:=ew ne;have m:g.size=1:=by have⟨u,i,_,n,_⟩:=ew ne;rw[h]at i;cases i;exact n
 refine⟨λabf=>?_,?_⟩;have:=xz (Jd:=ab) (Kw:=abf) 37 9 g underlying37 h c b a 1 l;rw[m]at this;exact this;have⟨w,x,y,j,o,z,D,p⟩:=k.open;simp only[bf]at j;obtain⟨rfl,rfl,rfl⟩:=j;refine⟨_,_,by rw[ga,o],by rw[ga];omega,O,λd q=>?_⟩;rw[ga]at q;have⟨r,f,ha,s⟩:=p (d+1) O;refine⟨r,f+1*1,_,qX ha O,by rw[show f+1*1+d=f+(d+1) by omega];exact s,?_⟩;have t:(e.drop 1).getD d default=aG e (d+1):=by simp[aG,List.getD]
 rw[t];rfl
structure el(g d b:W)(e c:N)(h:V)(i:Zaa)(j:cj)(a:Cu)(f:V):Prop where
 rd:cw g b e h i j
 cu:bZ b c a.kd a.dm f a.rt a.sz a.st a.ru a.hd
 fz:∀k,aH b ⟨c,k,Z⟩=F
 pw:b5 b (c+1) f a.ps
 kp:M (λl=>l=e) d b
 ge:d<=c
section
variable{abd abe abf abg:W}{abh abi:N}{abj:V}{abk:Zaa}{abl abm:cj}{abn:Cu}{abo:V}
def bZ.bl{abe e:W}{d:N}{f g:I}{h:V}{i j k l m:I}{n:aD}(a:bZ abe d f g h i j k l m)(b:M n abe e)(c:¬n d):bZ e d f g h i j k l m:=⟨b.cell a.c0 c,b.cell a.c1 c,b.cell a.c2 c,b.cell a.c3 c,b.cell a.c4 c,b.cell a.c5 c,b.cell a.c6 c,b.cell a.c7 c⟩
def el.qf(a:el abd abe abf abh abi abj abk abl abn abo):abi<abf:=a.cu.lt
def el.bw(a:el abd abe abf abh abi abj abk abl abn abo)(b:B abf abf abg):el abd abe abg abh abi abj abk abl abn abo:=⟨a.rd.bw b,a.cu.bw b,λc=>aY b a.qf (a.fz c),a.pw.bw b,a.kp.then b,a.ge⟩
def el.Wu(a:el abd abe abf abh abi abj abk abl abn abo)(j:abh<abe)(b:N)(d:V)(f:b<10)(e:(om abj abl).set b d=om abj abm):el abd abe (aj abf ⟨abh,b,Z⟩ d) abh abi abj abk abm abn abo:=by
 have c:=ca abf abh b d;have g:¬abi=abh:=Y a.ge
 exact⟨a.rd.set b d f e,a.cu.bl c g,λh=>by rw[bs];exact a.fz h,c3 a.pw c (λi c e=>bi (a.pw.lt i c) a.ge),a.kp.tr c,a.ge⟩
def el.push{g c m:N}{n:N}(f:el abd abe abf abh abi abj abk abl abn abo)(y:abh<abe)(o:b5 abg (abi+1) (S (A g) n c) (abn.ps++[m]))(s:abf.grownBy abg (af abo))(z:abi+1<=g):el abd abe (aj abg ⟨abi,2,Z⟩ (S (A g) n c)) abh abi abj abk abl {abn with ps:=abn.ps++[m]} (S (A g) n c):=by
 have u:=f.ge;have k:M (λd=>af abo=A d) abf abg:=M.grown s λd a=>a;have j:=f.pw.lt;have p:=ca abg abi 2 (S (A g) n c);have e:=f.cu.bl k (λa=>Y ((j abi a).1));have q:M (λd=>af abo=A d\/d=abi) abf (aj abg ⟨abi,2,Z⟩ (S (A g) n c)):=k.trans p (λ_ _ a=>.inl a) (λ_ _ a=>.inr a);have h:∀i,¬i=2->∀l,C abg ⟨abi,i,Z⟩=A l->(aj abg ⟨abi,2,Z⟩ (S (A g) n c)).cell? ⟨abi,i,Z⟩=A l:=λi v l w=>by
  have x:(⟨abi,2,Z⟩:bQ)≠⟨abi,i,Z⟩:=by intro a;cases a;exact v J
  exact(cq _ _ _ _ x).trans w
 refine⟨f.rd.aO q (λd _ a=>?_),⟨?_,?_,?_,?_,?_,?_,?_,?_⟩,λi=>?_,c3 o p (λd r a=>?_),f.kp.trans q I2 (λd r a=>?_),u⟩;rcases a with a|a;have:=(j d a).1;omega;omega;exact h 0 O _ e.c0;exact h 1 O _ e.c1;exact bP _ _ _ (by rw[e.c2];rfl);exact h 3 O _ e.c3;exact h 4 O _ e.c4;exact h 5 O _ e.c5;exact h 6 O _ e.c6;exact h 7 O _ e.c7;rw[bs];exact k.free (f.fz i) f.qf (λa=>Y ((j abi a).1));have:=o.lt d r;omega;rcases a with a|a;have:=(j d a).1;omega;omega
end
def ka(abe:W)(b c:I)(d:V)(e f g h i:I):∃a,abe.alloc (az #[b,c,d,e,f,g,h,i] 43)=a/\B abe abe a/\bZ a abe b c d e f g h i/\∀j,aH a ⟨abe,j,Z⟩=F:=by have⟨a,k,l,_,m⟩:=da abe b c d e f g h i;exact⟨a,k,l,m,λj=>by rw[<-k];simp[go_sem]⟩
def Po(abh:N)(abj bX:V)(abk:Zaa)(c:cj)(i:a0)(ad:bD)(abd abe:W)(aT:cw abd abe abh abj abk c)(bl:cD abe (abh+1) c.cv i)(aV:bO abd bX ad)(cO:L ad<=1000000)(bm:∀d∈ad,d.size<=65536)(dE:L i<=1000000):ap ab 80 #[aM (A abh),bX] abe (l6 abd abe abh abj abk c i (ng c.n ad)):=by
 obtain⟨dF,l,bn,rfl,aW,dG,_,bo⟩:=aV.open;have⟨ae,aD⟩:=K (ng c.n ad);rw[<-aD];have aE:ae=Z->∀abf,M (λg=>g=abh) abe abf->l6 abd abe abh abj abk c i ae (aq (au F)) abf:=λe abf aF=>by rw[e];exact⟨J,aF.mono λ_ _ e=>.inl e,λ_ _ e=>by cases e⟩
 cases ad with
  |nil=>have ag:l=0:=aW.symm;subst ag;have m:=Q (aE aD abe (M.refl _ _));clear aT bl aV bo aE aD;go_in;go_wp2;go_ret;exact m
  |cons aI b=>
 have cP:1<=l:=by rw[<-aW];simp
 obtain⟨cQ,cR,rfl,o⟩:=bo 0 O;have o:=s aT.fy o;simp only[aG,List.getD_cons_zero,eX]at o;have aX:=xn aI abe (Y (bm aI (fV ..)));have ah:ae=if(c' aI).2=T/\b.all (λd=>decide ((ej d).2≠2))=T then A (⟨1,(c' aI).1,b.map λd=>(ej d).1,0,0,0,0,0⟩,b.any λd=>decide ((d.size:I)≠c.n))else Z:=aD;have⟨cS,bY⟩:=K (c' aI);rw[<-bY]at aX ah;obtain⟨w,ok⟩:=cS;simp only at aX ah;have bZ:((l:I)==0)=F:=by rw[lz];omega
 have dH:(0:I)<l:=O
 have dI:(1:I)<=l:=O
 have⟨hcut,aY⟩:=yK abd _ l bn _ aV cP;rw[List.drop_one,List.tail_cons]at aY;have cT:=Q aX;have b0:=Q aT;have b2:=Q bl;have cU:=Q (λd (cV:d∈b)=>bm d (fs _ cV));have bq:L b+1=l:=by rw[<-aW];rfl
 have dJ:l<=1000000:=O
 replace aY:=Q aY;change H _ at aE bq;change H _ at ah;clear aT bl aV bo aD aX bY bm aW cO;go_in;go_wp2_with fail;refine mU cT λbr ai=>?_;cases ok with
  |false=>have m:=Q (aE (by rw[ah];simp) br (M.bw ai));clear ai;go_wp2;go_ret;exact m
  |true=>
 have⟨cW,b3,b6,bs,bt⟩:=ka br 1 w (S Z 0 0) 0 0 0 0 0;have⟨abi,a1⟩:=K (br:N);rw[<-a1]at bs bt;have bu:=ai.trans (b6.mono ai.size);have b7:el abd abe cW abh abi abj abk {c with ei:=c.ei||false} ⟨1,w,[],0,0,0,0,0⟩ (S Z 0 0):=⟨by rw[Bool.or_false];exact b0.bw bu,bs,bt,b5.nil _ _,M.bw bu,by rw[a1];exact ai.size⟩
 change H _ at b3;change H _ at b7 a1;clear ai b6 bs bt bu;go_upto_region 7 with(rw[b3])
 rw[<-a1];clear o;go_wp2_with fail;have⟨cX,b8⟩:=K (fd (A ⟨cQ,cR,Z⟩) bn 1 1);have⟨h,b9⟩:=K (l-1);have⟨cY,b'⟩:=K (bn-1);have a2:=aY.oo;have cZ:L b=h:=Y bq.oo
 rw[<-b8,<-b9,<-b']at a2⊢;have⟨_,_,_,ca,_,_,_,cc⟩:=a2.open;simp only[bf]at ca;obtain⟨rfl,rfl,rfl⟩:=ca;have bx:∀a,a<h->aG b a∈b:=λa k=>by rw[show aG b a=b[a] by simp[aG,show a<L b by omega]];exact dY _
 have c0:=Q (λa k c1=>Pg (aG b a) c1 (cU _ (bx a k)));have cd:∀a,a<h->(ej (aG b a)).2=2->ae=Z:=λa k e=>by rw[ah,ak];rintro⟨_,bz⟩;have:=d4.1 bz _ (bx a k);simp[e]at this
 have ce:(∀a,a<h->(ej (aG b a)).2≠2)->ae=A (⟨1,w,b.map λd=>(ej d).1,0,0,0,0,0⟩,b.any λd=>decide ((d.size:I)≠c.n)):=λbz=>by rw[ah,am];refine⟨trivial,?_⟩;rw[d4];intro dK bA;obtain⟨a,k,rfl⟩:=gP bA;have:=bz a O;rw[show aG b a=b[a] by simp[aG,k]]at this;simpa using this
 have cf:∀a,a<h->b.take (a+1)=b.take a++[aG b a]:=λa k=>by rw[eR (by omega:a<L b),show aG b a=b[a] by simp[aG,show a<L b by omega]]
 have aL:abh<abe:=b0.lt;have dL:h<=1000000:=O
 have cg:b.take h=b:=cm O;change H _ at cc cd ce cf aL cg;have c3:∀abf,B abd abd abf->bO abf (S cX h cY) b:=λabf c4=>bO.dj.bw a2 c4;clear b8 b9 b' a2 cZ bx c3;go_loopw [29] (λbB wr=>∃(a:N) (abo:V) (x:Bool),bB=(a:I)/\a<=h/\el abd abe wr abh abi abj abk {c with ei:=c.ei||x} ⟨1,w,(b.take a).map λd=>(ej d).1,0,0,0,0,0⟩ abo/\x=(b.take a).any (λd=>decide ((d.size:I)≠c.n))/\∀y,y<a->(ej (aG b y)).2≠2) (λbB _=>h-(aw bB).toNat);exact⟨0,_,F,J,a3 _,b7,J,λa k=>absurd k (fx _)⟩;obtain⟨a,abo,x,rfl,k,f,aN,ag⟩:=hrel;obtain⟨G,rfl⟩:=K wr;by_cases al:a<h
 ·obtain⟨dM,dN,rfl,o⟩:=cc a al;have o:=s f.rd.fy o;have a4:=c0 a al G;have a5:=cd a al;have a6:=cf a al;have⟨j,bC⟩:=K (aG b a);rw[<-bC]at o a4 a5 a6;have⟨a8,a9⟩:=K ((ej j).2);have⟨ch,bE⟩:=K ((ej j).1);rw[<-a9,<-bE]at a4;rw[<-a9]at a5;have ci:a8≠2->∀y,y<a+1->(ej (aG b y)).2≠2:=λbA y dO=>by by_cases e:y=a;subst e;rw[<-bC,<-a9];exact bA;exact ag y O
  have⟨ar,ba⟩:=K ((b.take a).map λd=>(ej d).1);have cl:(b.take (a+1)).map (λd=>(ej d).1)=ar++[ch]:=by rw[a6,ck,ba,bE];rfl
  have cn:(b.take (a+1)).any (λd=>decide ((d.size:I)≠c.n))=(x||decide ((j.size:I)≠c.n)):=by rw[a6,List.any_append,aN];simp
  have bF:L ar=a:=by rw[ba,de,dd];have:=bq.oo;omega
  rw[<-ba]at f;have c5:=Q a4;have c6:=Q f;have dP:=aJ a;have dQ:(a:I)<h:=O
  have c7:=Q cn;replace bF:=Q bF;change H _ at a5 ci cl;clear cn;clear ag f aN a4 bC a9 bE ba a6;go_wp2_with fail;refine mU c5 λbG bI=>?_;have P:=c6.bw bI;clear o;by_cases av:a8=2
  ·have m:=Q (aE.oo (a5 av) bG P.kp);have c8:(a8==2)=T:=by simpa using av
   clear P bI av;go_wp2;go_ret;exact m
  have c8:(a8==2)=F:=X av
  have c9:=Q (ci.oo av);have da:=P.rd.aA 2 _ J;have db:=P.rd.aA 9 _ J;have dc:=P.rd.bH 9;have co:=Q P;clear P bI av;go_upto_if 47 with fail;go_cut [] (λdf=>el abd abe df abh abi abj abk {c with ei:=c.ei||(x||decide ((j.size:I)≠c.n))} ⟨1,w,ar,0,0,0,0,0⟩ abo);case first=>
   by_cases ay:(j.size:I)=c.n
   ·have dg:((j.size:I)!=c.n)=F:=by simpa using ay
    have m:=Q (show el abd abe bG abh abi abj abk {c with ei:=c.ei||(x||decide ((j.size:I)≠c.n))} ⟨1,w,ar,0,0,0,0,0⟩ abo by rw[show decide ((j.size:I)≠c.n)=F by simpa using ay,Bool.or_false];exact co);clear ay;go_wp2;go_meet;exact m
   have dg:((j.size:I)!=c.n)=T:=X ay
   have m:=Q (show el abd abe (aj bG ⟨abh,9,Z⟩ (au T)) abh abi abj abk {c with ei:=c.ei||(x||decide ((j.size:I)≠c.n))} ⟨1,w,ar,0,0,0,0,0⟩ abo by rw[show decide ((j.size:I)≠c.n)=T by simpa using ay,Bool.or_true,Bool.or_true];exact co.Wu aL 9 _ (by decide) J);clear ay;go_wp2;go_meet;exact m
  obtain⟨dh,rfl⟩:=K wc;have R:=hcut;clear da db dc;obtain⟨p,r,t,rfl⟩:∃U bJ z,abo=S U bJ z:=by have⟨U,z,e,_⟩:=R.pw.words;exact⟨U,_,z,e⟩
  have cp:=R.cu.c2;have cq:=R.fz 2;have cr:=R.pw;have cs:=R.qf;have di:=Q R;clear hcut R;go_upto_region 15 with fail;go_wp2_with (at_builtin;refine sI J _ _ J dh (abi+1) (S p r t) ar ch J J cr (by rw[bF];omega) cs ?_);intro D z ct cx cy bK cz dk;have cA:=di.push aL cx cy cz;have dR:C ct ⟨abi,2,Z⟩=A (S p r t):=bk bK (fD _) cp;have dS:aH ct ⟨abi,2,Z⟩=F:=ex bK (fD _) cq;change H _ at cA;clear cx cy bK cz dk cr cs cp cq;go_wp2;go_roundw;case rel=>exact⟨a+1,_,_,by go_num,O,by rw[cl];exact cA,c7.symm,c9⟩
  simp only[aw];first|exact dZ al|exact ea al O
 have dl:a=h:=O
 subst dl;have bb:=ce ag;rw[cg]at f aN;rw[<-aN]at bb;obtain⟨abn,cB⟩:∃abn:Cu,abn=⟨1,w,b.map λd=>(ej d).1,0,0,0,0,0⟩:=⟨_,J⟩
 rw[<-cB]at f bb;have bL:=b2.oS f.kp (λg _ e=>O);have⟨aO,aP,aQ,u,_⟩:=bL.form;rename_i dn;clear dn;obtain⟨p,r,t,rfl⟩:∃U bJ z,abo=S U bJ z:=by have⟨U,z,e,_⟩:=f.pw.words;exact⟨U,_,z,e⟩
 have bM:=f.rd.aA 6 _ J;have cC:=f.rd.bH 6;have⟨dp,bZ,dq,dr,ds,dt,du,dv⟩:=f.cu;simp only at bM cC;rw[u]at bM;have⟨aC,bN,cE,dw,_⟩:=ka G abn.kd abn.dm (S p r t) abn.rt abn.sz abn.st abn.ru abn.hd;have bP:=ax.new G (eT abn (S p r t)) 43;have cF:G.alloc (az (eT abn (S p r t)).toArray 43)=aC:=bN;rw[cF]at bP;have be:B G G aC.drew:=q cE (an _);have v:=f.bw be;have dx:=bL.bw be;have aR:∀g,c.cv.ownBlock=A g->abh+1<=g/\g<(abe:N):=λg aF=>b2.lt g aF;obtain⟨cG,cH,bR,bS⟩:=dx;have bT:∀g,c.cv.ownBlock=A g->(S p r t).ownBlock≠A g:=λg aF e=>by have:=(aR g aF).2;have:=(f.pw.lt g e).1;have:=f.ge;omega
 rw[u]at bR bS aR bT;have bU:abh+1<=abi+1:=bi f.ge aL.oo
 have cI:=sX (v.pw.mono bU);have cJ:abh+1<=(aC.drew:N):=v.rd.lt;have cK:∀D aS abg,abg.ownsRow (abh+1) 43 8 (S (A ⟨D,0,Z⟩) (L i+1) aS) (L i+1) (hS i cG++eT abn (S p r t))->aC.drew.grownBy abg (S aO aP aQ).ownBlock->((S aO aP aQ).ownBlock=A D\/D=(aC.drew:N))->l6 abd abe abh abj abk c i ae (aq (au T)) (aj abg ⟨abh,6,Z⟩ (S (A ⟨D,0,Z⟩) (L i+1) aS))/\C abg ⟨abh,6,Z⟩=A (S aO aP aQ)/\aH abg ⟨abh,6,Z⟩=F:=λD aS abg bg bV bh=>by
  have cL:A abh≠(S aO aP aQ).ownBlock:=λe=>Y ((aR abh e.symm).1)
  refine⟨?_,?_,eS bV v.rd.lt cL (v.rd.bH 6)⟩;rw[bb];exact yH (Ji:={c with ei:=c.ei||x}) v.rd J v.kp aL cH (by rw[u];exact bS) (by rw[u];exact aR) (v.pw.mono bU) (by rw[u];exact bT) bg (by rw[u];exact bV) (by rw[u];exact bh);have:=v.rd.aA 6 _ J;simp only at this;rw[u]at this;exact bV.cell this cL
 have dy:=Q bP;change H _ at bN bR;clear bP;change H _ at cK;clear f bb bL v bS aR bT bU dw cF cE cH cC ag aN u cB;go_upto_region 17 with fail;refine bv [0,1,2,3,4,105,106,207,308,9,10,11,312] ?_;iterate 7 refine mS ?_
 refine aU λdz bW=>?_;go_simp;try rw[bN]
 refine bW _ _ (.mk be) ?_;clear bM dp bZ dq dr ds dt du dv;refine b4 λdz bW=>?_;refine iy (.tmp 63) (.tmp 65) 24 43 _ 8 80 underlying24 sU J (by decide) (by decide) J aC.drew (abh+1) (S aO aP aQ) (L i) (hS i cG) (eT abn (S p r t)) G J J (dy.bw (an _)) J cI bR O cJ ?_;intro D aS dA bg cM bh dB;have⟨cN,dC,dD⟩:=cK D aS dA bg cM bh;change H _ at cN;refine bW _ _ ?_;clear bg cM bh dB cI cJ be;iterate 4 refine mS ?_
 refine bc ?_;clear dC dD;go_wp2;go_ret;exact cN
end
section
attribute [local go_sem] Oper.semAt_some
def l7:ByteArray:=⟨#[102,105,108,108]⟩
def pC:ByteArray:=⟨#[97,110,121]⟩
def kZ(a:bD):Option (Cu×Bool):=if (L a)=5/\(dy [aG a 0,aG a 1,aG a 2,aG a 4]).2=T/\(aG a 3=l7\/aG a 3=pC)then A (⟨2,0,[],ae (dy [aG a 0,aG a 1,aG a 2,aG a 4]).1 0,ae (dy [aG a 0,aG a 1,aG a 2,aG a 4]).1 1,ae (dy [aG a 0,aG a 1,aG a 2,aG a 4]).1 2,if aG a 3=l7 then 1 else 2,ae (dy [aG a 0,aG a 1,aG a 2,aG a 4]).1 3⟩,F)else Z
def yL:l7.toList=[102,105,108,108]:=su
def yM:pC.toList=[97,110,121]:=su
def el.BH{n:W}{q:Zaa}{r:cj}{s:br}{t G y Ka:I}(e:el w x n a b u q r ⟨i,j,s,k,l,t,G,y⟩ v)(ag:a<x):el w x (aj n ⟨b,6,Z⟩ Ka) a b u q r ⟨i,j,s,k,l,t,Ka,y⟩ v:=by
 have X:=e.ge;have m:=ca n b 6 Ka;have d:=e.cu;have g:∀h,¬h=6->∀o,C n ⟨b,h,Z⟩=A o->(aj n ⟨b,6,Z⟩ Ka).cell? ⟨b,h,Z⟩=A o:=λh Cs o ad=>by
  have ae:(⟨b,6,Z⟩:bQ)≠⟨b,h,Z⟩:=sC
  exact(cq _ _ _ _ ae).trans ad
 refine⟨e.rd.aO m (λp _ f=>O),⟨g 0 O _ d.c0,g 1 O _ d.c1,g 2 O _ d.c2,g 3 O _ d.c3,g 4 O _ d.c4,g 5 O _ d.c5,?_,g 7 O _ d.c7⟩,λh=>by rw[bs];exact e.fz h,c3 e.pw m (λp m f=>Y (e.pw.lt p m)),e.kp.trans m I2 (λp m f=>O),X⟩;exact bP _ _ _ (by rw[d.c6];rfl)
def Pp(c:N)(ad b3:V)(ag:Zaa)(d:cj)(p:a0)(a:bD)(v b:W)(w:cw v b c ad ag d)(bn:cD b (c+1) d.cv p)(bo:bO v b3 a)(b6:∀b7∈a,b7.size<=65536)(da:L p<=1000000):ap ab 81 #[aM (A ⟨c,0,Z⟩),b3] b (l6 v b c ad ag d p (kZ a)):=by
 obtain⟨db,b8,dc,rfl,b9,_,_,t⟩:=bo.open;have⟨R,aK⟩:=K (kZ a);rw[<-aK];have aL:R=Z->∀bq,M (λe=>e=c) b bq->l6 v b c ad ag d p R (aq (au F)) bq:=λf bq aO=>by rw[f];exact⟨J,aO.mono λ_ _ f=>.inl f,λ_ _ f=>f'⟩
 by_cases b':b8=5;rotate_left
 ·have dd:((b8:I)!=5)=T:=by rw[bne_iff_ne];omega
  have g:=Q (aL (by rw[aK,kZ,ak (by rintro⟨de,_⟩;omega)]) b (M.refl _ _));clear w bn bo t aL aK b';go_in;go_wp2;go_ret;exact g
 subst b';obtain⟨cJ,cK,rfl,u⟩:=t 0 O;have aP:∀i,i<5->C v ⟨cJ,cK+i,Z⟩=A (a7 (aG a i)):=λi ca=>by have⟨_,_,f,cL⟩:=t i ca;simp only[a2,bN,bT]at f;obtain⟨rfl,rfl⟩:=f;exact cL
 have f1:=s w.fy (aP 1 O);have ah:=s w.fy (aP 2 O);have br:=aP 3 O;have bs:=s w.fy (aP 4 O);have u:=s w.fy u;rw[eX]at u;have aQ:∀i,i<5->(aG a i).size<=65536:=λi ca=>b6 _ (by rw[show aG a i=a[i] by simp[aG,show i<L a by omega]];exact dY _);have al:R=if(dy [aG a 0,aG a 1,aG a 2,aG a 4]).2=T/\(aG a 3=l7\/aG a 3=pC)then A (⟨2,0,[],ae (dy [aG a 0,aG a 1,aG a 2,aG a 4]).1 0,ae (dy [aG a 0,aG a 1,aG a 2,aG a 4]).1 1,ae (dy [aG a 0,aG a 1,aG a 2,aG a 4]).1 2,if aG a 3=l7 then 1 else 2,ae (dy [aG a 0,aG a 1,aG a 2,aG a 4]).1 3⟩,F)else Z:=by rw[aK,kZ];simp only[b9,true_and]
 have ai:=λ(bt:World) (df:Below (b:Nat) b bt) (j:bO bt (.slice (some ⟨b,0,none⟩) 4 4) [aG a 0,aG a 1,aG a 2,aG a 4])=>te _ _ bt j D (λb7 cc=>by simp only[List.mem_cons,List.not_mem_nil,or_false]at cc;rcases cc with rfl|rfl|rfl|rfl;have:=aQ 0 O;omega;have:=aQ 1 O;omega;have:=aQ 2 O;omega;have:=aQ 4 O;omega);have a8:=λw=>yx (JQ:=[aG a 0,aG a 1,aG a 2,aG a 4]) w;have ar:=jh b [aG a 0,aG a 1,aG a 2,aG a 4] D;have⟨cM,cd⟩:=K (dy [aG a 0,aG a 1,aG a 2,aG a 4]);rw[<-cd]at al ai a8;clear cd aK;have⟨ce,cf⟩:=K (aG a 0);have⟨cg,ch⟩:=K (aG a 1);have⟨ci,ck⟩:=K (aG a 2);have⟨x,cl⟩:=K (aG a 3);have⟨cm,cn⟩:=K (aG a 4);rw[<-cf]at u ar ai;rw[<-ch]at f1 ar ai;rw[<-ck]at ah ar ai;rw[<-cl]at br al;rw[<-cn]at bs ar ai;obtain⟨aR,bu,aS⟩:∃aR,b.alloc (az #[a7 ce,a7 cg,a7 ci,a7 cm] 9)=aR/\B b b aR:=⟨_,J,aN _ _⟩
 have co:bO aR (S (A (b:N)) 4 4) [ce,cg,ci,cm]:=by rw[<-bu];exact ar
 have cN:=Q (ai aR.drew (q aS (an _)) (bO.dj.bw co (an _)));obtain⟨bx,ok⟩:=cM;simp only at al a8;have cp:=Q w;have cq:=Q bn;change H _ at aL a8 bu;change H _ at br al;clear w bn bo t aP ar co ai aQ cf ch ck cl cn b6 b9;go_in;go_upto_region 3 with fail;go_cut [5,6] (λcO cP aC=>∃a9 ba bb,cO=S a9 ba bb/\cP=au ok/\ay aC b (S a9 ba bb) bx/\B b b aC);case first=>
  refine bv [0,1,3,4,6,7,9,10,102,105,108,111,212,213,14,15,16,17,18] ?_;iterate 12 refine mS ?_
  refine aU λaT r=>?_;go_simp;try rw[bu]
  refine r _ _ (.mk (q aS (an _))) ?_;clear u f1 ah bs;refine aU λaT r=>?_;go_simp;refine mF cN λbe a9 ba bb ⟨aD,y⟩=>?_;have bz:=q (q aS (an _)) y;refine r _ _ (.mk bz) ?_;iterate 5 refine mS ?_
  refine bc ?_;have g:=Q (U (aD.mono (q aS (an _)).size) bz);clear aD y bz;go_wp2;go_meet;exact⟨_,_,_,J,J,g.1,g.2⟩
 obtain⟨a9,ba,bb,rfl,rfl,aD,y⟩:=hcut;obtain⟨be,rfl⟩:=K wc;clear u f1 ah bs aS;cases ok with
  |false=>have g:=Q (aL (by rw[al,ak (by rintro⟨f,_⟩;cases f)]) be (M.bw y));clear aD y;go_wp2;go_ret;exact g
  |true=>
 have cr:=a8 dk;obtain⟨k,l,n,o,rfl⟩:∃k l n o,bx=[k,l,n,o]:=by
  match bx,cr with
   |[k,l,n,o],_=>exact⟨_,_,_,_,J⟩
 have⟨X,dg,cs,cQ,cR,cS,t⟩:=aD.out D;simp only[bf]at cs;obtain⟨rfl,rfl,rfl⟩:=cs;have u:=(t 0 D).1;have f1:=(t 1 D).1;have ah:=(t 2 D).1;have bA:=(t 3 D).1;simp only[ae,List.getD_cons_zero,List.getD_cons_succ,eX,bX]at u f1 ah bA;have bB:=Q (show R=if x=l7\/x=pC then A (⟨2,0,[],k,l,n,if x=l7 then 1 else 2,o⟩,F)else Z by rw[al];simp[ae]);have⟨bC,ct,cx,bE,bF⟩:=ka be 2 0 (S Z 0 0) k l n 0 o;have⟨aV,bg⟩:=K (be:N);rw[<-bg]at bE bF;have bG:=y.trans (cx.mono y.size);have bI:el v b bC.drew c aV ad ag {d with ei:=d.ei||false} ⟨2,0,[],k,l,n,0,o⟩ (S Z 0 0):=(show el v b bC c aV ad ag {d with ei:=d.ei||false} ⟨2,0,[],k,l,n,0,o⟩ (S Z 0 0)from⟨by rw[Bool.or_false];exact cp.bw bG,bE,bF,b5.nil _ _,M.bw bG,by rw[bg];exact y.size⟩).bw (an _);have cT:=s bI.rd.fy br;have aW:c<b:=cp.lt;have aX:=Q bI;change H _ at ct aW;change H _ at bg;clear aD t cQ cR cS cr cx bE bF bG bI;go_upto_region 6 with fail;go_cut [7] (λcU aC=>cU=aM (A aV)/\aC=bC.drew);case first=>
  refine bv [0,1,3,4,6,7,9,10,102,105,108,111,12,213,314] ?_;iterate 13 refine mS ?_
  refine aU λaT r=>?_;go_simp;refine r _ _ (.mk (q (aN _ _) (an _))) ?_;clear u f1 ah bA;refine b4 λaT r=>?_;go_simp;try rw[ct]
  refine r _ _ ?_;refine bc ?_;rw[<-bg];go_wp2;go_meet;exact⟨J,J⟩
 case rest=>
 obtain⟨rfl,rfl⟩:=hcut;clear u f1 ah bA y;have bK:=aX.cu.c6;have aY:=aX.fz 6;simp only at bK;go_upto_block 0 with fail;go_cut [] (λaC=>∃bh:I,R=A (⟨2,0,[],k,l,n,bh,o⟩,F)/\el v b aC c aV ad ag {d with ei:=d.ei||false} ⟨2,0,[],k,l,n,bh,o⟩ (S Z 0 0));case first=>
  by_cases z:x=l7
  ·have bL:(x.toList==[102,105,108,108])=T:=by rw[<-yL,oo];simpa using z
   have g:=Q (U (show R=A (⟨2,0,[],k,l,n,1,o⟩,F) by rw[bB.oo,am (.inl z),am z]) (aX.oo.BH (Ka:=1) aW.oo));clear z;go_wp2;go_meet;exact⟨1,g.1,g.2⟩
  have bL:(x.toList==[102,105,108,108])=F:=by rw[<-yL,oo];simpa using z
  by_cases aE:x=pC
  ·have bM:(x.toList==[97,110,121])=T:=by rw[<-yM,oo];simpa using aE
   have g:=Q (U (show R=A (⟨2,0,[],k,l,n,2,o⟩,F) by rw[bB.oo,am (.inr aE),ak z]) (aX.oo.BH (Ka:=2) aW.oo));clear z aE;go_wp2;go_meet;exact⟨2,g.1,g.2⟩
  have bM:(x.toList==[97,110,121])=F:=by rw[<-yM,oo];simpa using aE
  have g:=Q (aL.oo (by rw[bB,ak (by rintro(f|f);exact z f;exact aE f)]) _ aX.kp);clear bK aY z aE;go_wp2;go_ret;exact g
 obtain⟨bh,bP,j⟩:=hcut;obtain⟨aF,rfl⟩:=K wc;clear bK aY cT;obtain⟨h,cy⟩:∃h:Cu,h=⟨2,0,[],k,l,n,bh,o⟩:=⟨_,J⟩
 rw[<-cy]at j bP;have bR:=cq.oS j.kp (λe _ f=>O);have⟨a1,a3,a4,G,_⟩:=bR.form;rename_i cW;clear cW;have bS:=j.rd.aA 6 _ J;have aY:=j.rd.bH 6;have⟨cX,bL,bM,cY,cZ,c0,c1,c2⟩:=j.cu;simp only at bS aY;rw[G]at bS;have⟨aI,bU,cz,c3,_⟩:=ka aF h.kd h.dm (S Z 0 0) h.rt h.sz h.st h.ru h.hd;have bV:=ax.new aF (eT h (S Z 0 0)) 43;have cA:aF.alloc (az (eT h (S Z 0 0)).toArray 43)=aI:=bU;rw[cA]at bV;have bk:B aF aF aI.drew:=q cz (an _);have P:=j.bw bk;have c4:=bR.bw bk;have a5:∀e,d.cv.ownBlock=A e->c+1<=e/\e<(b:N):=λe aO=>cq.lt e aO;obtain⟨cB,cC,bW,bY⟩:=c4;have bZ:∀e,d.cv.ownBlock=A e->(S Z 0 0).ownBlock≠A e:=λe aO f=>by have:=(a5 e aO).2;have:=(j.pw.lt e f).1;have:=j.ge;omega
 rw[G]at bW bY a5 bZ;have b0:c+1<=aV+1:=bi j.ge aW.oo
 have cE:=sX (P.pw.mono b0);have cF:c+1<=(aI.drew:N):=P.rd.lt;have cG:∀X a6 aJ,aJ.ownsRow (c+1) 43 8 (S (A ⟨X,0,Z⟩) (L p+1) a6) (L p+1) (hS p cB++eT h (S Z 0 0))->aI.drew.grownBy aJ (S a1 a3 a4).ownBlock->((S a1 a3 a4).ownBlock=A X\/X=(aI.drew:N))->l6 v b c ad ag d p R (aq (au T)) (aj aJ ⟨c,6,Z⟩ (S (A ⟨X,0,Z⟩) (L p+1) a6))/\C aJ ⟨c,6,Z⟩=A (S a1 a3 a4)/\aH aJ ⟨c,6,Z⟩=F:=λX a6 aJ bl b2 bm=>by
  have cH:A c≠(S a1 a3 a4).ownBlock:=λf=>Y ((a5 c f.symm).1)
  refine⟨?_,?_,eS b2 P.rd.lt cH (P.rd.bH 6)⟩;rw[bP];exact yH (Ji:={d with ei:=d.ei||false}) P.rd J P.kp aW cC (by rw[G];exact bY) (by rw[G];exact a5) (P.pw.mono b0) (by rw[G];exact bZ) bl (by rw[G];exact b2) (by rw[G];exact bm);have:=P.rd.aA 6 _ J;simp only at this;rw[G]at this;exact b2.cell this cH
 have c5:=Q bV;change H _ at bU bW;clear bV;change H _ at cG;clear j bP bR P bY a5 bZ b0 c3 cA cz cC aY G cy;go_upto_region 13 with fail;refine bv [0,1,2,3,4,105,106,207,308,9,10,11,312] ?_;iterate 7 refine mS ?_
 refine aU λaT r=>?_;go_simp;try rw[bU]
 refine r _ _ (.mk bk) ?_;clear bS cX bL bM cY cZ c0 c1 c2;refine b4 λaT r=>?_;refine iy (.tmp 57) (.tmp 59) 24 43 _ 8 80 underlying24 sU J av av J aI.drew (c+1) (S a1 a3 a4) (L p) (hS p cB) (eT h (S Z 0 0)) aF J J (c5.bw (an _)) J cE bW O cF ?_;intro X a6 c7 bl cI bm c8;have⟨m,c9,c'⟩:=cG X a6 c7 bl cI bm;change H _ at m;refine r _ _ ?_;clear bl cI bm c8 cE cF bk;iterate 4 refine mS ?_
 refine bc ?_;clear c9 c';exact mW
end
section
section
variable{abp:cb}{abq:W}{abr abs abt:bj}{abu abv:N}{abw:Array MapEntry}{abx aby:V}{abz:TypeDesc}
def rv(a:abq.heap[abu]? =A (.map abw abv))(b:abp.underlying abr=A (.map abs abt))(c:∀d,(Instr.checkKey d 10000 abs abx).run abp abq= .ok () abq)(e:abp.underlying abs=A abz)(f:Instr.findNow abz abx abw.toList 0=A Z):(Instr.mapUpdate abr (.map (A abu)) abx aby).run abp abq= .ok () (fe abq abu (.map (abw.push {key:=abx,val:=aby,born:=abv}) (abv+1))):=by unfold Instr.mapUpdate;simp[run_underlying b,Result.andThen,MapKept.run_getObj_map a,c,MapKept.run_findKey e f,MapKept.run_setObj_map _ a,fe]
def rx{JL:N}(a:abq.heap[abu]? =A (.map abw abv))(b:abp.underlying abr=A (.map abs abt))(c:∀d,(Instr.checkKey d 10000 abs abx).run abp abq= .ok () abq)(e:abp.underlying abs=A abz)(f:Instr.findNow abz abx abw.toList 0=A (A (JL,aby))):(Instr.lookup abr (.map (A abu)) abx T).run abp abq= .ok (aZ #[aby,au T]) abq:=by unfold Instr.lookup;simp[run_underlying b,Result.andThen,MapKept.run_getObj_map a,c,MapKept.run_findKey e f]
def Pq(a:abq.heap[abu]? =A (.map abw abv))(b:abp.underlying abr=A (.map abs abt))(c:∀d,(Instr.checkKey d 10000 abs abx).run abp abq= .ok () abq)(e:abp.underlying abs=A abz)(f:Instr.findNow abz abx abw.toList 0=A Z)(g:(zeroValue abt).run abp abq= .ok aby abq):(Instr.lookup abr (.map (A abu)) abx T).run abp abq= .ok (aZ #[aby,au F]) abq:=by unfold Instr.lookup;simp[run_underlying b,Result.andThen,MapKept.run_getObj_map a,c,MapKept.run_findKey e f,g]
def pD(a:abp.underlying abs=some .string)(b:Bool)(c:ByteArray):(Instr.checkKey b 10000 abs (.string c)).run abp abq= .ok () abq:=by unfold Instr.checkKey;simp[run_underlying a,Result.andThen]
end
def kb:ByteArray:=⟨#[118,105,115,105,116]⟩
def k0:ByteArray:=⟨#[116,97,110,107]⟩
def k1(a b:N):V:=.func (.func a) #[aM (A b)] #[]
def kc(abq:W)(b a:N):Prop:=abq.heap[b]? =A (.map #[{key:=a7 kb,val:=k1 80 a,born:=0},{key:=a7 k0,val:=k1 81 a,born:=1}] 2)
def kc.lt{abq:W}{a b:N}(c:kc abq a b):a<abq:=(bM.1 c).1
def kc.aO{I':aD}{abq b:W}{a c:N}(d:kc abq a c)(e:M I' abq b)(f:¬I' a):kc b a c:=(e.block a d.lt f).trans d
def Pr(abq:W)(a:N):∃d c,(Instr.mapUpdate 147 (.map (A (abq:N))) (a7 ⟨#[118,105,115,105,116]⟩) (.func (.func 80) #[aM (A a)] #[])).run ab (abq.alloc (.map #[] 0))= .ok () d/\(Instr.mapUpdate 147 (.map (A (abq:N))) (a7 ⟨#[116,97,110,107]⟩) (.func (.func 81) #[aM (A a)] #[])).run ab d= .ok () c/\kc c abq a/\B abq abq c:=by have e:(abq.alloc (.map #[] 0)).heap[(abq:N)]? =A (.map #[] 0):=heap_alloc_last abq _;have f:=rv (abp:=ab) (abr:=147) (abx:=a7 kb) (aby:=k1 80 a) e underlying147 (λb=>pD underlying9 b _) underlying9 J;have g:=rv (abp:=ab) (abr:=147) (abx:=a7 k0) (aby:=k1 81 a) (lX (Kw:=abq.alloc (.map #[] 0)) (Js:=(abq:N)) (J3:=.map ((#[]:Array MapEntry).push {key:=a7 kb,val:=k1 80 a,born:=0}) (0+1)) D) underlying147 (λb=>pD underlying9 b _) underlying9 (by simp only[Instr.findNow,Instr.sameNow,Array.toList_push,List.nil_append];rw[show(k0==kb)=F by decide]);refine⟨_,_,f,g,?_,?_⟩;exact lX (by simp[fe]);refine((aS abq abq).alloc (aL _) _).trans ((lW _ abq _).bg D λh i b=>O)|>.trans ((lW _ abq _).bg (by simp[fe]) λh i b=>O)
def Ps{abq:W}{c d:N}(e:kc abq c d)(b:ByteArray):(b=kb->(Instr.lookup 147 (.map (A c)) (a7 b) T).run ab abq= .ok (aZ #[k1 80 d,au T]) abq)/\(b=k0->(Instr.lookup 147 (.map (A c)) (a7 b) T).run ab abq= .ok (aZ #[k1 81 d,au T]) abq)/\(b≠kb->b≠k0->(Instr.lookup 147 (.map (A c)) (a7 b) T).run ab abq= .ok (aZ #[.nilFunc,au F]) abq):=by
 have a:∀f abu:ByteArray,(f==abu)=decide (f=abu):=λf abu=>by rw[Bool.eq_iff_iff,decide_eq_true_iff,MapKept.bytes_beq]
 refine⟨λg=>rx (JL:=0) e underlying147 (λa=>pD underlying9 a _) underlying9 ?_,λg=>rx (JL:=1) e underlying147 (λa=>pD underlying9 a _) underlying9 ?_,λi j=>Pq e underlying147 (λa=>pD underlying9 a _) underlying9 ?_ (by kernel_rfl)⟩;subst g;simp only[Instr.findNow,Instr.sameNow,a,decide_true];subst g;simp only[Instr.findNow,Instr.sameNow,a,decide_true];rw[show decide (k0=kb)=F by decide];simp only[Instr.findNow,Instr.sameNow,a];rw[c9 i,c9 j]
end
def ry(c:I):bD->Option (Cu×Bool)
 |[]=>Z
 |a::b=>if a=kb then ng c b else if a=k0 then kZ b else Z
def gx(d:I)(e:Zaa):N->N->a0->Bool->Option (E Cu×Bool×N)
 |0,a,b,c=>A (b,c,a)
 |g+1,a,b,c=>(ry d (cp e a)).bind λf=>gx d e g (a+1) (b++[f.1]) (c||f.2)
def rz(i j:W)(b:N)(k:V)(f:Zaa)(l:cj)(g:Option (E Cu×Bool×N))(m:bp)(c:W):Prop:=m=aq (au g.isSome)/\M (λn=>n=b) j c/\∀d h a,g=A (d,h,a)->∃e,cw i c b k f {l with at_:=a,cv:=e,ei:=h}/\cD c (b+1) e d/\a<=L f/\L d<=a
def Pt(e:N)(l:V)(b:Zaa)(c:cj)(k i:W)(a4:cw k i e l b c)(bg:cD i (e+1) c.cv [])(bA:c.cv=S Z 0 0)(bB:L b<=1000000)(bC:c.at_<=L b)(bk:∀bl∈b,L bl<=1000000/\∀t∈bl,t.size<=65536)(bD:c.Zab<=1000000000000000000):ap ab 54 #[aM (A e)] i (rz k i e l b c (gx c.n b c.Zab.toNat c.at_ [] c.ei)):=by
 have⟨bV,ae,bE,bF,x,aC⟩:=Pr i e;have bG:= @run_makeMap ab;have⟨u,ag⟩:=K (i:N);have ah:=a4.lt;have ai:=a4.bw aC;have bm:=bg.bw aC;have bH:=ai.aA 8 _ J;have⟨o,aD⟩:=K (gx c.n b c.Zab.toNat c.at_ [] c.ei);rw[<-aD];have aE:o=Z->∀a5,M (λd=>d=e) i a5->rz k i e l b c o (aq (au F)) a5:=λf a5 p=>by rw[f];exact⟨J,p,λ_ _ _ f=>f'⟩
 have⟨h,bn⟩:=K c.Zab;rw[<-bn]at bH aD bD;have a6:H (kc ae u e/\e<u/\u<ae):=Q ⟨by rw[ag];exact x,O,by rw[ag];exact x.lt⟩;have v:H (cw k ae e l b c/\cD ae (e+1) c.cv []/\M (λd=>d=e) i ae):=Q ⟨ai,bm,M.bw aC⟩;have bI:=Q (λd (p:c.cv.ownBlock=A d)=>(show u<d from(by rw[bA]at p;cases p)));change H _ at aE;change H _ at ag aD bk;clear a4 bg ai bm aC x ah bn;go_in;go_wp2_with fail;rw[<-ag];clear bE bF bG;go_loopw [17] (λa8 wr=>∃(JL:N) (a:cj) (j:a0),a8=JL/\(JL:I)<=max h 0/\o=gx c.n b (h.toNat-JL) a.at_ j a.ei/\cw k wr e l b a/\a={c with at_:=a.at_,cv:=a.cv,ei:=a.ei}/\cD wr (e+1) a.cv j/\kc wr u e/\(∀d,a.cv.ownBlock=A d->u<d)/\a.at_<=L b/\L j<=a.at_/\M (λd=>d=e) i wr) (λa8 _=>h.toNat-(aw a8).toNat);exact⟨0,c,[],J,aF,by rw[aD];rfl,v.1,J,v.2.1,a6.1,bI,bC,a3 _,v.2.2⟩;obtain⟨JL,a,j,rfl,bW,aI,aJ,aL,aN,x,al,aP,a9,aQ⟩:=hrel;obtain⟨bo,rfl⟩:=K wr;by_cases ah:(JL:I)<h;rotate_left
 ·have bL:decide ((JL:I)<h)=F:=by simpa using ah
  have G:=Q (show rz k i e l b c o (aq (au T)) bo by
   have f:o=A (j,a.ei,a.at_):=by rw[aI,show h.toNat-JL=0 by omega];rfl
   rw[f];exact⟨J,aQ,λFO bq bX aR=>by cases aR;exact⟨a.cv,aL▸aJ,aN,aP,a9⟩⟩)
  clear aI aJ aL aN x al aQ ah;go_wp2;go_ret;exact G
 have bL:decide ((JL:I)<h)=T:=X ah
 have FP:=Q (bh (((JL+1:N):I)<=max h 0/\h.toNat-(JL+1)<h.toNat-JL));have bM:=Q (pv e l b a k bo aJ bB aP);have aS:o=(ry c.n (cp b a.at_)).bind λJ8=>gx c.n b (h.toNat-(JL+1)) (a.at_+1) (j++[J8.1]) (a.ei||J8.2):=by rw[aI,show h.toNat-JL=(h.toNat-(JL+1))+1 by omega];rfl
 have⟨aT,an⟩:=K (cp b a.at_);have aU:L aT<=1000000/\∀t∈aT,t.size<=65536:=by rw[an];unfold cp;split;rename_i aV;exact bk _ (by rw[show cZ b a.at_=b[a.at_] by simp[cZ,aV]];exact dY _);exact⟨D,λt C4=>by cases C4⟩
 have br:aT≠[]->a.next (L b)={a with at_:=a.at_+1}/\a.at_+1<=L b:=λal=>by
  have aV:a.at_<L b:=by by_cases f:a.at_<L b;exact f;exact absurd (by rw[an,cp,ak f]) al
  exact⟨by rw[cj.next,am aV],aV⟩
 rw[<-an]at aS;have m:=Q (U aL (U aN (U x (U al (U aP (U a9 aQ))))));change H _ at aS aU br;change H _ at an;clear aI aJ aL aN x al aP a9 aQ;go_wp2_with fail;refine mF bM λy bY P bN ⟨C4,R,ar⟩=>?_;rw[<-an]at C4;have av:M (λd=>d=e) i y:=m.2.2.2.2.2.2.tr ar;cases aT with
  |nil=>
   have bO:P=0:=vI
   subst bO;have G:=Q (aE.oo (by rw[aS];rfl) y av);clear C4 R ar av;go_wp2;go_ret;exact G
  |cons ax q=>
 have⟨bs,bP⟩:=br D;rw[bs]at R;have bR:P=L q+1:=vI
 have⟨_,_,_,aW,_,_,_,bt⟩:=C4.open;simp only[bf]at aW;obtain⟨rfl,rfl,rfl⟩:=aW;obtain⟨bZ,b0,rfl,ba⟩:=bt 0 O;have ba:=s R.fy ba;simp only[aG,List.getD_cons_zero,eX]at ba;have⟨hcut,v⟩:=yK k _ P bN _ C4 O;rw[List.drop_one,List.tail_cons]at v;have aX:cD y (e+1) a.cv j:=m.2.1.oS ar (λd _ f=>O);have aY:=m.2.2.1.aO ar (Y a6.2.1);have⟨a1,z,a2⟩:=Ps aY ax;have b2:((P:I)==0)=F:=kw
 have b3:(0:I)<P:=O
 have b4:(1:I)<=P:=O
 have bu:L j<=1000000:=bi m.2.2.2.2.2.1 m.2.2.2.2.1
 have bb:=Q (show o=(if ax=kb then ng c.n q else if ax=k0 then kZ q else Z).bind λJ8=>gx c.n b (h.toNat-(JL+1)) (a.at_+1) (j++[J8.1]) (a.ei||J8.2)from aS);have bv:H (∀(Jj:Option (Cu×Bool)) (f:bp) (g:W),l6 k y e l b {a with at_:=a.at_+1} j Jj f g->(o=Jj.bind λJ8=>gx c.n b (h.toNat-(JL+1)) (a.at_+1) (j++[J8.1]) (a.ei||J8.2))->f=aq (au Jj.isSome)/\(Jj=Z->rz k i e l b c o (aq (au F)) g)/\(Jj.isSome=T->∃(DU:cj) (FO:a0),o=gx c.n b (h.toNat-(JL+1)) DU.at_ FO DU.ei/\cw k g e l b DU/\DU={c with at_:=DU.at_,cv:=DU.cv,ei:=DU.ei}/\cD g (e+1) DU.cv FO/\kc g u e/\(∀d,DU.cv.ownBlock=A d->u<d)/\DU.at_<=L b/\L FO<=DU.at_/\M (λd=>d=e) i g)):=Q λJj f g CV bx=>by obtain⟨aW,p,bS⟩:=CV;have b5:∀d,a.cv.ownBlock=A d->e+1<=d:=λd p=>(aX.lt d p).1;have z:M (λd=>d=e) i g:=av.trans p I2 (λd ay f=>by rcases f with f|f;exact f;have:=m.2.2.2.1 d f;have:=ag.oo;omega);refine⟨aW,λDS=>aE (by rw[bx,DS];rfl) g z,λDS=>?_⟩;obtain⟨⟨bz,bq⟩,rfl⟩:=Option.isSome_iff_exists.1 DS;have⟨b6,b7,b8,bT,ai,bU⟩:=bS bz bq J;refine⟨_,j++[bz],?_,bT,?_,ai,aY.aO p ?_,λd f=>?_,bP,?_,z⟩;rw[bx];rfl;have:=m.1;simp only;rw[this];rintro(f|f);have:=a6.2.1;omega;have:=m.2.2.2.1 _ f;omega;rcases bU d f with aR|aR;exact m.2.2.2.1 d aR;have:=aY.lt;omega;have:=m.2.2.2.2.2.1;simp;omega
 change H _ at aX v bR av;change H _ at R;clear C4 bt ar aY bs;by_cases w:ax=kb
 ·have ay:=a1 w;have bc:=Q (Po e l _ b _ j q k y R aX v (by have:=aU.1;simp at this;omega) (λt C4=>aU.2 t (fs _ C4)) bu);have be:=Q (λf g CV=>bv (ng a.n q) f g CV (by rw[bb,am w,m.oo.1]));unfold k1 at ay;clear a1 z a2 w;go_wp2_with fail;refine bc.mono ?_;intro f g CV;obtain⟨rfl,C8,DT⟩:=be f g CV;have⟨Jj,DS⟩:=K (ng a.n q);exact vT
 by_cases ad:ax=k0
 ·have ay:=z ad;have bc:=Q (Pp e l _ b _ j q k y R aX v (λt C4=>aU.2 t (fs _ C4)) bu);have be:=Q (λf g CV=>bv (kZ q) f g CV (by rw[bb,ak w,am ad]));unfold k1 at ay;clear a1 z a2 w ad;go_wp2_with fail;refine bc.mono ?_;intro f g CV;obtain⟨rfl,C8,DT⟩:=be f g CV;have⟨Jj,DS⟩:=K (kZ q);exact vT
 have ay:=a2 w ad;have G:=Q (aE.oo (by rw[bb,ak w,ak ad];rfl) y av);clear a1 z a2 w ad;go_wp2;go_ret;exact G
def t1{f:bj}{g:aP}(m:w.ownsRow c f a u b g)(q:∀d,c<=d->d<(w:N)->x.heap[d]? =w.heap[d]?):x.ownsRow c f a u b g:=by obtain⟨s,e⟩:=m;refine⟨s,?_⟩;rcases e with e|⟨j,t,v,rfl,k,l,y⟩;exact .inl e;exact .inr ⟨j,t,v,J,k,(q j k (bM.1 l).1).trans l,y⟩
def cD.off{d:a0}{e:aD}(k:cD w a u d)(m:∀b,e b->b<a):aI bG e w u d:=λn _ o=>by
 have g:∀b,a<=b->b<(w:N)->n.heap[b]? =w.heap[b]? :=λb h p=>o b p λq=>Y (m b q)
 obtain⟨r,s,h,hp⟩:=k
 exact cD.Wj ⟨r,s,t1 h g,λi j=>⟨t1 (hp i j).1 g,(hp i j).2⟩⟩
def ay.off{c:ad}{d:aD}(e:ay w a u c)(i:∀b,d b->b<a):aI aX d w u c:=λm _ j=>ay.ints (t1 e λb n k=>j b k λl=>Y (i b l))
def rA:ByteArray:=⟨#[100,105,115,116,97,110,99,101,115]⟩
def em(b a:N):N:=if a<b then a+1 else a
def pE(a:cj)(b:N):a.next b={a with at_:=em b a.at_}:=by unfold cj.next em;split<;>rfl
def pF{JZ Jq:N}(a:Jq<=JZ):em JZ Jq<=JZ:=by unfold em;split<;>omega
def pG(Zab:I)(b:Zaa):N->N->ai->Option (E ad×N)
 |0,a,c=>A (c,a)
 |d+1,a,c=>if(dy (cp b a)).2=T/\((dy (cp b a)).1.length:I)=Zab+1 then pG Zab b d (em (L b) a) (c++[(dy (cp b a)).1])else Z
def op(Zab:I)(a:Zaa)(b:N):Option (E ad×N):=if cp a b=[rA]then pG Zab a (Zab+1).toNat (em (L a) b) []else Z
def t2(j k:W)(b:N)(l:V)(f:Zaa)(g:cj)(m:a0)(h:Option (E ad×N))(n:bp)(c:W):Prop:=n=aq (au h.isSome)/\M (λa=>a=b) k c/\∀i d,h=A (i,d)->∃e,cw j c b l f {g with at_:=d,dv:=e}/\aI bG (λa=>a<=b) c g.cv m/\aI bt (λa=>a<=b) c e i/\d<=L f
def t3{I8:Zaa}{Jd:bD->Prop}(b:Jd [])(c:∀d∈I8,Jd d)(a:N):Jd (cp I8 a):=by unfold cp;split;rename_i e;exact c _ (by rw[show cZ I8 a=I8[a] by simp[cZ,e]];exact dY _);exact b
def Pu(b:N)(x:V)(e:Zaa)(c:cj)(s:a0)(p i:W)(bs:cw p i b x e c)(bR:cD i (b+1) c.cv s)(bS:c.dv=S Z 0 0)(bT:L e<=1000000)(bU:c.at_<=L e)(bV:∀an∈e,L an<=1000000/\∀ad∈an,ad.size<=65536)(ct:0<=c.Zab/\c.Zab<=1000000):ap ab 55 #[aM (A b)] i (t2 p i b x e c s (op c.Zab e c.at_)):=by
 have⟨ar,ax⟩:=K (op c.Zab e c.at_);rw[<-ax];have aW:ar=Z->∀bt,M (λa=>a=b) i bt->t2 p i b x e c s ar (aq (au F)) bt:=λf bt k=>by rw[f];exact⟨J,k,λ_ _ f=>f'⟩
 have bu:=Q (pv b x e c p i bs bT bU);obtain⟨d,bv⟩:∃d:N,c.Zab=(d:I):=⟨c.Zab.toNat,O⟩
 have cI:d<=1000000:=O
 unfold op at ax;rw[bv]at ax;have bW:=Q ax;have y:=Q (U bR (U bS (U bv bU)));have cJ:=bs.lt;change H _ at aW;change H _ at bV;clear bs bR bS ax ct bv;go_in;go_wp2_with fail;refine mF bu λay cK cL cM ⟨n,t,k⟩=>?_;obtain⟨aC,bX,bx,bY⟩:∃aC,ay.alloc (az #[a7 ⟨#[100,105,115,116,97,110,99,101,115]⟩] 9)=aC/\B ay ay aC/\bO aC (S (A (ay:N)) 1 1) [rA]:=⟨_,J,aN _ _,jh ay [rA] av⟩
 have aY:=t.bw bx;have cu:=Q (yu _ _ _ _ aC (bO.dj.bw n aY.fy) bY);rw[pE]at aY;have o:=Q (U aY (k.then bx));change H _ at bX;clear n t k bx bY aY;go_wp2_with (rw[bX]);refine mU cu λbz bA=>?_;have a4:=o.1.bw bA;have a5:=o.2.then bA;have a6:=a5;clear bA;by_cases ae:cp e c.at_=[rA];rotate_left;·rw[c9 ae];have o:=Q (aW.oo (by rw[bW,ak ae]) bz a6);clear a4 a5 a6 ae;go_wp2;go_ret;exact o
 rw[dD ae];have bZ:=bW.trans (am ae);have ag:=a4.aA 8 _ J;simp only[y.oo.2.2.1]at ag;have b0:aI bG (λa=>a<=b\/c.dv.ownBlock=A a) bz c.cv s:=(y.1.oS a5 (λa _ f=>O)).off λa f=>by rcases f with f|f;omega;rw[y.2.1]at f;cases f
 have b2:cc 22 aX (λa=>a<=b) (b+1) bz c.dv [] []:=by rw[y.2.1];exact cc.nil _ _ _ _ _
 have cx:aB ((d:I)+1)=(d:I)+1:=cV O O;have aD:=Q (U a4 (U b0 (U b2 (U a6 bZ))));clear a4 a5 a6 b0 b2 bZ ae cx;go_wp2_with fail;clear ag;go_loopw [15] (λbB wr=>∃(h:N) (q:N) (l:V) (a8:aP) (g:ai),bB=h/\h<=d+1/\ar=pG d e (d+1-h) q g/\q<=L e/\L g=h/\cw p wr b x e {c with at_:=q,dv:=l}/\aI bG (λa=>a<=b\/af l=A a) wr c.cv s/\cc 22 aX (λa=>a<=b) (b+1) wr l a8 g/\(∀a,af l=A a->(i:N)<=a)/\M (λa=>a=b) i wr) (λbB _=>d+1-(aw bB).toNat);exact⟨0,em (L e) c.at_,c.dv,[],[],J,a3 _,aD.2.2.2.2.trans (by rw[show((d:I)+1).toNat=d+1-0 by omega]),pF y.2.2.2,J,aD.1,aD.2.1,aD.2.2.1,λa f=>(by rw[y.2.1]at f;cases f),aD.2.2.2.1⟩;obtain⟨h,q,l,a8,g,rfl,cN,aG,ha,bC,t,a9,ba,bb,bc⟩:=hrel;obtain⟨bD,rfl⟩:=K wr;by_cases be:h<d+1;rotate_left
 ·have cy:h=d+1:=by omega
  have o:=Q (show t2 p i b x e c s ar (aq (au T)) bD by rw[aG,show d+1-h=0 by omega];exact⟨J,bc,λcO b3 j=>by cases j;exact⟨l,t,a9.mono λa f=>.inl f,ba.off (λa f=>O),ha⟩⟩);clear aG bC t a9 ba bb bc be;have cz:decide ((h:I)<d+1)=F:=aF
  clear cy;go_wp2;go_ret;exact o
 have cz:decide ((h:I)<d+1)=T:=aF
 have bu:=Q (pv b x e _ p bD t bT ha);have bE:=t3 (I8:=e) (Jd:=λan=>L an<=1000000/\∀ad∈an,ad.size<=65536) ⟨D,λad n=>by cases n⟩ bV q;rw[show d+1-h=(d+1-(h+1))+1 by omega,pG]at aG;have r:=Q (U a9 (U ba (U bc (U ha (U bC t.lt)))));change H _ at bb;change H _ at aG bE;clear t a9 ba bc ha bC;go_wp2_with fail;refine mF bu λb4 cQ cR cS ⟨n,bg,b5⟩=>?_;simp only at n;rw[pE]at bg;have b6:=Q (te _ _ b4 (bO.dj.bw n bg.fy) bE.1 (λad n=>Y (bE.2 ad n)));have⟨cA,b7⟩:=K (dy (cp e q));have aJ:=aG.oo;rw[<-b7]at b6 aJ;obtain⟨z,ok⟩:=cA;have bF:=Q (U bg b5);change H _ at aJ;clear n bg b5 b7;go_wp2_with fail;refine mF b6 λm bh u bi ⟨aL,aQ⟩=>?_;have G:=bF.1.bw aQ;have P:=bF.2.then aQ;have ah:M (λa=>a=b) i m:=r.2.2.1.tr P;have⟨_,_,_,b8,aR,_⟩:=aL.ints.open;simp only[bf]at b8;obtain⟨rfl,rfl,rfl⟩:=b8;have aR:L z=u:=aR;have ag:=G.aA 8 _ J;simp only[y.oo.2.2.1]at ag;cases ok with
  |false=>have o:=Q (aW (by rw[aJ,ak (by rintro⟨f,_⟩;cases f)]) m ah);clear aL aQ G P ah aR ag;go_wp2;go_ret;exact o
  |true=>
 by_cases b9:u=d+1;rotate_left
 ·have b3:((u:I)!=(d:I)+1)=T:=by rw[bne_iff_ne];omega
  have o:=Q (aW.oo (by rw[aJ,ak (by rintro⟨_,f⟩;have j:(L z:I)=(d:I)+1:=f;omega)]) m ah);clear aL aQ G P ah aR b9;go_wp2;go_ret;exact o
 have b3:((u:I)!=(d:I)+1)=F:=aF
 have b':ar=pG d e (d+1-(h+1)) (em (L e) q) (g++[z]):=by rw[aJ,am ⟨J,(by omega:(L z:I)=(d:I)+1)⟩]
 have bJ:cc 22 aX (λa=>a<=b) (b+1) m l a8 g:=(r.2.1.aO P (λa k f=>⟨O,λj=>Y ((bI r.2.1.1 a j).1)⟩))
 have cd:aI bG (λa=>a<=b\/af l=A a) m c.cv s:=r.1.step P.size (λa k bk=>P.block a k λf=>bk (.inl O)) I2;have ce:aI aX (λa=>a<=b\/af l=A a) m (S bh u bi) z:=aL.off λa f=>by have cT:(bD:N)<=b4:=bF.2.size;rcases f with f|f;have:=r.2.2.2.2.2;omega;have:=(bI r.2.1.1 a f).2;omega
 obtain⟨bl,bm,bn,rfl,cB,_⟩:=bJ.form;have cf:=G.aA 7 _ J;have cC:=G.bH 7;simp only at cf;obtain⟨v,bK,al,ch⟩:∃v,m.alloc (az #[S bh u bi] 22)=v/\B m m v/\C v m=A (S bh u bi):=⟨_,J,aN _ _,aE⟩
 have bM:=bJ.bw al;have ci:=ce.bw al;have bN:=G.bw al;have ck:=cd.bw al;have R:=Q (U bN (U ck (U (ah.then al) (U b' bM.1))));have cl:b+1<=v.heap.size:=bN.lt;have cE:L g+1<=1000000000000:=Y r.2.2.2.2.1
 replace bK:=Q bK;change H _ at be;clear aL aQ G P ah aR b9 b' bJ cd ce al bN ck cB;go_upto_region 8 with fail;clear ag;go_wp2_with (at_builtin;rw[bK];refine n1 J _ _ 25 22 (S Z 0 0) 24 underlying25 wR J av J v (b+1) (S bl bm bn) a8 g (S bh u bi) z m J J ch J bM ci cE cl ?_);intro w X aT cm bo cF cG cH bP;have aU:=R.1.bw (KA:=p) (Kx:=v) (aS _ _);have bq:M (λa=>(S bl bm bn).ownBlock=A a) v aT:=M.grown bo λa f=>f;have cn:∀a,(S bl bm bn).ownBlock=A a->b+1<=a:=λa f=>(bI R.2.2.2.2 a f).1;have aU:=R.1.aO bq λa _ f=>Y (cn a f)
 have cW:C aT ⟨b,7,Z⟩=A (S bl bm bn):=aU.aA 7 _ J;have cX:=aU.bH 7;have co:∀a,(S (A w) (L g+1) X).ownBlock=A a->(i:N)<=a:=λa f=>by simp only[af,a2]at f;subst f;rcases bP with j|j;exact bb w j;rw[j];exact R.2.2.1.size
 have cq:=aU.set (S':={c with at_:=em (L e) q,dv:=S (A w) (L g+1) X}) 7 (S (A w) (L g+1) X) av J;have aV:=ca aT b 7 (S (A w) (L g+1) X);have cr:=cm.aO aV (λa _ f=>⟨O,λj=>by simp only[af,a2]at j;omega⟩);have cs:aI bG (λa=>a<=b\/(S (A w) (L g+1) X).ownBlock=A a) (aj aT ⟨b,7,Z⟩ (S (A w) (L g+1) X)) c.cv s:=by refine R.2.1.step (a1 bo.size aV.size) (λa k bk=>?_) (λa k f=>?_);exact(aV.block a (cg k bo.size) λf=>bk (.inl O)).trans (bq.block a k λf=>bk (.inr f));rcases f with f|f;exact .inl f;simp only[af,a2]at f;subst f;rcases bP with j|j;exact .inr j;omega
 have br:=Q (U cq (U cs (U cr (show M (λa=>a=b) i (aj aT ⟨b,7,Z⟩ (S (A w) (L g+1) X))from(R.oo.2.2.1.trans bq I2 (λa cZ f=>Y (bb.oo a f))).tr aV))));change H _ at co;clear cm bo cF cG cH bP aU bq cn cq aV cr cs ch bM ci cl cf cC;go_wp2;go_roundw;case rel=>exact⟨h+1,em (L e) q,_,_,g++[z],aK,be,R.2.2.2.1,pF r.2.2.2.1,by rw[bL,eu,r.2.2.2.2.1],br.1,br.2.1,br.2.2.1,co,br.2.2.2⟩
 simp only[aw];have:=be.oo;omega
def yN(i:W)(d:bz)(g c:N)(e:bD)(q:bO i (S d g c) e)(a b:N)(x:a<b)(y:b<=g):(∀h,(Instr.sliceAt 37 (S d g c) (A (aa ac (a:I))) (A (aa ac (b:I))) Z).run ab h= .ok (S (fd d c a 1) (b-a) (c-a)) h)/\bO i (S (fd d c a 1) (b-a) (c-a)) ((e.drop a).take (b-a)):=by
 have⟨k,l,_⟩:=ew ne;have r:k.size=1:=by have⟨z,m,_,s,_⟩:=ew ne;rw[l]at m;cases m;exact s
 have⟨D,G,H,n,K,M,P,t⟩:=q.open;simp only[bf]at n;obtain⟨rfl,rfl,rfl⟩:=n;refine⟨λh=>?_,?_⟩;have:=xy (Jd:=ab) (Kw:=h) 37 9 k underlying37 l d g c a b O O;rw[r]at this;exact this;have o:((e.drop a).take (b-a)).length=b-a:=by rw[dd,ga];omega
 refine⟨_,_,by rw[o],O,O,λf p=>?_⟩;rw[o]at p;have⟨u,j,ha,v⟩:=t (f+a) O;refine⟨u,j+a*1,_,qX ha O,by rw[show j+a*1+f=j+(f+a) by omega];exact v,?_⟩;have w:((e.drop a).take (b-a)).getD f default=aG e (f+a):=by simp only[aG,fU];rw[List.getElem?_take_of_lt p,List.getElem?_drop,Nat.add_comm]
 rw[w];rfl
def yO(b:W)(g:bp)(c:W):Prop:=∃(a:Cu)(d:bz)(e f:N)(h i:Bool),g=aq (aZ #[ao #[a.kd,a.dm,S d e f,a.rt,a.sz,a.st,a.ru,a.hd],au h,au i])/\b5 c b (S d e f) a.ps/\(∀j∈a.ps,j<18446744073709551616)/\a.ps.length<=1000000/\B b b c
structure l8(a:W)(e:I)(c:V)(d:br)(b:W):Prop where
 cu:bZ b a 1 e c 0 0 0 0 0
 fz:∀f,aH b ⟨a,f,Z⟩=F
 pw:b5 b ((a:N)+1) c d
 lt:∀g∈d,g<18446744073709551616
 bF:B a a b
def l8.bw{c:br}{d:W}(a:l8 w i u c x)(b:B x x d):l8 w i u c d:=⟨a.cu.bw b,λj=>aY b a.cu.lt (a.fz j),a.pw.bw b,a.lt,a.bF.trans (b.mono a.bF.size)⟩
def l8.push{m:br}{W':W}{g c n:N}(h:l8 w i u m x)(H:a<18446744073709551616)(K:b5 W' ((w:N)+1) (S (A g) n c) (m++[a]))(P:x.grownBy W' (af u))(X:(w:N)+1<=g):l8 w i (S (A g) n c) (m++[a]) (aj W' ⟨w,2,Z⟩ (S (A g) n c)):=by
 have o:=h.pw.lt;have p:M (λl=>af u=A l) x W':=M.grown P λl f=>f;have z:=ca W' w 2 (S (A g) n c);have e:=h.cu.bl p (λf=>Y ((o _ f).1));have j:∀k,¬k=2->∀q,C W' ⟨w,k,Z⟩=A q->(aj W' ⟨w,2,Z⟩ (S (A g) n c)).cell? ⟨w,k,Z⟩=A q:=λk Cs q Q=>by
  have R:(⟨w,2,Z⟩:bQ)≠⟨w,k,Z⟩:=sC
  exact(cq _ _ _ _ R).trans Q
 refine⟨⟨j 0 O _ e.c0,j 1 O _ e.c1,bP _ _ _ (by rw[e.c2];rfl),j 3 O _ e.c3,j 4 O _ e.c4,j 5 O _ e.c5,j 6 O _ e.c6,j 7 O _ e.c7⟩,λk=>?_,c3 K z (λl r f=>?_),λU hp=>?_,?_⟩;rw[bs];exact p.free (h.fz k) h.cu.lt (λf=>Y ((o _ f).1));simp only[af,a2]at r;omega;rcases eh.1 hp with f|f;exact h.lt U f;rw[List.mem_singleton.1 f];exact H;have D:=h.bF.trans (p.bg h.bF.size λl r f=>Y ((o _ f).1));exact D.trans (z.bg D.size λl r f=>O)
def pH(b:W)(a:N)(u0 u1 u2 u3 u4 u5 u6 u7:V):W:=(((((((aj b a u0).setCell ⟨a,1,Z⟩ u1).setCell ⟨a,2,Z⟩ u2).setCell ⟨a,3,Z⟩ u3).setCell ⟨a,4,Z⟩ u4).setCell ⟨a,5,Z⟩ u5).setCell ⟨a,6,Z⟩ u6).setCell ⟨a,7,Z⟩ u7
def l9(a:Cu)(b:V):aP:=[a.kd,a.dm,b,a.rt,a.sz,a.st,a.ru,a.hd]
def rB(g c:W)(b:N)(a:Cu)(d:bz)(e f:N)(h i:Bool):Prop:=(ax c b (l9 ⟨0,0,[],0,0,0,0,0⟩ (S Z 0 0))/\∀j,aH c ⟨b,j,Z⟩=F)/\yO g (aq (aZ #[ao #[a.kd,a.dm,S d e f,a.rt,a.sz,a.st,a.ru,a.hd],au h,au i])) (pH c b a.kd a.dm (S d e f) a.rt a.sz a.st a.ru a.hd)/\ax (pH c b a.kd a.dm (S d e f) a.rt a.sz a.st a.ru a.hd) b (l9 a (S d e f))
def yP(v:a=w)(h:ax x a (l9 ⟨0,0,[],0,0,0,0,0⟩ (S Z 0 0)))(p:∀i,aH x ⟨a,i,Z⟩=F)(r:B w w x)(c:W)(f:B x x c)(d:Cu)(j:bz)(k l:N)(m n:Bool)(o:b5 c (a+1) (S j k l) d.ps)(hp:∀s∈d.ps,s<18446744073709551616)(t:d.ps.length<=1000000):rB w c a d j k l m n:=by have u:=q r f;refine⟨⟨h.bw f,λi=>aY f (aR _ _ (h 0 _ J)) (p i)⟩,⟨d,j,k,l,m,n,J,?_,hp,t,?_⟩,wJ (h.bw f) _ _ _ _ _ _ _ _⟩;exact(o.kept (wL c a _ _ _ _ _ _ _ _) (o.not (fD _))).mono O;exact u.trans (wM c a _ _ _ _ _ _ _ _ O)
def Pv(f:a=w)(g:ax x a (l9 ⟨0,0,[],0,0,0,0,0⟩ (S Z 0 0)))(h:∀i,aH x ⟨a,i,Z⟩=F)(j:B w w x)(e:W)(k:B x x e):rB w e a ⟨0,0,[],0,0,0,0,0⟩ Z 0 0 F F:=yP f g h j e k _ _ _ _ _ _ (b5.nil _ _) (λl hp=>(by cases hp)) av
def l'{g:Cu}{h:bz}{i j:Bool}(d:rB w x a g h b c i j)(q:H (rB w x a g h b c i j)->p:=by intro d;have K:=d.oo.1.2 0;have M:=d.oo.1.2 1;have O:=d.oo.1.2 2;have P:=d.oo.1.2 3;have R:=d.oo.1.2 4;have U:=d.oo.1.2 5;have X:=d.oo.1.2 6;have Y:=d.oo.1.2 7;have ad:=d.oo.1.1 0 _ J;have ae:=d.oo.1.1 1 _ J;have ag:=d.oo.1.1 2 _ J;have ah:=d.oo.1.1 3 _ J;have ai:=d.oo.1.1 4 _ J;have ak:=d.oo.1.1 5 _ J;have al:=d.oo.1.1 6 _ J;have am:=d.oo.1.1 7 _ J;have f:=d.oo.2;unfold pH at f;have e:=Q f;clear f;go_wp2_with fail;have s:=e.2 0 _ J;have t:=e.2 1 _ J;have u:=e.2 2 _ J;have v:=e.2 3 _ J;have y:=e.2 4 _ J;have z:=e.2 5 _ J;have D:=e.2 6 _ J;have G:=e.2 7 _ J;exact b0 (by simp[results,results11,go_sem,s,t,u,v,y,z,D,G]) J e.1):p:=q (Q d)
def Pw(cs:V)(e:bD)(aP:I)(i:W)(ba:bO i cs e)(dg:1<=L e)(dh:L e<=1000000)(bH:∀R∈e,R.size<=65536):ap ab 11 #[cs,(aP:I)] i (yO i):=by
 have⟨b,ct,o,bb,aQ⟩:=ka i 0 0 (S Z 0 0) 0 0 0 0 0;obtain⟨bI,a,k,rfl,di,d2,d3,cv⟩:=ba.open;have cw:=λg (p:g<a)=>bH (aG e g) (by unfold aG;rw[fU,e7 O];exact dY _);have dk:=Q (λu g p=>Pd (aG e g) u (cw g p));have bJ:=Q (λar p cx cy=>U ((yN i bI a k e ba ar p cx cy).1) (λ(u:W) (ad:B i i u)=>(tf _ _ u (bO.dj.bw (yN i bI a k e ba ar p cx cy).2 ad) (a1 (List.length_take_le _ _) O) (λR dl=>Y (bH R (List.mem_of_mem_drop (List.mem_of_mem_take dl))))).mono (λf dm v=>(by unfold pd at v;rw[show((e.drop ar).take (p-ar)).length=p-ar by rw[dd,ga];omega]at v;exact v:pd u (p-ar) f dm))));have be:=Q (λ(u:W) (ad:B i i u) g (p:g<a)=>(by have⟨l,m,f,d⟩:=cv g p;exact⟨l,m,f,s ad d⟩:∃l m,bI=A ⟨l,m,Z⟩/\C u ⟨l,m+g,Z⟩=A (a7 (aG e g))));obtain⟨l,m,rfl,bi⟩:=be.oo b o 0 O;rw[eX]at bi;have d4:(0:I)<a:=O
 have d5:a<=1000000:=O
 have⟨bK,aR⟩:=K (i:N);rw[<-aR]at bb aQ;have bl:ax b bK (l9 ⟨0,0,[],0,0,0,0,0⟩ (S Z 0 0)):=by
  obtain⟨dn,dp,dq,dr,ds,dt,du,dv⟩:=bb;intro r d6 Cs;match r,Cs with
   |0,Cs=>cases Cs;exact dn
   |1,Cs=>cases Cs;exact dp
   |2,Cs=>cases Cs;exact dq
   |3,Cs=>cases Cs;exact dr
   |4,Cs=>cases Cs;exact ds
   |5,Cs=>cases Cs;exact dt
   |6,Cs=>cases Cs;exact du
   |7,Cs=>cases Cs;exact dv
 have bL:=Q (yP aR bl aQ o);have aT:=Q (Pv aR bl aQ o);have d7:=Q (U bl aQ);have d8:bK<b:=bb.lt;have cz:i=bK:=aR.symm;change H _ at ct cz o;clear ba dg dh bH cv bb aQ di cw bl aR;go_in;go_upto_region 1 with fail;rw[ct.oo];rw[cz.oo];go_cut [27] (λR aV=>∃c:Bool,R=au c/\(c=T->2<=a)/\aV=b);case first=>
  cases dw:((aG e 0).toList==[118,105,115,105,116]);·go_wp2;go_meet;exact⟨_,J,λf=>f',J⟩
  by_cases bm:2<=a
  ·have bM:decide ((2:I)<=a)=T:=by simp;omega
   go_wp2;go_meet;exact⟨_,J,λ_=>bm,J⟩
  have bM:decide ((2:I)<=a)=F:=aF
  go_wp2;go_meet;exact⟨_,J,λf=>f',J⟩
 case rest=>
 obtain⟨c,rfl,bN,rfl⟩:=hcut;obtain⟨b,rfl⟩:=K wc;cases c with
  |true=>
   have bm:=bN J;have⟨aW,w⟩:=bJ.oo 1 2 O bm;have aW:∀x,(Instr.sliceAt 37 (S (A ⟨l,m,Z⟩) a k) (A (aa ac 1)) (A (aa ac 2)) Z).run ab x= .ok (S (fd (A ⟨l,m,Z⟩) k 1 1) 1 (k-1)) x:=aW;have w:=Q (w b o.oo);clear bN;go_wp2_with fail;refine w.oo.mono ?_;rintro f n ⟨dx,y,dy,ag,ay,rfl,aA,t,_,z⟩;cases ag with
    |false=>clear aA t;exact l' (aT.oo n z)
    |true=>
     have dz:=t J;have⟨cA,cB,cC,G,bR,_,ah⟩:=aA.ints.open;simp only[bf]at G;obtain⟨rfl,rfl,rfl⟩:=G;obtain⟨dA,dB,rfl,aX⟩:=ah 0 O;have⟨a0,cD⟩:=K (ae ay 0);rw[<-cD,eX]at aX;have d9:(0:I)<y:=O
     have⟨aC,cE,aD,cF,bS⟩:=ka n 1 a0 (S Z 0 0) 0 0 0 0 0;have cG:l8 n a0 (S Z 0 0) [] aC:=⟨cF,bS,b5.nil _ _,λcH hp=>(by cases hp),aD⟩
     have bT:=Q z;change H _ at cE;change H _ at cG;clear cF bS aD aA t dz ah bR z cD bi;go_upto_region 6 with(rw[cE.oo])
     clear aX;have bS:True:=trivial;go_wp2;go_loopw [10,11] (λbU g wr=>∃(h:N) (bn:V) (ai:br) (d:Bool),bU=au d/\g=(h:I)/\2<=h/\h<=a/\l8 n a0 bn ai wr/\L ai<=h) (λ_ g _=>a-(aw g).toNat);exact⟨2,_,[],T,J,J,aL _,bm,cG.oo,D⟩;obtain⟨h,bn,ai,d,rfl,rfl,dC,dD,ak,cI⟩:=hrel;obtain⟨bo,rfl⟩:=K wr;have bq:B b b bo:=bT.oo.trans (ak.bF.mono bT.oo.size);have dE:=Q ak;have dF:=Q bq;by_cases Ch:h<a
     ·have d':=aJ h;have eb:(h:I)<a:=by omega
      have⟨cJ,cK,a2,bs⟩:=be.oo bo (q o.oo bq) h Ch;cases a2;have cL:=Q (dk.oo bo h Ch);have⟨ec,cM⟩:=K (aG e h);rw[<-cM]at bs cL;clear cM ak bq;go_wp2_with fail;refine cL.oo.mono ?_;rintro f j ⟨dG,bV,rfl,_,cN,M⟩;have bW:=dE.oo.bw M;have cO:=q dF.oo M;have cP:=s M bs;by_cases bX:bV=2;subst bX;clear bW bs cP M;exact l' (aT.oo j cO);have dH:(bV==2)=F:=X bX
      have aE:=Q bW;have bZ:=Q (U cN cI);clear bX bW cO M bs cN cI;go_upto_region 13 with fail;go_cut [10] (λbU aV=>∃d:Bool,bU=au d/\aV=j);case first=>
       cases d;·go_wp2;go_meet;exact⟨_,J,J⟩
       cases dI:(bV==0);·go_wp2;go_meet;exact⟨_,J,J⟩
       go_wp2;go_meet;exact⟨_,J,J⟩
      case rest=>
      obtain⟨ed,rfl,rfl⟩:=hcut;obtain⟨j,rfl⟩:=K wc;obtain⟨bt,bu,bx,rfl⟩:∃al aP c,bn=S al aP c:=by have⟨al,c,f,_⟩:=aE.oo.pw.words;exact⟨al,_,c,f⟩
      have cQ:=aE.oo.cu.c2;have cR:=aE.oo.fz 2;have cS:=aE.oo.pw;have cT:(n:N)+1<=(j:N):=aE.oo.cu.lt;have cU:L ai+1<=1000000000000:=Y bZ.oo.2
      clear cP;go_wp2_with (at_builtin;refine sI J _ _ J j ((n:N)+1) (S bt bu bx) ai dG J J cS cU cT ?_);intro ee c cV cW cX b2 cY dJ;have cZ:=aE.oo.push bZ.oo.1 cW cX cY;have dK:C cV ⟨n,2,Z⟩=A (S bt bu bx):=bk b2 (fD _) cQ;have dL:aH cV ⟨n,2,Z⟩=F:=ex b2 (fD _) cR;change H _ at cZ;clear cW cX b2 cY dJ cS cT cQ cR cU;go_wp2;go_roundw;case rel=>exact⟨h+1,_,_,_,J,aK,O,O,cZ.oo,by have:=bZ.oo.2;simp;omega⟩
      exact bY
     have ef:h=a:=O
     obtain⟨bt,bu,bx,rfl⟩:∃al aP c,bn=S al aP c:=by have⟨al,c,f,_⟩:=ak.pw.words;exact⟨al,_,c,f⟩
     have⟨b3,am,b6,b7,b8,b9,b',cc⟩:=ak.cu;have eg:(b:N)<=n:=bT.oo.size;exact l' (bL.oo bo bq ⟨1,a0,ai,0,0,0,0,0⟩ bt bu bx T d (ak.pw.mono O) ak.lt (bh ((L ai)<=1000000)))
  |false=>
   clear bN;go_upto_region 16 with fail;go_cut [100] (λR aV=>∃c:Bool,R=au c/\(c=F->a=6)/\aV=b);case first=>
    cases dw:((aG e 0).toList==[116,97,110,107]);·go_wp2;go_meet;exact⟨_,J,λf=>f',J⟩
    by_cases c0:a=6
    ·have bM:((a:I)!=6)=F:=by simp;omega
     have eh:decide ((4:I)<a)=T:=aF
     have dM:(4:I)<a:=O
     have⟨cJ,cK,a2,c1⟩:=be.oo b o.oo 4 O;cases a2;have aI:=Q c0;clear c0;cases dH:((aG e 4).toList==[102,105,108,108])
     ·cases dI:((aG e 4).toList==[97,110,121]);·go_wp2;go_meet;exact⟨_,J,λ_=>aI.oo,J⟩
      go_wp2;go_meet;exact⟨_,J,λ_=>aI.oo,J⟩
     go_wp2;go_meet;exact⟨_,J,λ_=>aI.oo,J⟩
    have bM:((a:I)!=6)=T:=aF
    go_wp2;go_meet;exact⟨_,J,λf=>f',J⟩
   case rest=>
   obtain⟨c,rfl,cd,rfl⟩:=hcut;obtain⟨b,rfl⟩:=K wc;cases c with
    |true=>have dN:=aS b b;clear cd bi;exact l' (aT.oo b dN)
    |false=>
     have aI:=cd J;have dM:(4:I)<a:=O
     have⟨aW,w⟩:=bJ.oo 1 4 O O;have aW:∀x,(Instr.sliceAt 37 (S (A ⟨l,m,Z⟩) a k) (A (aa ac 1)) (A (aa ac 4)) Z).run ab x= .ok (S (fd (A ⟨l,m,Z⟩) k 1 1) 3 (k-1)) x:=aW;have w:=Q (w b o.oo);have⟨c3,bz⟩:=bJ.oo 5 6 O O;have c3:∀x,(Instr.sliceAt 37 (S (A ⟨l,m,Z⟩) a k) (A (aa ac 5)) (A (aa ac 6)) Z).run ab x= .ok (S (fd (A ⟨l,m,Z⟩) k 5 1) 1 (k-5)) x:=c3;have bz:=Q bz;change H _ at aI;clear cd bi;go_wp2_with fail;refine w.oo.mono ?_;rintro f n ⟨dx,y,dy,ag,ay,rfl,aA,t,_,z⟩;have ce:=Q (U aA (U t z));clear aA t;go_wp2_with fail;refine(bz.oo n (q o.oo z)).mono ?_;rintro f aC ⟨ei,c4,ej,a4,c5,rfl,c6,a5,_,aD⟩;have a6:=q z aD;have c7:=Q (U (ce.oo.1.bw aD) (U c6 (U ce.oo.2.1 a5)));clear c6 a5 aD z;have cf:∀(bA:Prop),((ag=F\/a4=F)->bA)->((ag=T/\a4=T)->bA)->bA:=λbA dO dP=>by cases ag<;>cases a4<;>simp at dO dP<;>assumption
     refine cf _ (λv=>?_) (λv=>?_)
     ·have dQ:(!ag|| !a4)=T:=by rcases v with rfl|rfl<;>simp
      clear cf dQ;rcases v with rfl|rfl;·cases a4;all_goals exact l' (aT.oo aC a6)
      cases ag;all_goals exact l' (aT.oo aC a6)
     obtain⟨rfl,rfl⟩:=v;have⟨c8,c9,t,a5⟩:=c7.oo;have dR:L ay=3:=t J;have dS:L c5=1:=a5 J;have⟨cA,cB,cC,G,bR,_,ah⟩:=c8.ints.open;simp only[bf]at G;obtain⟨rfl,rfl,rfl⟩:=G;obtain⟨dA,dB,rfl,aX⟩:=ah 0 O;have⟨_,_,am,dT⟩:=ah 1 O;cases am;have⟨_,_,am,dU⟩:=ah 2 O;cases am;have⟨cA,cB,cC,G,dV,_,c'⟩:=c9.ints.open;simp only[bf]at G;obtain⟨rfl,rfl,rfl⟩:=G;obtain⟨ek,el,rfl,cg⟩:=c' 0 O;rw[eX]at aX cg;generalize ae ay 0=ch at aX;generalize ae ay 1=ci at dT;generalize ae ay 2=cj at dU;generalize ae c5 0=ck at cg;have em:(0:I)<y:=O
     have en:(1:I)<y:=O
     have eo:(2:I)<y:=O
     have ep:(0:I)<c4:=O
     have eq:0<y:=O
     have er:1<y:=O
     have dC:2<y:=O
     have es:0<c4:=O
     have⟨bB,da,M,aO,a8⟩:=ka aC 2 0 (S Z 0 0) ch ci cj 1 ck;have db:=aO.lt;have⟨j,cl⟩:=K bB.drew;have bC:B bB bB j:=by rw[cl];exact an bB
     have aO:=aO.bw bC;have a8:=λr=>aY bC db (a8 r);have dc:=q M bC;have cm:=q a6 dc;have⟨cJ,cK,a2,c1⟩:=be.oo j (q o.oo cm) 4 (Y aI.oo);cases a2;have⟨P,bE⟩:=K (aC:N);rw[<-bE]at aO a8;have et:b<=P:=by rw[bE];exact a6.size
     have dW:=Q (U aO a8);have cn:=Q cm;change H _ at da bE cl;clear cm;clear db bC c8 c9 t a5 dR dS bR dV ah c' M dc a6 aO a8 cf c7 ce w bz;go_upto_region 22 with fail;refine bv [0,1,3,4,6,7,9,10,102,105,108,111,12,213,314] ?_;iterate 13 refine mS ?_
     refine aU λdX co=>?_;go_simp;refine co.oo _ _ (.mk (q (an _) (aN _ _))) ?_;refine b4 λdX co=>?_;go_simp;rw[da.oo,<-cl.oo];refine co.oo _ _ ?_;clear cg;refine bc ?_;rw[<-bE.oo];have⟨⟨b3,am,b6,b7,b8,b9,b',cc⟩,de⟩:=dW.oo;have df:=de 6;change H _ at de;cases eu:((aG e 4).toList==[97,110,121]);have ad:=cn.oo;clear df;exact l' (bL.oo j ad ⟨2,0,[],ch,ci,cj,1,ck⟩ Z 0 0 T T (b5.nil _ _) (λcH hp=>(by cases hp)) (a3 _));have cp:=ca j P 6 (2:I);have⟨bG,a9⟩:=K (aj j ⟨P,6,Z⟩ (2:I));rw[<-a9]at cp;have ad:B b b bG:=cn.oo.trans (cp.bg cn.oo.size λh dD f=>O);have d:∀r,¬r=6->∀cr,C j ⟨P,r,Z⟩=A cr->C bG ⟨P,r,Z⟩=A cr:=λr Cs cr d0=>by
      have d1:(⟨P,6,Z⟩:bQ)≠⟨P,r,Z⟩:=sC
      rw[a9];exact(cq _ _ _ _ d1).trans d0
     have a0:=d 0 av _ b3;have ev:=d 1 av _ am;have dK:=d 2 av _ b6;have dL:=d 3 av _ b7;have ew:=d 4 av _ b8;have ey:=d 5 av _ b9;have ez:C bG ⟨P,6,Z⟩=A (aa ac 2):=by rw[a9];exact bP _ _ _ (by rw[b'];rfl)
     have eA:=d 7 av _ cc;change H _ at a9;clear d cp;go_upto_region 25 with(rw[<-a9.oo])
     clear b3 am b6 b7 b8 b9 b' cc c1 df;exact l' (bL.oo bG ad ⟨2,0,[],ch,ci,cj,2,ck⟩ Z 0 0 T T (b5.nil _ _) (λcH hp=>(by cases hp)) (a3 _))
def rC(a:W)(b:bp)(c:W):Prop:=∃d:Bool,b=aq (au d)/\B a a c
def rC.of(a:Bool)(c:B w w x):rC w (aq (au a)) x:=⟨a,J,c⟩
def Px(x l:I)(M:V)(m h n o p P:I)(i:br)(y:W)(hp:cA y M i)(ak:∀R∈i,R<18446744073709551616)(aG:L i<=1000000):ap ab 18 #[ao #[x,l,M,m,h,n,o,p],P] y (rC y):=by
 obtain⟨j,al,e,am,_⟩:=ka y x l M m h n o p;obtain⟨aI,c,d,rfl,aL,_,_,an⟩:=hp.open;have ar:c<=1000000:=O
 have aN:=Q (λ(z:W) (b:N) (X:b<c)=>MN (b6 i b) P z (ak _ (m0 O)));have aO:=Q (λ(z:W) (av:B j j z)=>U (am.bw av) (λb (X:b<c)=>by obtain⟨a,r,aP,_,aQ⟩:=an b X;exact(⟨a,r,aP,s (q e av) aQ⟩:∃a r,aI=A ⟨a,r,Z⟩/\C z ⟨a,r+b,Z⟩=A (aa b1 (b6 i b:I)))));obtain⟨aR,aT,Y,aU,aV,aW,aX,aY⟩:=am;change H _ at al e;clear hp ak aG aL an;obtain⟨a0,a9⟩:∃a,(x==1)=a:=⟨_,J⟩
 go_in;go_upto_region 1 with fail;rw[al];cases a0 with
  |true=>
   go_upto_region 2 with fail;go_cut [53] (λt u=>(∃d:Bool,t=au d)/\u=j);case first=>
    obtain⟨g,ad⟩:∃a,decide (l<1)=a:=⟨_,J⟩
    obtain⟨f,D⟩:∃a,decide (2147483648<l)=a:=⟨_,J⟩
    obtain⟨k,ae⟩:∃a,decide ((c:I)<1)=a:=⟨_,J⟩
    obtain⟨v,ax⟩:∃a,decide (64<(c:I))=a:=⟨_,J⟩
    obtain⟨ag,a1⟩:∃a,(m !=0)=a:=⟨_,J⟩
    obtain⟨ay,a2⟩:∃a,(h !=0)=a:=⟨_,J⟩
    obtain⟨a4,ba⟩:∃a,(n !=0)=a:=⟨_,J⟩
    obtain⟨a5,bb⟩:∃a,(o !=0)=a:=⟨_,J⟩
    obtain⟨bc,be⟩:∃a,(p !=0)=a:=⟨_,J⟩
    clear ar;cases g;focus (cases f;focus (cases k;focus (cases v;focus (cases ag;focus (cases ay;focus (cases a4;focus (cases a5)))))))
    all_goals go_wp2;go_meet;exact⟨⟨_,J⟩,J⟩
   case rest=>
   obtain⟨⟨d,rfl⟩,rfl⟩:=hcut;cases d with
    |true=>go_wp2;go_ret;exact .of _ e
    |false=>
   clear aR aT Y aU aV aW aX aY;go_wp2;go_loopw [5] (λah wr=>∃(b:N),ah=(b:I)/\b<=c/\B wc wc wr) (λah _=>c-(aw ah).toNat);exact⟨0,J,a3 _,aS _ _⟩;obtain⟨b,rfl,X,w⟩:=hrel;obtain⟨aA,rfl⟩:=K wr;obtain⟨⟨_,_,Y,_,_,_,_,_⟩,ai⟩:=aO aA w;by_cases Ch:b<c
   ·have bf:=aJ b;have bg:(b:I)<c:=by omega
    obtain⟨a,r,rfl,aC⟩:=ai b Ch;have aD:=Q (aN.oo aA b Ch);obtain⟨R,hp⟩:=K (b6 i b);rw[<-hp]at aC aD;have G:=Q w;clear ai hp w;go_wp2_with fail;refine mU aD λbh aE=>?_;have aF:=Q (G.oo.trans (aE.mono G.size));obtain⟨a6,bi⟩:∃a,decide (0<=fY R P)=a:=⟨_,J⟩
    clear Y aC aE;cases a6
    ·go_wp2;go_roundw;case rel=>exact⟨b+1,aK,O,aF⟩
     exact bY
    go_wp2;go_ret;exact .of _ (q e aF)
   have a8:b=c:=O
   subst a8;have G:=Q w;clear ai w;go_wp2;go_ret;exact .of _ (q e G)
  |false=>
   go_upto_region 10 with fail;go_cut [82] (λt u=>(∃d:Bool,t=au d)/\u=j);case first=>
    obtain⟨g,ad⟩:∃a,(x !=2)=a:=⟨_,J⟩
    obtain⟨f,D⟩:∃a,decide (0<c)=a:=⟨_,J⟩
    have bk:decide (0<(c:I))=f:=by rw[<-D];simp
    obtain⟨k,ae⟩:∃a,(l !=0)=a:=⟨_,J⟩
    clear ar;cases g;focus (cases f)
    all_goals go_wp2;go_meet;exact⟨⟨_,J⟩,J⟩
   case rest=>
   obtain⟨⟨d,rfl⟩,rfl⟩:=hcut;obtain⟨j,rfl⟩:=K wc;cases d with
    |true=>go_wp2;go_ret;exact .of _ e
    |false=>
   go_upto_region 12 with fail;go_cut [112] (λt u=>(∃d:Bool,t=au d)/\u=j);case first=>
    obtain⟨g,ad⟩:∃a,decide (m<0)=a:=⟨_,J⟩
    obtain⟨f,D⟩:∃a,decide (2147483648<m)=a:=⟨_,J⟩
    obtain⟨k,ae⟩:∃a,decide (h<1)=a:=⟨_,J⟩
    obtain⟨v,ax⟩:∃a,decide (2147483648<h)=a:=⟨_,J⟩
    obtain⟨ag,a1⟩:∃a,decide (n<0)=a:=⟨_,J⟩
    obtain⟨ay,a2⟩:∃a,decide (h<n)=a:=⟨_,J⟩
    cases g;focus (cases f;focus (cases k;focus (cases v;focus (cases ag))))
    all_goals go_wp2;go_meet;exact⟨⟨_,J⟩,J⟩
   case rest=>
   obtain⟨⟨d,rfl⟩,rfl⟩:=hcut;cases d with
    |true=>go_wp2;go_ret;exact .of _ e
    |false=>
   obtain⟨g,ad⟩:∃a,(o==1)=a:=⟨_,J⟩
   obtain⟨f,D⟩:∃a,(o==2)=a:=⟨_,J⟩
   obtain⟨k,ae⟩:∃a,decide (0<=p)=a:=⟨_,J⟩
   obtain⟨v,ax⟩:∃a,decide (p<=1024)=a:=⟨_,J⟩
   cases g<;>cases f<;>cases k<;>cases v;all_goals go_wp2;go_ret;exact .of _ e
def cd(a b c:I):Bool:=decide (b<=a/\a<=c)
def ma(a b c:I)(e:W):ap ab 83 #[a,b,c] e (ch e (au (cd a b c))):=by
 by_cases d:b<=a
 ·have f:decide (b<=a)=T:=by simpa using d
  have B6:=Q (show cd a b c=decide (a<=c) by simp[cd,d]);go_in;exact mP
 have f:decide (b<=a)=F:=X d
 have B6:=Q (show cd a b c=F by simp[cd,d]);go_in;exact mP
def d8(a:Cu)(b:V)(c:I):V:=ao #[a.kd,a.dm,b,a.rt,a.sz,a.st,a.ru,a.hd,c]
def kd(b:W)(a:Cu)(d:V)(e:I)(hp:cA b d a.ps):∃c,b.alloc (az #[a.kd,a.dm,d,a.rt,a.sz,a.st,a.ru,a.hd,e] 152)=c/\B b b c/\c.heap.size=(b:N)+1/\kF c b 0 a d/\C c ⟨b,8,Z⟩=A (aa ac e):=⟨_,J,aN _ _,D,⟨aE,aE,aE,aE,aE,aE,aE,aE,hp.bw (aN _ _)⟩,aE⟩
def pI(a:Cu):Bool:=a.rt==0&&a.sz==0&&a.st==0&&a.ru==0&&a.hd==0
def oq(a:Cu):Bool:=a.ru==1||a.ru==2
def os(a:Cu):Bool:=a.ps.length==0&&a.dm==0
def nh(b:I)(a:Cu):Bool:=(a.ps.all λc=>decide (fY c b<0))&&cd a.ps.length 1 64
def gW(b:I)(a:Cu):Bool:=if a.kd=1 then cd a.dm 1 2147483648&&nh b a&&pI a else if a.kd=2 then cd a.rt 0 2147483648&&cd a.sz 1 2147483648&&cd a.st 0 a.sz&&oq a&&cd a.hd 0 1024&&os a else F
def Py(a:Cu)(c:V)(d:I)(b:W)(hp:cA b c a.ps):ap ab 151 #[d8 a c d] b (ch b (au (cd a.dm 1 2147483648))):=by have⟨i,e,f,m,j,n⟩:=kd b a c d hp;obtain⟨o,p,q,rfl,_,_,_⟩:=hp.open;have k:=Q (ma a.dm 1 2147483648 i);obtain⟨r,s,t,u,v,w,x,y,_⟩:=j;have g:=Q f;change H _ at e;clear f;clear hp;unfold d8;go_in;go_upto_region 1 with fail;rw[e];go_wp2_with fail;refine mU k λz h=>?_;have l:=Q (g.oo.trans (h.mono g.size));clear h;go_wp2;go_ret;exact⟨J,l⟩
def Pz(a:Cu)(c:V)(d:I)(b:W)(hp:cA b c a.ps):ap ab 154 #[d8 a c d] b (ch b (au (cd a.rt 0 2147483648))):=by have⟨i,e,f,m,j,n⟩:=kd b a c d hp;obtain⟨o,p,q,rfl,_,_,_⟩:=hp.open;have k:=Q (ma a.rt 0 2147483648 i);obtain⟨r,s,t,u,v,w,x,y,_⟩:=j;have g:=Q f;change H _ at e;clear f;clear hp;unfold d8;go_in;go_upto_region 1 with fail;rw[e];go_wp2_with fail;refine mU k λz h=>?_;have l:=Q (g.oo.trans (h.mono g.size));clear h;go_wp2;go_ret;exact⟨J,l⟩
def PA(a:Cu)(c:V)(d:I)(b:W)(hp:cA b c a.ps):ap ab 155 #[d8 a c d] b (ch b (au (cd a.sz 1 2147483648))):=by have⟨i,e,f,m,j,n⟩:=kd b a c d hp;obtain⟨o,p,q,rfl,_,_,_⟩:=hp.open;have k:=Q (ma a.sz 1 2147483648 i);obtain⟨r,s,t,u,v,w,x,y,_⟩:=j;have g:=Q f;change H _ at e;clear f;clear hp;unfold d8;go_in;go_upto_region 1 with fail;rw[e];go_wp2_with fail;refine mU k λz h=>?_;have l:=Q (g.oo.trans (h.mono g.size));clear h;go_wp2;go_ret;exact⟨J,l⟩
def PB(a:Cu)(c:V)(d:I)(b:W)(hp:cA b c a.ps):ap ab 156 #[d8 a c d] b (ch b (au (cd a.st 0 a.sz))):=by have⟨i,e,f,m,j,n⟩:=kd b a c d hp;obtain⟨o,p,q,rfl,_,_,_⟩:=hp.open;have k:=Q (ma a.st 0 a.sz i);obtain⟨r,s,t,u,v,w,x,y,_⟩:=j;have g:=Q f;change H _ at e;clear f;clear hp;unfold d8;go_in;go_upto_region 1 with fail;rw[e];go_wp2_with fail;refine mU k λz h=>?_;have l:=Q (g.oo.trans (h.mono g.size));clear h;go_wp2;go_ret;exact⟨J,l⟩
def PC(a:Cu)(c:V)(d:I)(b:W)(hp:cA b c a.ps):ap ab 158 #[d8 a c d] b (ch b (au (cd a.hd 0 1024))):=by have⟨i,e,f,m,j,n⟩:=kd b a c d hp;obtain⟨o,p,q,rfl,_,_,_⟩:=hp.open;have k:=Q (ma a.hd 0 1024 i);obtain⟨r,s,t,u,v,w,x,y,_⟩:=j;have g:=Q f;change H _ at e;clear f;clear hp;unfold d8;go_in;go_upto_region 1 with fail;rw[e];go_wp2_with fail;refine mU k λz h=>?_;have l:=Q (g.oo.trans (h.mono g.size));clear h;go_wp2;go_ret;exact⟨J,l⟩
def PD(a:N):((a:I)==0)=(a==0):=by rw[Bool.eq_iff_iff,beq_iff_eq,beq_iff_eq];omega
def PE(a:Cu)(d:V)(e:I)(b:W)(hp:cA b d a.ps):ap ab 153 #[d8 a d e] b (ch b (au (pI a))):=by have⟨k,f,g,l,h,m⟩:=kd b a d e hp;obtain⟨n,o,p,rfl,i,_,_⟩:=hp.open;have⟨q,c⟩:=K (pI a);rw[<-c];obtain⟨r,s,t,u,v,w,x,y,_⟩:=h;unfold pI at c;change H _ at f g i;clear hp;unfold d8;go_in;go_upto_region 1 with fail;rw[f];cases z:(a.rt==0);rotate_left;cases D:(a.sz==0);rotate_left;cases G:(a.st==0);rotate_left;cases M:(a.ru==0);rotate_left;cases O:(a.hd==0);all_goals have j:=Q (c.trans (by simp only[*];rfl));clear c;go_wp2;go_ret;rw[j];exact⟨J,g⟩
def PF(a:Cu)(d:V)(e:I)(b:W)(hp:cA b d a.ps):ap ab 157 #[d8 a d e] b (ch b (au (oq a))):=by have⟨k,f,g,l,h,m⟩:=kd b a d e hp;obtain⟨n,o,p,rfl,i,_,_⟩:=hp.open;have⟨q,c⟩:=K (oq a);rw[<-c];obtain⟨r,s,t,u,v,w,x,y,_⟩:=h;unfold oq at c;change H _ at f g i;clear hp;unfold d8;go_in;go_upto_region 1 with fail;rw[f];cases z:(a.ru==1);cases D:(a.ru==2);all_goals have j:=Q (c.trans (by simp only[*];rfl));clear c;go_wp2;go_ret;rw[j];exact⟨J,g⟩
def PG(a:Cu)(d:V)(e:I)(c:W)(hp:cA c d a.ps):ap ab 159 #[d8 a d e] c (ch c (au (os a))):=by have⟨l,f,g,m,i,n⟩:=kd c a d e hp;obtain⟨o,j,p,rfl,h,_,_⟩:=hp.open;have⟨q,b⟩:=K (os a);rw[<-b];obtain⟨r,s,t,u,v,w,x,y,_⟩:=i;unfold os at b;rw[h,<-PD]at b;change H _ at f g h;clear hp;unfold d8;go_in;go_upto_region 1 with fail;rw[f];cases z:((j:I)==0);rotate_left;cases D:(a.dm==0);all_goals have k:=Q (b.trans (by simp only[*];rfl));clear b;go_wp2;go_ret;rw[k];exact⟨J,g⟩
def PH(b:Cu)(t:V)(c:I)(k:W)(hp:cA k t b.ps)(G:∀f∈b.ps,f<18446744073709551616)(av:b.ps.length<=1000000):ap ab 152 #[d8 b t c] k (ch k (au (nh c b))):=by
 obtain⟨M,P,R,ax,U,Y⟩:=kd k b t c hp;obtain⟨ad,l⟩:=K (nh c b);rw[<-l];obtain⟨aO,d,aP,rfl,ae,_,_⟩:=hp.open;obtain⟨_,_,_,ag,_,_,_,ah⟩:=U.ft.open;simp only[bf]at ag;obtain⟨rfl,rfl,rfl⟩:=ag;have ay:=Q (λ(a:N) (m:a<d) (u:W)=>MO (b6 b.ps a) c u (G _ (m0 O)));have aA:=Q (λ(u:W)=>ma (d:I) 1 64 u);have ai:(∀a,a<d->decide (fY (b6 b.ps a) c<0)=T)->ad=cd (d:I) 1 64:=λv=>by
  have:(b.ps.all λf=>decide (fY f c<0))=T:=by rw[d4];intro f hp;obtain⟨a,m,rfl⟩:=gP hp;have:=v a O;rwa [mZ m]at this
  rw[l,nh,this,ae];rfl
 have ak:∀a,a<d->decide (fY (b6 b.ps a) c<0)=F->ad=F:=λa m v=>by
  have:(b.ps.all λf=>decide (fY f c<0))=F:=by rw[<-Bool.not_eq_true,d4];intro aC;have:=aC _ (m0 (bh (a<b.ps.length)));rw[v]at this;cases this
  rw[l,nh,this];rfl
 obtain⟨aQ,aR,al,aT,aU,aV,aW,aX,_⟩:=U;have aY:d<=1000000:=O
 have n:=Q R;change H _ at P ah ai ak;clear R;clear hp G ae l av ax;unfold d8;go_in;go_upto_region 1 with fail;rw[P];go_wp2;go_loopw [9] (λw wr=>∃(a:N),w=(a:I)/\a<=d/\(∀e,e<a->decide (fY (b6 b.ps e) c<0)=T)/\B M M wr) (λw _=>d-(aw w).toNat);exact⟨0,J,a3 _,λe am=>absurd am (fx _),aS _ _⟩;obtain⟨a,rfl,m,o,g⟩:=hrel;obtain⟨an,rfl⟩:=K wr;have al:=s g al;have Y:=s g Y;by_cases Ch:a<d
 ·obtain⟨a0,a1,rfl,_,p⟩:=ah a Ch;have p:=s g p;have x:=Q (ay.oo a Ch an);have y:=ak a Ch;obtain⟨q,z⟩:=K (fY (b6 b.ps a) c);rw[<-z]at x y;have ar:decide (q<0)=T->∀e,e<a+1->decide (fY (b6 b.ps e) c<0)=T:=λh e am=>by by_cases aD:e=a;subst aD;rw[<-z];exact h;exact o e O
  obtain⟨f,hp⟩:=K (b6 b.ps a);rw[<-hp]at p x;have a2:=aJ a;have a4:(a:I)<d:=O
  have i:=Q g;change H _ at y ar;clear o g z hp;go_wp2_with fail;refine mU x λaE j=>?_;have r:=Q (i.oo.trans (j.mono i.size));clear j p;by_cases h:q<0
  ·have aG:decide (0<=q)=F:=by simpa using h
   have aI:=Q (ar.oo (X h));go_wp2;go_roundw;case rel=>exact⟨a+1,aK,O,aI,r⟩
   exact bY
  have aG:decide (0<=q)=T:=aF
  have D:=Q (y.oo (X h));go_wp2;go_ret;rw[D];exact⟨J,n.trans (r.mono n.size)⟩
 have aL:a=d:=O
 subst aL;have D:=Q (ai.oo o);have i:=Q g;have aN:=Q (aA.oo an);clear o g;go_wp2_with fail;refine mU aN λaE j=>?_;have r:=Q (n.oo.trans ((i.trans (j.mono i.size)).mono n.size));clear j;go_wp2;go_ret;rw[D];exact⟨J,r⟩
def fH(a:N):V:=.func (.func a) #[] #[]
def rD:aP:=[fH 151,fH 152,fH 153]
def rE:aP:=[fH 154,fH 155,fH 156,fH 157,fH 158,fH 159]
def PI(b:W)(a:aP)(f:bp)(c:W):Prop:=∃d,f=aq (S d (L a) (L a))/\B b b c/\(a≠[]->∃e,d=A ⟨e,0,Z⟩/\ax c e a)
def PJ(a:I)(b:W):ap ab 113 #[a] b (PI b (if a=1 then rD else if a=2 then rE else[])):=by
 by_cases d:a=1;·subst d;rw[am J];have c:=Q (U (aN b (az rD.toArray 150)) (ax.new b rD 150));go_in;go_wp2;go_ret;exact⟨_,J,c.1,λ_=>⟨_,J,c.2⟩⟩
 rw[ak d];have g:(a==1)=F:=X d
 by_cases e:a=2;·subst e;rw[am J];have c:=Q (U (aN b (az rE.toArray 150)) (ax.new b rE 150));go_in;go_wp2;go_ret;exact⟨_,J,c.1,λ_=>⟨_,J,c.2⟩⟩
 rw[ak e];have h:(a==2)=F:=X e
 go_in;go_wp2;go_ret;exact⟨_,J,aS _ _,λf=>absurd J f⟩
def PK(b:Cu)(aC:V)(u:I)(aA:W)(hp:cA aA aC b.ps)(a3:∀a4∈b.ps,a4<18446744073709551616)(a5:b.ps.length<=1000000):ap ab 84 #[d8 b aC u] aA (ch aA (au (gW u b))):=by
 have⟨a6,aR,aS,a8,aT,h⟩:=kd aA b aC u hp;have⟨w,i⟩:=K (gW u b);rw[<-i];obtain⟨G,M,O,rfl,_,_,_⟩:=hp.open;have a9:=Q (PJ b.kd a6);have q:=Q (U aT h);obtain⟨g,j,k,l,m,n,o,p,_⟩:=aT;have f:=Q aS;change H _ at aR;clear aS;clear hp a8;unfold d8;go_in;go_upto_region 1 with fail;rw[aR];go_wp2_with fail;refine mE a9 λaU bh ⟨ag,P⟩=>?_;rw[gW]at i;by_cases aD:b.kd=1
 ·rw[am aD]at i P⊢;clear aD;obtain⟨ba,rfl,R⟩:=P av;have x:=Q ag;unfold rD;simp only[dx,et,Nat.reduceAdd];have Y:=Q (λr t=>Py b (S G M O) u r t);have ad:=Q (λr t=>PH b (S G M O) u r t a3 a5);have ae:=Q (λr t=>PE b (S G M O) u r t);have⟨aE,ah⟩:=K ((cd b.dm 1 2147483648));rw[<-ah]at Y i;have⟨aF,ai⟩:=K ((nh u b));rw[<-ai]at ad i;have⟨aG,al⟩:=K ((pI b));rw[<-al]at ae i;unfold d8 at Y ad ae;have v:=Q i;replace R:=Q R;clear ag P i ah ai al;have aI:=s x g;clear g j k l m n o p h aI;have⟨g,j,k,l,m,n,o,p,c⟩:=q.1.bw x;have h:=s x q.2;have d:=R 0 _ J;unfold fH at d;have e:=Q (Y.oo aU c);clear c;go_wp2_with fail;refine wp_loop_rounds 4 ?_;rw[dA];go_wp2_with fail;refine mU e λaJ a=>?_;have y:=Q (x.trans (a.mono x.size));have an:=Q (R.bw a);clear a g j k l m n o p h d e;cases aE;·have B6:=Q (show w=F by rw[v];simp);go_wp2;go_ret;rw[B6];exact⟨J,f.trans (y.mono f.size)⟩
  go_wp2_with fail;have⟨g,j,k,l,m,n,o,p,c⟩:=q.1.bw y;have h:=s y q.2;have d:=an 1 _ J;unfold fH at d;have e:=Q (ad.oo aJ c);clear c;rw[dA];go_wp2_with fail;refine mU e λaK a=>?_;have D:=Q (y.trans (a.mono y.size));have ar:=Q (an.bw a);clear a g j k l m n o p h d e;cases aF;·have B6:=Q (show w=F by rw[v];simp);go_wp2;go_ret;rw[B6];exact⟨J,f.trans (D.mono f.size)⟩
  go_wp2_with fail;have⟨g,j,k,l,m,n,o,p,c⟩:=q.1.bw D;have h:=s D q.2;have d:=ar 2 _ J;unfold fH at d;have e:=Q (ae.oo aK c);clear c;rw[dA];go_wp2_with fail;refine mU e λaV a=>?_;have X:=Q (D.trans (a.mono D.size));have aL:=Q (ar.bw a);clear a g j k l m n o p h d e;cases aG;·have B6:=Q (show w=F by rw[v];simp);go_wp2;go_ret;rw[B6];exact⟨J,f.trans (X.mono f.size)⟩
  go_wp2_with fail;rw[dA];have B6:=Q (show w=T by rw[v];rfl);go_wp2;go_ret;rw[B6];exact⟨J,f.trans (X.mono f.size)⟩
 rw[ak aD]at i P⊢;by_cases aN:b.kd=2
 ·rw[am aN]at i P⊢;clear aN;obtain⟨ba,rfl,R⟩:=P av;have x:=Q ag;unfold rE;simp only[dx,et,Nat.reduceAdd];have Y:=Q (λr t=>Pz b (S G M O) u r t);have ad:=Q (λr t=>PA b (S G M O) u r t);have ae:=Q (λr t=>PB b (S G M O) u r t);have aO:=Q (λr t=>PF b (S G M O) u r t);have aP:=Q (λr t=>PC b (S G M O) u r t);have aQ:=Q (λr t=>PG b (S G M O) u r t);have⟨aE,ah⟩:=K ((cd b.rt 0 2147483648));rw[<-ah]at Y i;have⟨aF,ai⟩:=K ((cd b.sz 1 2147483648));rw[<-ai]at ad i;have⟨aG,al⟩:=K ((cd b.st 0 b.sz));rw[<-al]at ae i;have⟨bb,aW⟩:=K ((oq b));rw[<-aW]at aO i;have⟨bc,aX⟩:=K ((cd b.hd 0 1024));rw[<-aX]at aP i;have⟨be,aY⟩:=K ((os b));rw[<-aY]at aQ i;unfold d8 at Y ad ae aO aP aQ;have v:=Q i;replace R:=Q R;clear ag P i ah ai al aW aX aY;have aI:=s x g;clear g j k l m n o p h aI;have⟨g,j,k,l,m,n,o,p,c⟩:=q.1.bw x;have h:=s x q.2;have d:=R 0 _ J;unfold fH at d;have e:=Q (Y.oo aU c);clear c;go_wp2_with fail;refine wp_loop_rounds 7 ?_;rw[dA];go_wp2_with fail;refine mU e λaJ a=>?_;have y:=Q (x.trans (a.mono x.size));have an:=Q (R.bw a);clear a g j k l m n o p h d e;cases aE;·have B6:=Q (show w=F by rw[v];simp);go_wp2;go_ret;rw[B6];exact⟨J,f.trans (y.mono f.size)⟩
  go_wp2_with fail;have⟨g,j,k,l,m,n,o,p,c⟩:=q.1.bw y;have h:=s y q.2;have d:=an 1 _ J;unfold fH at d;have e:=Q (ad.oo aJ c);clear c;rw[dA];go_wp2_with fail;refine mU e λaK a=>?_;have D:=Q (y.trans (a.mono y.size));have ar:=Q (an.bw a);clear a g j k l m n o p h d e;cases aF;·have B6:=Q (show w=F by rw[v];simp);go_wp2;go_ret;rw[B6];exact⟨J,f.trans (D.mono f.size)⟩
  go_wp2_with fail;have⟨g,j,k,l,m,n,o,p,c⟩:=q.1.bw D;have h:=s D q.2;have d:=ar 2 _ J;unfold fH at d;have e:=Q (ae.oo aK c);clear c;rw[dA];go_wp2_with fail;refine mU e λaV a=>?_;have X:=Q (D.trans (a.mono D.size));have aL:=Q (ar.bw a);clear a g j k l m n o p h d e;cases aG;·have B6:=Q (show w=F by rw[v];simp);go_wp2;go_ret;rw[B6];exact⟨J,f.trans (X.mono f.size)⟩
  go_wp2_with fail;have⟨g,j,k,l,m,n,o,p,c⟩:=q.1.bw X;have h:=s X q.2;have d:=aL 3 _ J;unfold fH at d;have e:=Q (aO.oo aV c);clear c;rw[dA];go_wp2_with fail;refine mU e λbf a=>?_;have ax:=Q (X.trans (a.mono X.size));have a0:=Q (aL.bw a);clear a g j k l m n o p h d e;cases bb;·have B6:=Q (show w=F by rw[v];simp);go_wp2;go_ret;rw[B6];exact⟨J,f.trans (ax.mono f.size)⟩
  go_wp2_with fail;have⟨g,j,k,l,m,n,o,p,c⟩:=q.1.bw ax;have h:=s ax q.2;have d:=a0 4 _ J;unfold fH at d;have e:=Q (aP.oo bf c);clear c;rw[dA];go_wp2_with fail;refine mU e λbg a=>?_;have ay:=Q (ax.trans (a.mono ax.size));have a1:=Q (a0.bw a);clear a g j k l m n o p h d e;cases bc;·have B6:=Q (show w=F by rw[v];simp);go_wp2;go_ret;rw[B6];exact⟨J,f.trans (ay.mono f.size)⟩
  go_wp2_with fail;have⟨g,j,k,l,m,n,o,p,c⟩:=q.1.bw ay;have h:=s ay q.2;have d:=a1 5 _ J;unfold fH at d;have e:=Q (aQ.oo bg c);clear c;rw[dA];go_wp2_with fail;refine mU e λbi a=>?_;have a2:=Q (ay.trans (a.mono ay.size));have bk:=Q (a1.bw a);clear a g j k l m n o p h d e;cases be;·have B6:=Q (show w=F by rw[v];simp);go_wp2;go_ret;rw[B6];exact⟨J,f.trans (a2.mono f.size)⟩
  go_wp2_with fail;rw[dA];have B6:=Q (show w=T by rw[v];rfl);go_wp2;go_ret;rw[B6];exact⟨J,f.trans (a2.mono f.size)⟩
 rw[ak aN]at i P⊢;have B6:=Q i;have z:=Q (f.oo.trans (ag.mono f.size));clear i ag P;simp only[et];go_wp2_with fail;refine wp_loop_rounds 1 ?_;rw[dA];exact nU
def jj(b c:N)(a:ad):Bool:=L a==b&&ae a c==0&&a.all λd=>cd d 0 2147483648
def mb(a:N)(b:ai):Bool:=L b==a&&(List.range a).all λc=>jj a c (bo b c)
def rF{b:ai}:mb a b=T↔b.length=a/\∀d,d<a->jj a d (bo b d)=T:=by simp[mb]
def pJ{c:ad}:jj a b c=T↔c.length=a/\ae c b=0/\∀d,d<L c->cd (ae c d) 0 2147483648=T:=by unfold jj;rw[cr,cr,beq_iff_eq,beq_iff_eq,d4,and_assoc];refine and_congr Iff.rfl (and_congr Iff.rfl ⟨λf d e=>f _ (hO e),λf j i=>?_⟩);obtain⟨d,e,rfl⟩:=gP i;have:=f d e;rwa [e9 e]at this
def PL(an:V)(i:ai)(o:N)(u:W)(R:bt u an i)(a1:o<=1000000):ap ab 85 #[an,o] u (ch u (au (mb o i))):=by
 have⟨U,p⟩:=K (mb o i);rw[<-p];obtain⟨a4,c,a5,rfl,Y,_,ad⟩:=R.open;by_cases ar:c=o;rotate_left
 ·have aO:((c:I)!=(o:I))=T:=by rw[bne_iff_ne];omega
  have B6:=Q (show U=F by rw[p,<-Bool.not_eq_true,rF];omega);clear p Y ad R ar;go_in;exact mP
 subst ar;have av:∀b,b<c->jj c b (bo i b)=F->U=F:=λb ax k=>by rw[p,<-Bool.not_eq_true,rF];intro l;have:=l.2 b ax;rw[k]at this;cases this
 have ay:(∀b,b<c->jj c b (bo i b)=T)->U=T:=λl=>by rw[p,rF];exact⟨Y,l⟩
 have aO:((c:I)!=(c:I))=F:=D
 have aP:=Q (λaQ aR=>ma aR 0 2147483648 aQ);change H _ at av ay ad;clear p Y R;go_in;go_wp2;go_loopw [15] (λm wr=>∃(b:N),m=(b:I)/\b<=c/\(∀a,a<b->jj c a (bo i a)=T)/\B u u wr) (λm _=>c-(aw m).toNat);exact⟨0,J,a3 _,λa g=>absurd g (fx _),aS _ _⟩;obtain⟨b,rfl,ax,h,e⟩:=hrel;obtain⟨ag,rfl⟩:=K wr;by_cases Ch:b<c
 ·obtain⟨a6,a8,a9,d,ba,rfl,_,q,v,_,r⟩:=ad b Ch;have q:=s e q;have w:=av b Ch;have⟨f,ah⟩:=K (bo i b);rw[<-ah]at v r w;have aA:jj c b f=T->∀a,a<b+1->jj c a (bo i a)=T:=λk a g=>by by_cases t:a=b;subst t;rw[<-ah];exact k;exact h a O
  have bb:=aJ b;have bc:(b:I)<c:=O
  have z:=Q e;change H _ at w aA;clear h e ah;by_cases aC:d=c;rotate_left
  ·have be:((d:I)!=(c:I))=T:=by rw[bne_iff_ne];omega
   have B6:=Q (w.oo (by rw[<-Bool.not_eq_true,pJ];omega));clear aC v r;exact nU
  subst aC;obtain⟨aT,aU,rfl,_,y⟩:=r b Ch;have y:=s z y;have⟨x,n⟩:=K (ae f b);rw[<-n]at y;by_cases G:x=0;rotate_left
  ·have aV:(x !=0)=T:=by rw[bne_iff_ne];exact G
   have B6:=Q (w.oo (by rw[<-Bool.not_eq_true,pJ];omega));clear v r n G;exact nU
  have aV:(x !=0)=F:=X G
  have aD:(∀a,a<d->cd (ae f a) 0 2147483648=T)->jj d b f=T:=λl=>pJ.2 ⟨v,O,λa g=>l a O⟩;have aE:∀a,a<d->cd (ae f a) 0 2147483648=F->jj d b f=F:=λa g k=>by rw[<-Bool.not_eq_true,pJ];intro l;have:=l.2.2 a O;rw[k]at this;cases this
  have aF:∀a,a<d->C ag ⟨aT,aU+a,Z⟩=A (aa ac (ae f a)):=λa g=>by have⟨_,_,t,_,aW⟩:=r a g;simp only[a2,bN,bT]at t;obtain⟨rfl,rfl⟩:=t;exact s z aW
  change H _ at aD aE aF;clear v r n G;go_wp2_with fail;clear y q;go_loopw [33] (λm wr=>∃(a:N),m=(a:I)/\a<=d/\(∀j,j<a->cd (ae f j) 0 2147483648=T)/\B ag ag wr) (λm _=>d-(aw m).toNat);exact⟨0,J,a3 _,λa g=>absurd g (fx _),aS _ _⟩;obtain⟨a,rfl,g,h,e⟩:=hrel;obtain⟨aX,rfl⟩:=K wr;by_cases D5:a<d
  ·have q:=s e (aF a D5);have ak:=Q (aP.oo aX (ae f a));have M:=aE a D5;have⟨x,n⟩:=K (ae f a);rw[<-n]at q ak M;have⟨aG,al⟩:=K (cd x 0 2147483648);rw[<-al]at ak M;have aI:aG=T->∀j,j<a+1->cd (ae f j) 0 2147483648=T:=λk j bf=>by by_cases t:j=a;subst t;rw[<-n,<-al];exact k;exact h j O
   have bg:=aJ a;have bh:(a:I)<d:=O
   have P:=Q e;change H _ at M aI;clear h e n al;go_wp2_with fail;refine mU ak λbi aL=>?_;have aN:=Q (P.oo.trans (aL.mono P.size));clear aL q;cases aG with
    |true=>
     have am:=Q (aI.oo dk);go_wp2;go_roundw;case rel=>exact⟨a+1,aK,O,am,aN⟩
     simp only[aw];exact qx
    |false=>have B6:=Q (w (M dk));go_wp2;go_ret;rw[B6];exact⟨J,z.trans (aN.mono z.size)⟩
  have aY:a=d:=O
  subst aY;have am:=Q (aA.oo (aD h));have P:=Q e;clear h e;go_wp2;go_roundw;case rel=>exact⟨b+1,aK,O,am,z.trans (P.mono z.size)⟩
  exact bY
 have a0:b=c:=O
 subst a0;have B6:=Q (ay.oo h);have z:=Q e;clear h e;exact nU
def k2(b c d e:Int)(a:List Cu)(f:List (List Int)):Bool:=cd b 1 64&&decide (a.length<=2000)&&cd c 0 2147483648&&cd d 0 2147483648&&cd e 0 2147483648&&a.all (gW b)&&mb (a.length+1) f
def iG(a b c d:Int)(e:List Cu)(f:List (List Int)):Int:=if k2 a b c d e f=true then 0 else 3
def iH(a:List Cu):Prop:=∀b,b<a.length->(∀c∈(aQ a b).ps,c<18446744073709551616)/\(aQ a b).ps.length<=1000000
def yQ(c e g h:Int)(ay aA:Value)(d:List Cu)(j:List (List Int))(x:World)(a4:bG x ay d)(aC:bt x aA j)(a5:iH d)(bO:d.length<=900000):Calls prog 57 #[.agg #[.int .i64 c,.int .i64 e,.int .i64 g,.int .i64 h,ay,aA]] x (ch x (.int .i64 (iG c e g h d j))):=by
 obtain⟨aD,a6,a8,bP,z⟩:=bR x (.int .i64 c) (.int .i64 e) (.int .i64 g) (.int .i64 h) ay aA;obtain⟨a9,Y⟩:=K (iG c e g h d j);rw[<-Y];obtain⟨cu,b,cv,rfl,ba,_,bb⟩:=a4.open;obtain⟨bc,be,bf,rfl,bS,_,_⟩:=aC.open;have m:k2 c e g h d j=false->a9=3:=λy=>by rw[Y,iG,y];rfl
 have aE:k2 c e g h d j=true->a9=0:=λy=>by rw[Y,iG,y];rfl
 have G:k2 c e g h d j=(cd c 1 64&&decide (b<=2000)&&cd e 0 2147483648&&cd g 0 2147483648&&cd h 0 2147483648&&d.all (gW c)&&mb (b+1) j):=by rw[k2,ba]
 obtain⟨aG,bg⟩:=K (k2 c e g h d j);rw[<-bg]at m aE G;have aI:(∀a,a<b->gW c (aQ d a)=true)->d.all (gW c)=true:=λy=>by rw[List.all_eq_true];intro bi z;obtain⟨a,ad,rfl⟩:=List.getElem_of_mem z;have:=y a O;rwa [wS ad]at this
 have aL:∀a,a<b->gW c (aQ d a)=false->d.all (gW c)=false:=λa ad y=>by rw[<-Bool.not_eq_true,List.all_eq_true];intro bT;have:=bT _ (wT (bh (a<d.length)));rw[y]at this;cases this
 have ae:=Q (λ(i:World) (bi Jq bk:Int)=>ma bi Jq bk i);have bl:=Q (λ(i:World) (bU:Below (x:Nat) x i)=>(by have:=PL (.slice bc be bf) j (b+1) i (aC.bw bU) O;rw[show((b+1:Nat):Int)=(b:Int)+1 by omega]at this;exact this:Calls prog 85 #[.slice bc be bf,.int .i64 ((b:Int)+1)] i (ch i (.bool (mb (b+1) j)))));have ag:=Q z;have cw:b<=1000000:=O
 obtain⟨bm,bn⟩:=K (d.all (gW c));rw[<-bn]at G aI aL;obtain⟨ah,bo⟩:=K (mb (b+1) j);rw[<-bo]at G bl;have bV:=Q (λa (ad:a<b)=>a5 a O);obtain⟨l,p,r,s,t,u⟩:=z;have C9:=Q a8;change H _ at a6 bb m aE G aI aL bS;clear a8;clear a4 aC a5 bO ba Y bg bn bo bP;go_in;go_upto_region 1 with fail;rw[a6.oo];go_wp2_with fail;refine mU (ae.oo aD c 1 64) λD bq=>?_;obtain⟨bW,br⟩:=K (cd c 1 64);have ai:=Q G.oo;rw[<-br]at ai⊢;clear br l p r s t u;have C':=Q bq;clear bq;obtain⟨l,p,r,s,t,u⟩:=ag.oo.bw C'.oo;cases bW with
  |false=>have B6:=Q (m.oo (by rw[ai.oo];simp));exact sN
  |true=>
 by_cases ak:2000<b
 ·have bX:decide ((2000:Int)<b)=true:=by simp;omega
  have bY:decide (2000<b)=true:=X ak
  have B6:=Q (m.oo (by rw[ai.oo,show decide (b<=2000)=false by simp;omega];simp));clear ak;exact sN
 have bX:decide ((2000:Int)<b)=false:=aF
 have bY:decide (2000<b)=false:=X ak
 have v:aG=(cd e 0 2147483648&&cd g 0 2147483648&&cd h 0 2147483648&&bm&&ah):=by rw[ai.oo,show decide (b<=2000)=true by simp;omega];simp
 obtain⟨bZ,aO⟩:=K (cd e 0 2147483648);rw[<-aO]at v;have bs:=Q (λ(i:World)=>ae.oo i e 0 2147483648);rw[<-aO]at bs;obtain⟨b0,aP⟩:=K (cd g 0 2147483648);rw[<-aP]at v;have bu:=Q (λ(i:World)=>ae.oo i g 0 2147483648);rw[<-aP]at bu;obtain⟨b2,aR⟩:=K (cd h 0 2147483648);rw[<-aR]at v;have bv:=Q (λ(i:World)=>ae.oo i h 0 2147483648);rw[<-aR]at bv;obtain⟨M,bx,bz,aS⟩:∃M,D.alloc (.cells #[.int .i64 e,.int .i64 g,.int .i64 h] 3)=M/\Below (D:Nat) D M/\ax M (D:Nat) [.int .i64 e,.int .i64 g,.int .i64 h]:=⟨_,rfl,aN _ _,ax.new D _ _⟩
 obtain⟨cx,aT⟩:=K (D:Nat);rw[<-aT]at aS;have aU:=Q (And.intro (q C'.oo bz) aS);change H _ at bx v;change H _ at aT;clear aO aP aR bz aS ak;go_upto_region 3 with fail;go_upto_region 4 with(rw[bx.oo])
 rw[<-aT.oo];clear l p r s t u;have P:=aU.oo.2 0 _ rfl;refine wp_loop_rounds 4 ?_;rw[rounds_succ];go_wp2_with fail;refine mU (bs.oo M) λb3 k=>?_;have al:=Q (And.intro (q aU.oo.1 k) (aU.oo.2.bw k));clear k P;cases bZ with
  |false=>have B6:=Q (m.oo (by rw[v.oo];simp));go_wp2;go_ret;rw[B6.oo];exact⟨rfl,C9.oo.trans (al.oo.1.mono C9.oo.size)⟩
  |true=>
 go_wp2_with fail;have P:=al.oo.2 1 _ rfl;rw[rounds_succ];go_wp2_with fail;refine mU (bu.oo b3) λb4 k=>?_;have am:=Q (And.intro (q al.oo.1 k) (al.oo.2.bw k));clear k P;cases b0 with
  |false=>have B6:=Q (m.oo (by rw[v.oo];simp));go_wp2;go_ret;rw[B6.oo];exact⟨rfl,C9.oo.trans (am.oo.1.mono C9.oo.size)⟩
  |true=>
 go_wp2_with fail;have P:=am.oo.2 2 _ rfl;rw[rounds_succ];go_wp2_with fail;refine mU (bv.oo b4) λcy k=>?_;have aV:=Q (And.intro (q am.oo.1 k) (am.oo.2.bw k));clear k P;cases b2 with
  |false=>have B6:=Q (m.oo (by rw[v.oo];simp));go_wp2;go_ret;rw[B6.oo];exact⟨rfl,C9.oo.trans (aV.oo.1.mono C9.oo.size)⟩
  |true=>
 go_wp2_with fail;have bA:=Q (show aG=(bm&&ah) by rw[v.oo];simp);obtain⟨l,p,r,s,t,u⟩:=ag.oo.bw aV.oo.1;rw[rounds_succ];go_wp2_with fail;clear l p r s t u;go_loopw [36] (λaW wr=>∃(a:Nat),aW= .int .i64 a/\a<=b/\(∀n,n<a->gW c (aQ d n)=true)/\Below (aD:Nat) aD wr) (λaW _=>b-(aw aW).toNat);exact⟨0,rfl,Nat.zero_le _,λn bB=>absurd bB (Nat.not_lt_zero _),aV.oo.1⟩;obtain⟨a,rfl,ad,an,w⟩:=hrel;obtain⟨bC,rfl⟩:=K wr;obtain⟨l,p,r,s,t,u⟩:=ag.oo.bw w;have bD:=Q w;by_cases Ch:a<b
 ·obtain⟨bk,cz,b5,rfl,_,IW⟩:=bb.oo a Ch;have IW:=IW.bw (C9.oo.trans (w.mono C9.oo.size));obtain⟨aX,aY⟩:=bV.oo a Ch;have ar:=aL.oo a Ch;obtain⟨o,a0⟩:=K (aQ d a);rw[<-a0]at IW aX aY ar;obtain⟨bE,av⟩:=K (gW c o);have bF:bE=true->∀n,n<a+1->gW c (aQ d n)=true:=λz n bB=>by by_cases f:n=a;subst f;rw[<-a0,<-av];exact z;exact an n O
  rw[<-av]at ar;obtain⟨⟨bH,bI,bJ,rfl⟩,_⟩:(∃Jq c Ju,b5= .slice Jq c Ju)/\True:=⟨vL,trivial⟩
  have bK:=IW.ft;obtain⟨b6,bL,a1,b7,bM⟩:=da bC o.kd o.dm (.slice bH bI bJ) o.rt o.sz o.st o.ru o.hd;have a2:=Q (PK o (.slice bH bI bJ) c b6 (bK.bw a1) aX aY);rw[<-av]at a2;unfold d8 at a2;obtain⟨b8,b9,b',ca,cc,ce,cf,cg,_⟩:=IW;have a3:=Q (w.trans (a1.mono w.size));have cA:=aJ a;have cB:(a:Int)<b:=O
  change H _ at bL ar bF;change H _ at bM;clear an w a0 av bK a1 b7 aX aY;go_upto_region 12 with fail;rw[bL.oo];clear l p r s t u b8 b9 b' ca cc ce cf cg;obtain⟨ci,cj,ck,cl,cm,cn,co,cp⟩:=bM.oo;obtain⟨l,_,_,_,_,_⟩:=ag.oo.bw a3.oo;go_wp2_with fail;refine mU a2.oo λcq R=>?_;have U:=Q (a3.oo.trans (R.mono a3.oo.size));clear R l ci cj ck cl cm cn co cp;cases bE with
   |true=>
    have cr:=Q (bF.oo dk);go_wp2;go_roundw;case rel=>exact⟨a+1,aK,O,cr.oo,U.oo⟩
    exact hQ
   |false=>have B6:=Q (m.oo (by rw[bA.oo,ar.oo dk];rfl));go_wp2;go_ret;rw[B6.oo];exact⟨rfl,C9.oo.trans (U.oo.mono C9.oo.size)⟩
 have cs:a=b:=O
 subst cs;have bN:=Q (show aG=ah by rw[bA.oo,aI.oo an];rfl);have ct:=Q (bl.oo bC (C9.oo.trans (w.mono C9.oo.size)));clear an w;go_wp2_with fail;refine mU ct.oo λcq R=>?_;have U:=Q (C9.oo.trans ((bD.oo.trans (R.mono bD.oo.size)).mono C9.oo.size));clear R l p r s t u;cases ah with
  |true=>have B6:=Q (aE.oo (by rw[bN.oo]));go_wp2;go_ret;rw[B6.oo];exact⟨rfl,U.oo⟩
  |false=>have B6:=Q (m.oo (by rw[bN.oo]));go_wp2;go_ret;rw[B6.oo];exact⟨rfl,U.oo⟩
def PM(p P R U:Int)(av ax:Value)(r:List Cu)(X:List (List Int))(w:World)(aV:bG w av r)(aW:bt w ax X)(aX:iH r)(bh:r.length<=900000)(bi:X.length<=1000000):Calls prog 12 #[.agg #[.int .i64 p,.int .i64 P,.int .i64 R,.int .i64 U,av,ax]] w (rC w):=by
 obtain⟨j,aY,C9,bk,a0⟩:=bR w (p:I) P R U av ax;obtain⟨bl,d,b2,rfl,bm,_,a1⟩:=aV.open;obtain⟨bn,k,b3,rfl,bq,_,a2⟩:=aW.open;have br:=Q (λ(g:W) (l:B j j g) (a:N) (Y:a<d)=>by obtain⟨b,h,x,f,_,IW⟩:=a1 a Y;exact(⟨b,h,x,f,IW.bw (q C9 l),aX a O⟩:∃b h x,bl=A ⟨b,h,Z⟩/\kF g b (h+a*8) (aQ r a) x/\(∀bs∈(aQ r a).ps,bs<18446744073709551616)/\(aQ r a).ps.length<=1000000));have a4:=Q (λ(g:W) (l:B j j g)=>a0.bw l);have bu:=Q (λ(g:World) (l:Below (j:Nat) j g) (a:Nat) (Y:a<k)=>by obtain⟨b,h,y,m,ad,f,_,a5,ag,_,bx⟩:=a2 a Y;exact(⟨b,h,y,m,ad,f,s (q C9 l) a5,λc a6=>by obtain⟨z,D,bz,_,bA⟩:=bx c a6;exact⟨z,D,bz,ae (bo X a) c,s (q C9 l) bA⟩,by first|exact ag.le|omega⟩:∃b h y m ad,bn=some ⟨b,h,none⟩/\g.cell? ⟨b,h+a,none⟩=some (.slice y m ad)/\(∀c,c<m->∃z D,y=some ⟨z,D,none⟩/\∃G:Int,g.cell? ⟨z,D+c,none⟩=some (.int .i64 G))/\(bo X a).length<=m));have b5:d<=900000:=O
 have bB:k<=1000000:=O
 obtain⟨ay,ah,ai,ak,aA,al⟩:=a0;change H _ at aY C9;clear aV aW aX bh bm bk bq bi a1 a2;go_in;go_upto_region 2 with fail;rw[aY];go_cut [60] (λaC aD=>(∃Ju:Bool,aC=au Ju/\(Ju=F->k=d+1))/\aD=j);case first=>
  obtain⟨aE,a8⟩:∃b,decide (p<1)=b:=⟨_,J⟩
  obtain⟨aG,aI⟩:∃b,decide (64<p)=b:=⟨_,J⟩
  obtain⟨aL,am⟩:∃b,decide (P<0)=b:=⟨_,J⟩
  obtain⟨aN,bC⟩:∃b,decide (2147483648<P)=b:=⟨_,J⟩
  obtain⟨bD,b6⟩:∃b,decide (R<0)=b:=⟨_,J⟩
  obtain⟨bE,b7⟩:∃b,decide (2147483648<R)=b:=⟨_,J⟩
  obtain⟨bF,b8⟩:∃b,decide (U<0)=b:=⟨_,J⟩
  obtain⟨bH,b9⟩:∃b,decide (2147483648<U)=b:=⟨_,J⟩
  obtain⟨a9,bI⟩:∃b,decide (2000<d)=b:=⟨_,J⟩
  have b':decide (2000<(d:I))=a9:=by rw[<-bI,decide_eq_decide];omega
  have ba:∀ar:Prop,((((k:I)!=(d:I)+1)=T)->ar)->(k=d+1->(((k:I)!=(d:I)+1)=F)->ar)->ar:=λar bJ bK=>by by_cases f:k=d+1;exact bK f st;exact bJ mJ
  cases aE;focus (cases aG;focus (cases aL;focus (cases aN;focus (cases bD;focus (cases bE;focus (cases bF;focus (cases bH;focus (cases a9))))))))
  all_goals
   refine ba _ (λbL=>?_) (λu bL=>?_);all_goals clear ba
   ·go_wp2;go_meet;exact⟨⟨_,J,by first|exact λf=>f'⟩,J⟩
   have aO:=Q u;clear u;go_wp2;go_meet;exact⟨⟨_,J,λ_=>aO⟩,J⟩
 case rest=>
 obtain⟨⟨Ju,rfl,u⟩,rfl⟩:=hcut;obtain⟨j,rfl⟩:=K wc;cases Ju with
  |true=>clear u;go_wp2;go_ret;exact .of _ C9
  |false=>
 have aO:=Q (u J);clear ay ah ai ak aA al u;go_wp2;go_loopw [4,5] (λi _ wr=>∃(a:N),i=a/\a<=d/\B j j wr) (λi _ _=>d-(aw i).toNat);exact⟨0,J,a3 _,aS _ _⟩;obtain⟨a,rfl,Y,v⟩:=hrel;obtain⟨t,rfl⟩:=K wr;by_cases Ch:a<d
 ·obtain⟨ay,ah,ai,ak,aA,al⟩:=a4 t v;obtain⟨b,h,x,rfl,IW,aP,aR⟩:=br t v a Ch;obtain⟨n,bb⟩:=K (aQ r a);rw[<-bb]at IW aP aR;obtain⟨⟨bM,bN,bO,rfl⟩,_⟩:(∃Jq p Ju,x=S Jq p Ju)/\True:=⟨vL,trivial⟩
  have be:=IW.ft;have bP:=Q (λ(g:W) (l:B t t g)=>Px n.kd n.dm (S bM bN bO) n.rt n.sz n.st n.ru n.hd p n.ps g (be.bw l) aP aR);obtain⟨ca,cc,cd,ce,cf,cg,ch,ci,_⟩:=IW;have bS:=aJ a;have bT:(a:I)<d:=O
  have bf:=Q v;clear v;clear ah ai ak al bb be aP aR;go_upto_region 7 with fail;refine bv [0,2,5,101,3,104,106,207,308] ?_;iterate 7 refine mS ?_
  refine aU λcj bU=>?_;go_simp;refine mE (bP t.drew (an _)) λo bV M=>?_;have M:=q (an t) M;refine bU _ _ (.mk M) ?_;refine mS ?_;refine bc ?_;have C':=Q (bf.oo.trans (M.mono bf.size));clear M;cases bV with
   |true=>
    go_wp2;go_roundw;case rel=>exact⟨a+1,aK,O,C'⟩
    exact bY
   |false=>exact qB
 have bW:a=d:=O
 subst bW;have bX:k=a+1:=aO;subst bX;obtain⟨o,rfl⟩:=K t;have C':=Q v;clear v bB;go_wp2;go_loopw [6,7] (λi _ wr=>∃(c:N),i=(c:I)/\c<=a+1/\wr=o) (λi _ _=>a+1-(aw i).toNat);exact⟨0,J,a3 _,J⟩;obtain⟨c,rfl,a6,rfl⟩:=hrel;obtain⟨o,rfl⟩:=K wr;by_cases Ch:c<a+1
 ·obtain⟨ay,ah,ai,ak,aA,al⟩:=a4 o C';obtain⟨b,h,y,m,ad,rfl,a5,bg,_⟩:=bu o C' c Ch;have ck:c<=a:=by omega
  have a8:decide ((c:I)<=a)=T:=aF
  have bS:=aJ c;have bT:(c:I)<((a+1:N):I):=O
  have cl:(c:I)<a+1:=O
  change H _ at bg;by_cases ag:m=a+1;rotate_left
  ·have aI:((m:I)!=(a:I)+1)=T:=by rw[bne_iff_ne];omega
   clear ag;exact qB
  subst ag;have aI:(((a+1:N):I)!=(a:I)+1)=F:=st
  go_wp2;go_loopw [7] (λi wr=>∃(e:N),i=e/\e<=a+1/\wr=o) (λi _=>a+1-(aw i).toNat);exact⟨0,J,a3 _,J⟩;obtain⟨e,rfl,cm,rfl⟩:=hrel;obtain⟨o,rfl⟩:=K wr;by_cases aT:e<a+1
  ·obtain⟨z,D,rfl,G,cn⟩:=bg e aT;have am:decide ((e:I)<=a)=T:=by simp;omega
   have co:=aJ e;have cp:(e:I)<((a+1:N):I):=O
   have cq:(e:I)<a+1:=O
   go_upto_region 18 with fail;go_cut [130] (λaC aD=>(∃Ju:Bool,aC=au Ju)/\aD=o);case first=>
    obtain⟨aE,a8⟩:∃b,decide (G<0)=b:=⟨_,J⟩
    obtain⟨aG,aI⟩:∃b,decide (2147483648<G)=b:=⟨_,J⟩
    obtain⟨aL,am⟩:∃b,((c:I)==(e:I))=b:=⟨_,J⟩
    obtain⟨aN,bC⟩:∃b,(G !=0)=b:=⟨_,J⟩
    cases aE;focus (cases aG;focus (cases aL<;>cases aN))
    all_goals go_wp2;go_meet;exact⟨⟨_,J⟩,J⟩
   case rest=>
   obtain⟨⟨Ju,rfl⟩,rfl⟩:=hcut;cases Ju with
    |true=>exact qB
    |false=>
     go_wp2;go_roundw;case rel=>exact⟨e+1,aK,O,dk⟩
     simp only[aw];first|exact dZ aT|exact ea aT O
  have bZ:e=a+1:=O
  have am:decide (((a+1:N):I)<=(a:I))=F:=aF
  subst bZ;go_wp2;go_roundw;case rel=>exact⟨c+1,aK,O,dk⟩
  exact bY
 have b0:c=a+1:=O
 have am:decide (((a+1:N):I)<=(a:I))=F:=aF
 subst b0;exact qB
def a5(a:I):ByteArray:=⟨(Lib.itoa a).toArray⟩
def iI(a:UInt8):V:=aa .u8 (a.toNat:I)
def rG:E UInt8:=List.replicate 20 0
def PN(a:W):∃b,a.alloc (az #[aa .u8 0,aa .u8 0,aa .u8 0,aa .u8 0,aa .u8 0,aa .u8 0,aa .u8 0,aa .u8 0,aa .u8 0,aa .u8 0,aa .u8 0,aa .u8 0,aa .u8 0,aa .u8 0,aa .u8 0,aa .u8 0,aa .u8 0,aa .u8 0,aa .u8 0,aa .u8 0] 84)=b/\B a a b/\b.heap.size=(a:N)+1/\ax b a (rG.map iI)/\∀c,aH b ⟨a,c,Z⟩=F:=⟨_,J,aN _ _,D,ax.new a (rG.map iI) _,λc=>aE⟩
def PO(a:I)(b:a<0)(c: -9223372036854775808<=a):IntKind.u64.wrap (-IntKind.u64.wrap a)=(a.natAbs:I):=vs
def PP(c:a<10):Lib.decDigits a=[UInt8.ofNat (48+a)]:=by rw[Lib.decDigits,dif_pos c]
def PQ(c:¬a<10):Lib.decDigits a=Lib.decDigits (a/10)++[UInt8.ofNat (48+a%10)]:=by rw[Lib.decDigits,dif_neg c]
def PR(a:N):(UInt8.ofNat (48+a%10)).toNat=48+a%10:=by have:a%10<10:=Nat.mod_lt _ av;rw[UInt8.toNat_ofNat'];omega
def PT(c a:N)(f:a<20)(b:W):(Instr.sliceAt 84 (aM (A c)) (A (aa ac (a:I))) Z Z).run ab b= .ok (S (A ⟨c,a,Z⟩) (20-a) (20-a)) b:=by
 have d:ab.arrayLen 84=20:=aT
 have e:(sizeOf (ab.elem 84)).run ab b= .ok 1 b:=aT
 rw[run_sliceAt_array_l b 84 ⟨c,0,Z⟩ aT ac (a:I) O (by rw[d];omega),e];simp only[Result.andThen,slicedAt,d,cW,Nat.mul_one];rw[ak O];simp[Addr.add];omega
def yR(b a:N)(c:E UInt8)(d:W)(f:ax d b (c.map iI))(g:L c=20):(convert 65 9 (S (A ⟨b,a,Z⟩) (20-a) (20-a))).run ab d= .ok (a7 ⟨(c.drop a).toArray⟩) d:=by
 have h:=run_convert_bytes_back (P:=ab) d 65 9 5 ⟨b,a,Z⟩ (20-a) (c.drop a) underlying65 underlying5 underlying9 (λe i=>by
  rw[ga]at i;have ha:(⟨b,a,Z⟩:bQ).add e=⟨b,a+e,Z⟩:=hM
  rw[ha];refine f (a+e) _ ?_;rw[List.getElem?_map,e7 O];simp[iI,List.getElem_drop])
 rwa [ga,g]at h
def ot(c:I)(k:W)(aF: -9223372036854775808<=c)(a2:c<=9223372036854775807):ap ab 22 #[c] k (ch k (a7 (a5 c))):=by
 have⟨aG,R,Y,a3,aI,ad⟩:=PN k;obtain⟨g,Ii⟩:∃g:N,g=c.natAbs:=⟨_,J⟩
 have w:=Q (U aI ad);have ae:=Q Ii;have⟨f,q⟩:=K (k:N);rw[<-q]at w;change H _ at R Y;change H _ at q;go_in;go_upto_region 2 with(rw[R])
 rw[<-q];go_upto_if 9 with fail;go_cut [4] (λr aK=>r=aa b1 (g:I)/\aK=aG);case first=>
  by_cases j:c<0
  ·have x:decide (c<0)=T:=by simpa using j
   have Gu:=PO c j aF;rw[<-Ii]at Gu;change H _ at Gu;go_wp2_with fail;rw[Gu];go_meet;exact⟨J,J⟩
  have x:decide (c<0)=F:=X j
  obtain rfl:c=(g:I):=O
  have Gu:IntKind.u64.wrap (g:I)=g:=vs
  exact wx
 obtain⟨rfl,rfl⟩:=hcut;have aN:g<=9223372036854775808:=O
 obtain⟨d,y⟩:∃d:N,d=if c<0 then 1 else 0:=⟨_,J⟩
 have ad:d<=1:=by rw[y];split<;>omega
 change H _ at y;go_wp2;go_loopw [4,5] (λr aO wr=>∃(b a:N) (l:E UInt8),r=aa b1 (b:I)/\aO=(a:I)/\L l=20/\d<a/\a<=20/\b<10^(a-d)/\b<=9223372036854775808/\(Lib.decDigits g=Lib.decDigits b++l.drop a)/\ax wr f (l.map iI)/\(∀m,aH wr ⟨f,m,Z⟩=F)/\B f k wr) (λr _ _=>(aw r).toNat);exact⟨g,20,rG,rfl,rfl,av,O,O,by rcases(by omega:d=0\/d=1)with rfl|rfl<;>(simp;omega),aN,by simp[rG],w.oo.1,w.oo.2,by rw[q.oo];exact Y.oo⟩;obtain⟨b,a,l,rfl,rfl,ag,aP,aQ,s,aR,z,D,G,n⟩:=hrel;obtain⟨aS,rfl⟩:=K wr;obtain⟨a,rfl⟩:∃M,a=M+1:=⟨a-1,O⟩
 have aT:((a+1:N):I)=(a:I)+1:=O
 rw[aT];have a4:=aJ a;have a6:(a:I)<20:=O
 have a8:=aJ b;have a9:(b:I)<=9223372036854775808:=O
 obtain⟨u0,ah⟩:∃u0,(l.map iI)[a]? =A u0:=⟨_,by rw[List.getElem?_map,e7 O];rfl⟩
 have ba:=D a u0 ah;have bb:=G a;have bc:=Q z;have be:=Q (U ag (U aP (U aQ (U s aR))));have ai:=λm aU aV=>PT f m aU aV;have h:=D.set a (iI (UInt8.ofNat (48+b%10))) qp;rw[<-List.map_set]at h;have al:iI (UInt8.ofNat (48+b%10))=aa .u8 (48+(b:I)%10):=by unfold iI;rw[PR];congr 1
 rw[al]at h;have⟨i,t⟩:=K (l.set a (UInt8.ofNat (48+b%10)));rw[<-t]at h;have an:L i=20:=by rw[t,b'];exact ag
 have ar:i.drop a=UInt8.ofNat (48+b%10)::l.drop (a+1):=by rw[t,List.drop_eq_getElem_cons (by rw[b'];omega),List.getElem_set_self];congr 1;rw[List.drop_set_of_lt O]
 have⟨u,o⟩:=K (aj aS ⟨f,a,Z⟩ (aa .u8 (48+(b:I)%10)));rw[<-o]at h;have ay:∀m,aH u ⟨f,m,Z⟩=F:=λm=>by rw[o,bs];exact G m
 have aA:B f k u:=by rw[o];exact n.setCell (p:=⟨f,a,Z⟩) (aL _) _
 have e:=Q (U h (U ay (U aA (U an ar))));change H _ at o;clear ah D G n h al t an ar ay aA;by_cases P:b<10
 ·have x:((b:I)/10==0)=T:=by rw[beq_iff_eq];omega
  have aC:Lib.decDigits g=i.drop a:=by rw[e.2.2.2.2,z,PP P,Nat.mod_eq_of_lt P];rfl
  by_cases j:c<0
  ·have aX:decide (c<0)=T:=by simpa using j
   obtain⟨a,rfl⟩:∃M,a=M+1:=⟨a-1,by have:=y.oo;rw[am j]at this;omega⟩
   obtain⟨u1,aY⟩:∃u1,(i.map iI)[a]? =A u1:=⟨_,by rw[List.getElem?_map,e7 (by rw[e.2.2.2.1];omega)];rfl⟩
   have g1:=e.1 a u1 aY;have bf:=e.2.1 a;have h:=e.1.set a (iI 45) (by rw[de,e.2.2.2.1];omega);rw[<-List.map_set]at h;have⟨aD,v⟩:=K (aj u ⟨f,a,Z⟩ (aa .u8 45));rw[show iI 45=aa .u8 45 from J,<-v]at h;have a0:=yR f a (i.set a 45) aD h (by rw[b'];exact e.2.2.2.1);have C4:=ai a O;have p:=Q (show a5 c=⟨((i.set a 45).drop a).toArray⟩ by rw[List.drop_eq_getElem_cons (by rw[b',e.oo.2.2.2.1];omega),List.getElem_set_self,List.drop_set_of_lt O,<-aC];unfold a5 Lib.itoa;rw[am j,ae]);change H _ at v;go_upto_region 9 with fail;rw[<-o];go_upto_region 12 with fail;rw[<-v];go_wp2;go_ret;rw[p.out];exact⟨J,by rw[<-q];exact(Q (show B f k aD by rw[v];exact e.2.2.1.setCell (p:=⟨f,a,Z⟩) (aL _) _)).out⟩
  have aX:decide (c<0)=F:=X j
  have a0:=yR f a i u e.1 e.2.2.2.1;have C4:=ai a O;have p:=Q (show a5 c=⟨(i.drop a).toArray⟩ by rw[<-aC];unfold a5 Lib.itoa;rw[ak j,ae,show c.natAbs=c.toNat by omega]);go_upto_region 9 with fail;rw[<-o];go_wp2;go_ret;rw[p.out];exact⟨J,by rw[<-q];exact e.2.2.1⟩
 have x:((b:I)/10==0)=F:=kw
 have hp:10^(a+1-d)=10^(a-d)*10:=by by_cases aE:d<=a;rw[show a+1-d=(a-d)+1 by omega,Nat.pow_succ];exfalso;rw[show a+1-d=0 by omega]at s;simp at s;omega
 have a1:d<a:=by by_cases aE:d<a;exact aE;exfalso;rw[show a+1-d=1 by omega]at s;omega
 have p:=Q (show b/10<10^(a-d)/\d<a/\Lib.decDigits g=Lib.decDigits (b/10)++i.drop a by refine⟨O,a1,?_⟩;rw[z,e.2.2.2.2,PQ P,ev];rfl);go_wp2_with fail;rw[<-o];go_roundw;exact⟨b/10,a,i,by rw[show((b/10:N):I)=(b:I)/10 by omega],J,e.2.2.2.1,p.out.2.1,O,p.out.1,O,p.out.2.2,e.1,e.2.1,e.2.2.1⟩;simp only[aw];omega
def pK(a:bD):ByteArray:=⟨(Lib.join (a.map (·.data.toList)) [32]).toArray⟩
def cB(a:bD):ByteArray:=pK a++gO
def cv(a:bD):N:=(a.map λb=>b.size+1).sum
def t4(a:bD):(Lib.join (a.map (·.data.toList)) [32]).length<=cv a:=by
 unfold Lib.join cv;induction a with
  |nil=>simp
  |cons b a c=>
   cases a with
    |nil=>simp
    |cons d a=>rw[dE,dE,List.intercalate_cons_cons]at*;simp only[bL,dE,d5,eu,<-Lib.size_eq]at*;omega
def yS(a:bD):(pK a).size=(Lib.join (a.map (·.data.toList)) [32]).length:=by rw[Lib.size_eq];rfl
def pL(d:V)(a:bD)(b:W)(f:bO b d a)(y:cv a<=1000000000):ap ab 19 #[d] b (ch b (a7 (cB a))):=by
 have k:ap ab 33 #[d,a7 ⟨#[32]⟩] b (ch b (a7 (pK a))):=by
  obtain⟨g,e,rfl,l,z,h⟩:=f;cases a with
   |nil=>refine mR (strings_Join_none g e kM b) ?_;exact⟨J,aS _ _⟩
   |cons c a=>
    obtain⟨m,n,G,rfl,o,_⟩:=h 0 D;have K:(c::a).length<=cv (c::a):=by
     have:∀a:bD,L a<=cv a:=by
      intro a;induction a with
       |nil=>simp
       |cons p a M=>simp only[cv,dE,d5,dx]at*;omega
     exact this _
    exact strings_Join m n e (c::a) kM b (λq p i=>by have⟨r,P⟩:=mX.1 i;have⟨R,U,s,ha,t,u⟩:=h q r;simp only[a2,bN,bT]at ha;obtain⟨rfl,rfl⟩:=ha;rw[t,show s=_ from u];simp only[fU,i,Option.getD_some]) (aR b _ o) O l (by have:=t4 (c::a);exact a1 this O)
 have v:=Q k;have w:=λx=>run_string_add_sum (P:=ab) x (pK a) gO (by rw[yS,show gO.size=1 from J];have:=t4 a;omega);unfold gO at w;obtain⟨g,Y,e,rfl,_⟩:=f.open;go_in;go_wp2_with fail;refine mU v λad j=>?_;change H _ at j;go_wp2;go_ret;exact⟨J,j⟩
def PU(a:ByteArray)(b:I)(d:W)(k:a.size<=1000)(f: -9223372036854775808<=b)(g:b<=9223372036854775807)(h:(a5 b).size<=1000):ap ab 20 #[a7 a,b] d (ch d (a7 (cB [a,a5 b]))):=by have i:=Q (ot b d f g);have⟨c,j⟩:=K (a5 b);rw[<-j]at h i⊢;have l:=Q (λe=>pL (S (A e.heap.size) 2 2) [a,c] (e.alloc (az #[a7 a,a7 c] 9)) (jh e [a,c] D) (by simp[cv];omega));clear j f g k h;go_in;go_wp2_with fail;refine i.oo.mono ?_;rintro m n ⟨rfl,o⟩;go_wp2_with fail;refine(l.oo n).mono ?_;rintro m p ⟨rfl,r⟩;have s:=Q (show ch d (a7 (cB [a,c])) (aq (a7 (cB [a,c]))) p from⟨J,q (q o (aN _ _)) r⟩);go_wp2;go_ret;exact s.oo
def yT(a:N):∀b,b<10^(a+1)->(Lib.decDigits b).length<=a+1:=by
 induction a with
  |zero=>intro b c;rw[Lib.decDigits,dif_pos (X c)];simp
  |succ a d=>
   intro b c;rw[Lib.decDigits];split;simp;have:b/10<10^(a+1):=by rw[Nat.div_lt_iff_lt_mul av];rw[Nat.pow_succ]at c;exact c
   have:=d _ this;rw[bL,eu];omega
def mc(a:I)(e: -9223372036854775808<=a)(f:a<=9223372036854775807):(a5 a).size<=1000:=by have c:∀b:N,b<=9223372036854775808->(Lib.decDigits b).length<=20:=λb d=>yT 19 b (Nat.lt_of_le_of_lt d av);show(Lib.itoa a).toArray.size<=1000;rw[List.size_toArray];unfold Lib.itoa;split;have:=c a.natAbs O;rw[dx];omega;have:=c a.toNat O;omega
def yU:∀a:N,Lib.decDigits a≠[]/\∀b∈Lib.decDigits a,48<=b.toNat/\b.toNat<=57:=by
 intro a;induction a using Nat.strongRecOn with
  |ind a h=>
   have d:∀c,c<10->48<=(UInt8.ofNat (48+c)).toNat/\(UInt8.ofNat (48+c)).toNat<=57:=λc d=>by rw[UInt8.toNat_ofNat'];omega
   rw[Lib.decDigits];split;rename_i g;refine⟨D,λb e=>?_⟩;rw[List.mem_singleton.1 e];exact d a g;rename_i g;refine⟨D,λb e=>?_⟩;rcases eh.1 e with f|f;exact(h (a/10) O).2 b f;rw[List.mem_singleton.1 f];exact d _ O
def ni(a:I):d3 (a5 a)=T:=by
 have e:(a5 a).data.toList=Lib.itoa a:=by simp[a5]
 unfold d3;rw[e];unfold Lib.itoa;split;have⟨_,b⟩:=yU a.natAbs;simp only[List.isEmpty_cons,Bool.not_false,Bool.true_and,List.all_cons,cr,ez,d4];exact⟨av,λc d=>Y (b c d)⟩;have⟨f,b⟩:=yU a.toNat;simp only[cr,d4,ez,Bool.not_eq_true',List.isEmpty_eq_false_iff];exact⟨f,λc d=>Y (b c d)⟩
def eE(a:aV):Prop:=∀b,a6 (aC a b)<=900000/\(aC a b).length<=900000
def k3(c:N)(d:ai)(e f g:I)(a:aV):Bool:=decide (∀b,b<L a->eZ c d e f g (aC a b)=0)
def k4(a:W)(b:Bool)(c:bp)(d:W):Prop:=c=aq (au b)/\B a a d
def PV(c:ai)(a:aV)(b:N)(d:b<L a):(a.map (cl c)).take (b+1)=(a.map (cl c)).take b++[cl c (aC a b)]:=by
 have e:aC a b=a[b]:=by simp[aC,d]
 rw[eR (X d)];simp[e]
def PW(t d e f:I)(u:bz)(c v:N)(l w:V)(h:ai)(g:aV)(i:W)(aA:bt i l h)(x:bq i w g)(aD:c<=1000000)(aE:eE g):ap ab 232 #[ao #[t,d,e,f,S u c v,l],ao #[w]] i (k4 i (k3 c h d e f g)):=by
 have⟨aF,G,aG,aI,aL⟩:=bR i t d e f (S u c v) l;have⟨M,P,R,ba,aN⟩:=ec aF w;rw[aI]at aN;have m:=q aG R;have U:=aA.bw m;have aO:=Q (λaP aQ aR aT hp aU=>tR t d e f u c v l aQ h aR aP (U.bw aT) hp aD aU);obtain⟨bb,bc,be,rfl,_,_,_⟩:=U.open;obtain⟨bf,j,bg,rfl,Da,bh,Y⟩:=(x.bw m).open;have aW:=Q (aL.bw R);have aX:=Q (λa=>cx.of (a1 (aE a).1 av));have ad:=m.size;have ae:=Q m;change H _ at G P Da Y;go_in;go_upto_region 1 with(fail)
 rw[G,P];generalize (i:N)+1=bi at*;go_wp2_with fail;go_loopw [6,10] (λaY a wr=>∃(b:N) (ag:V),ag=aY/\a=b/\b<=j/\(∀a,a<b->eZ c h d e f (aC g a)=0)/\B M M wr) (λ_ a _=>j-(aw a).toNat);exact⟨0,_,J,J,a3 _,λa n=>absurd n (fx _),aS _ _⟩;obtain⟨b,ag,rfl,rfl,bk,y,o⟩:=hrel;obtain⟨ah,rfl⟩:=K wr;change H _ at y;by_cases Ch:b<j
 ·obtain⟨bl,bm,ak,al,am,rfl,an,hp⟩:=Y b Ch;have an:=s o an;have bn:=aJ b;have bo:(b:I)<j:=by omega
  have⟨a0,ar,a2,br,bs⟩:=c8 ah (S ak al am);have k:=o.trans (a2.mono o.size);have ax:=Q (aO.oo a0 (S ak al am) (aC g b) k (hp.bw k) (aX b));have⟨bu,bv,bx,bA,bB,bC⟩:=aW.bw k;have⟨z,p⟩:=K (eZ c h d e f (aC g b));rw[<-p]at ax;change H _ at p ar;change H _ at k;go_upto_region 4 with fail;rw[ar];generalize ah=bD at*;go_wp2_with fail;refine mU ax λbE a4=>?_;have ay:=Q (q k a4);by_cases r:z=0
  ·have a5:(z !=0)=F:=by simpa using r
   have a6:H (∀a,a<b+1->eZ c h d e f (aC g a)=0):=Q (λa n=>by by_cases a8:a<b;exact y a a8;rw[show a=b by omega,<-p];exact r);go_wp2;go_roundw;case rel=>exact⟨b+1,_,J,aK,O,a6,ay⟩
   exact bY
  have a5:(z !=0)=T:=X r
  have D:H (k3 c h d e f g=F):=Q (by unfold k3;exact c9 λx=>r (by rw[p];exact x b c1));go_wp2;go_ret;rw[D];exact⟨J,(ae.trans (ay.mono ad))⟩
 have a9:b=j:=O
 subst a9;have D:H (k3 c h d e f g=T):=Q (by unfold k3;exact dD λa n=>y a (by rw[<-Da];exact n));go_wp2;go_ret;rw[D];exact⟨J,(ae.trans (o.mono ad))⟩
def yV(m n o p:I)(x i r:V)(c:ai)(b:aV)(e:W)(aN:∃aO d aP,x=S aO d aP)(y:bt e i c)(z:bq e r b)(D:eE b):ap ab 44 #[ao #[m,n,o,p,x,i],ao #[r]] e (l1 e (b.map (cl c))):=by
 obtain⟨G,M,P,rfl⟩:=aN;have⟨aQ,R,U,X,Y⟩:=bR e m n o p (S G M P) i;have⟨j,ad,t,aR,aT⟩:=ec aQ r;rw[X]at aT;have k:=q U t;have u:=y.bw k;have aU:=Q (λaW aX aY a0 hp a2=>qF m n o p (S G M P) i aX c aY aW ⟨_,_,_,J⟩ (u.bw a0) hp a2);obtain⟨bl,bm,bn,rfl,_,_,_⟩:=u.open;obtain⟨bo,d,br,rfl,Da,bs,ae⟩:=(z.bw k).open;have a4:=Q (Y.bw t);have a5:=Q (λf=>cx.of (a1 (D f).1 av));have ag:=k.size;have a6:=Q k;change H _ at R ad Da ae;clear U t X aR Y y u z D;go_in;go_upto_region 1 with(fail)
 rw[R,ad];generalize (e:N)+1=bu at*;go_wp2_with fail;go_loopw [5,7,11] (λa8 a9 f wr=>∃(a:N) (l ah:V),l=a8/\ah=a9/\f=a/\a<=d/\ay wr j l ((b.map (cl c)).take a)/\B j j wr) (λ_ _ f _=>d-(aw f).toNat);exact⟨0,_,_,J,J,J,a3 _,ay.nil _ _,aS _ _⟩;obtain⟨a,l,ah,rfl,rfl,rfl,bv,v,g⟩:=hrel;obtain⟨ak,rfl⟩:=K wr;by_cases Ch:a<d
 ·obtain⟨bx,bz,al,am,an,rfl,ar,hp⟩:=ae a Ch;have ar:=s g ar;have bA:=aJ a;have bB:(a:I)<d:=by omega
  have ax:=Q (PV c b a c1);have ba:H (((b.map (cl c)).take a).length+1<=17592186044416):=Q oZ;have⟨bb,aA,w,bc,bC⟩:=c8 ak (S al am an);have h:=g.trans (w.mono g.size);have aD:=Q (aU.oo bb (S al am an) (aC b a) h (hp.bw h) (a5 a));have be:=Q (v.bw w);have⟨bD,bE,bF,bG,bH,bI⟩:=a4.bw h;have⟨bf,aE⟩:=K (cl c (aC b a));rw[<-aE]at aD ax;change H _ at aA;change H _ at h;clear bc w g hp aE v;go_upto_region 5 with fail;rw[aA];generalize ak=bJ at*;go_wp2_with fail;refine mU aD λbg aF=>?_;have aG:=Q (q h aF);go_wp2_with (at_builtin;refine hP J _ _ J bg j l ((b.map (cl c)).take a) bf J J (be.bw aF) ba.out aG.size ?_);intro bK bL aI bM bh;rw[<-ax]at aI;go_wp2;go_roundw;case rel=>exact⟨a+1,_,_,J,J,aK,O,aI,(aG.trans bh)⟩
  exact bY
 have bi:a=d:=O
 subst bi;have bk:H ((b.map (cl c)).take a=b.map (cl c)):=Q (cm oW);go_wp2;go_ret;exact⟨_,J,by rw[<-bk];exact v.mono ag,a6.trans (g.mono ag)⟩
def cR:ByteArray:=⟨#[112,108,97,110]⟩
def e1:ByteArray:=⟨#[100,97,121]⟩
def md:ByteArray:=⟨#[116,111,117,114]⟩
def fI(a:ag):bD:=md::a5 (L a:I)::a.flatMap λb=>[a5 b.1,a5 b.2]
def k5(a:ar):Zaa:=[e1,a5 (L a:I)]::a.map fI
def en(a:aV):Zaa:=[cR,a5 (L a:I)]::a.flatMap k5
def bm(a:Zaa):E UInt8:=a.flatMap λb=>(cB b).data.toList
def nj(a b:Zaa):bm (a++b)=bm a++bm b:=by simp[bm]
def rH(b:Zaa):Prop:=∀a∈b,a≠[]/\∀c∈a,d3 c=T
def PX(b:ag):fI b≠[]/\∀c∈fI b,d3 c=T:=by refine⟨by simp[fI],λc a=>?_⟩;unfold fI at a;rcases cK.1 a with rfl|a;decide;rcases cK.1 a with rfl|a;exact ni _;have⟨e,_,d⟩:=List.mem_flatMap.1 a;simp only[cK,List.not_mem_nil,or_false]at d;rcases d with rfl|rfl<;>exact ni _
def PY(d:aV):rH (en d):=by intro g b;unfold en at b;rcases cK.1 b with rfl|b;refine⟨D,λe a=>?_⟩;simp only[cK,List.not_mem_nil,or_false]at a;rcases a with rfl|rfl;decide;exact ni _;have⟨h,_,c⟩:=List.mem_flatMap.1 b;unfold k5 at c;rcases cK.1 c with rfl|c;refine⟨D,λe a=>?_⟩;simp only[cK,List.not_mem_nil,or_false]at a;rcases a with rfl|rfl;decide;exact ni _;obtain⟨f,_,rfl⟩:=List.mem_map.1 c;exact PX f
structure gX(a:W)(b c:N)(d yW:I):Prop where
 there:C a b=A (aa ac d)
 free:aH a b=F
 yW:C a ⟨c,3,Z⟩=A (aa ac yW)
 ne:b≠c
def gX.lt(d:gX w a b i j):a<w:=aR w _ d.there
def gX.qf(d:gX w a b i j):b<w:=aR w _ d.yW
def gX.kept{r:I}{row:Option N}(c:gX w a b i r)(e:w.grownBy x row)(g:A a≠row)(l:A b≠row):gX x a b i r:=⟨e.cell c.there g,(World.frozen?_of_block (a:=⟨a,0,Z⟩) (e.block a c.lt g)).trans c.free,e.cell c.yW l,c.ne⟩
def gX.step(c:gX w a b i j)(e:I)(k:N):gX ((aj w a e).drewN k) a b e j:=by refine⟨World.cell?_setCell_same _ _ _ c.there,(bs _ _ _ _).trans c.free,(cq _ _ _ _ ?_).trans c.yW,c.ne⟩;intro l;have:=cz Addr.block l;exact c.ne this
def yX(g h:I)(i:V)(d j e k l:I)(a:W):ap ab 103 #[ao #[g,h,i,d,j,e,k,l]] a λm f=>∃b c,m=aq (.func (.func 144) #[] #[aM (A ⟨b,0,Z⟩),aM (A ⟨c,0,Z⟩)])/\(a:N)<=b/\(a:N)<=c/\gX f b c e d/\B a a f:=by
 go_in;go_wp2;go_ret;refine⟨(a:N)+1,(a:N),J,O,O,?_,?_⟩;·refine⟨aE,aE,by simp[go_sem,World.cell?_alloc_past],O⟩
 exact((aS _ _).alloc (aL _) _).alloc D _
def yY(a:I)(b e:N)(c d:I)(f:W)(g:gX f b e c d):ap ab 144 #[a,aM (A b),aM (A e)] f λi h=>i=aq (aZ #[(aB (c+a)),(aB (aB (c+a)-d))])/\gX h b e (aB (aB (c+a)-d)) d/\f.grownBy h (A b):=by have j:=g;obtain⟨l,m,n,o⟩:=g;go_in;go_wp2_with fail;go_quiet (fail);go_wp2;go_ret2;exact⟨J,j.step _ nq,⟨J,J,J,qq,λp _ k=>Below.heap_setCell _ _ _ _ (X k)⟩⟩
def dP(a:I):Bool:=decide (0<=a)&&decide (a<=2147483648)
def fi(b c:I)(d:ad)(a:N):I:=b+(d.take a).sum-c*a
def gY(c d:I)(a:ad)(b:N):I:=fi c d a b+ae a b
def iJ(b a e:I)(c:ad)(d:N):Bool:=decide (gY b a c d<=e)&&decide (a<=gY b a c d)
def iK(a b:I)(c:ad)(d:N):ad:=(List.range d).map λe=>fi a b c (e+1)
def cS(b c d:I)(a:ad):I×ad:=if a.all dP=T then(if(List.range (L a)).all (iJ b c d a)=T then(0,iK b c a (L a))else(8,[]))else(1,[])
def PZ(a:ad)(b:N)(c:b<L a):(a.take (b+1)).sum=(a.take b).sum+ae a b:=by rw[kE a b c,List.sum_append];simp
def yZ(d c:I)(a:ad)(b:N)(e:b<L a):fi d c a (b+1)=gY d c a b-c:=by unfold gY fi;rw[PZ a b e];simp[Int.mul_add];omega
structure me(a b d:I)(c:ad):Prop where
 jk:0<=a
 jl:a<=4294967296
 fJ:0<=b
 jm:b<=4294967296
 len:L c<=1048576
def P0(a:ad)(c:a.all dP=T)(b:N):0<=(a.take b).sum/\(a.take b).sum<=2147483648*L a:=by
 induction a generalizing b with
  |nil=>simp
  |cons f a d=>
   simp only[List.all_cons,cr]at c;have e:=c.1;simp only[dP,cr,ez]at e;cases b with
    |zero=>simp;omega
    |succ b=>have:=d c.2 b;simp only[List.take_succ_cons,d5,dx];omega
def y0{a:ad}(b:a.all dP=T){JN:N}(c:JN<L a):0<=ae a JN/\ae a JN<=2147483648:=by have:=d4.1 b _ (hO c);simpa[dP]using this
def P1(a:I)(b:N)(c:0<=a)(d:a<=4294967296)(e:b<=1048577):0<=a*b/\a*b<=4294967296*1048577:=⟨Int.mul_nonneg c O,Int.mul_le_mul d O O O⟩
def P3{a:ad}(b:me i j k a)(f:a.all dP=T)(c:N)(h:c<=L a): -9007199254740992<=fi i j a c/\fi i j a c<=9007199254740992:=by have l:=P0 a f c;have m:=P1 j c b.fJ b.jm (Y b.len);have n:=b.len;have o:=b.jk;have p:=b.jl;unfold fi;omega
def y1{a:ad}(e:me i j k a)(f:a.all dP=T)(b:N)(g:b<L a):aB (fi i j a b+ae a b)=gY i j a b/\aB (gY i j a b-j)=fi i j a (b+1):=by have l:=P3 e f b O;have m:=y0 f g;have n:=e.fJ;have o:=e.jm;rw[yZ _ _ _ _ g];unfold aB gY;omega
def y2{a:ad}{JN:N}(b:JN<L a)(c:dP (ae a JN)=F):cS i j k a=(1,[]):=by unfold cS;rw[ak];intro d;have:=d4.1 d _ (hO b);rw[c]at this;cases this
def y3{a:ad}{JN:N}(b:a.all dP=T)(c:JN<L a)(d:iJ i j k a JN=F):cS i j k a=(8,[]):=by unfold cS;rw[am b,ak];intro h;have:=d4.1 h JN (X c);rw[d]at this;cases this
def P4{Kd J' Ke:I}{a:ad}(c:a.all dP=T)(d:∀b,b<L a->iJ Kd J' Ke a b=T):cS Kd J' Ke a=(0,iK Kd J' a (L a)):=by unfold cS;rw[am c,am];rw[d4];intro b e;exact d b (X e)
def y4{b:ad}(d:∀a,a<L b->dP (ae b a)=T):b.all dP=T:=by rw[d4];intro f e;obtain⟨a,c,rfl⟩:=gP e;have:=d a c;rwa [e9 c]at this
def P5(a b:I)(c:ad)(d:N):iK a b c (d+1)=iK a b c d++[fi a b c (d+1)]:=by unfold iK;rw[fu,ck];rfl
def y5(b c:I)(d:ad)(a:N):(iK b c d a).length=a:=by simp[iK]
def t5(X ag:I)(ah:V)(b f d ai l:I)(aN:V)(c:ad)(Kw:W)(aO:aX Kw aN c)(ak:me d b f c):ap ab 68 #[ao #[X,ag,ah,b,f,d,ai,l],aN] Kw λaP aQ=>∃m,aP=aq (aZ #[m,aa ac (cS d b f c).1])/\ay aQ Kw m (cS d b f c).2/\B Kw Kw aQ:=by
 have⟨x,aS,j,be,K⟩:=da Kw X ag ah b f d ai l;have aT:=aO.bw j;obtain⟨bf,h,bD,rfl,Da,bg,y⟩:=aT.open;have bE:h<=1048576:=Y ak.len
 have bh:H (∀a,a<h->∃n r,bf=A ⟨n,r,Z⟩/\n<(x:N)/\C x ⟨n,r+a,Z⟩=A (aa ac (ae c a))):=λa t=>by have⟨n,r,aU,al⟩:=y a t;exact⟨n,r,aU,aR x _ al,al⟩
 change H _ at Da ak aS be;clear bg aO aT;go_in;go_wp2_with fail;rw[aS];go_loop [16] (λo=>∃a:N,a<=h/\o=(a:I)/\∀i,i<a->dP (ae c i)=T) (λo=>h-(aw o).toNat);case atStart=>exact⟨0,a3 _,J,λi p=>O⟩
 obtain⟨a,t,rfl,am⟩:=hrel;change H _ at am;by_cases Ch:a<h
 ·obtain⟨n,r,rfl,M⟩:=y a Ch;have bF:=Q y;clear y;by_cases aU:ae c a<0;·have k:H (cS d b f c=(1,[])):=y2 (JN:=a) c1 (by simp[dP];omega);go_wp2;go_ret2;rw[k];exact⟨_,J,ay.nil _ _,j⟩
  by_cases al:2147483648<ae c a;·have k:H (cS d b f c=(1,[])):=y2 (JN:=a) c1 (by simp[dP];omega);go_wp2;go_ret2;rw[k];exact⟨_,J,ay.nil _ _,j⟩
  go_wp2_with fail;go_round;case rel=>exact⟨a+1,O,aK,λi p=>by rcases Nat.lt_succ_iff_lt_or_eq.1 p with an|rfl;exact am i an;simp[dP];omega⟩
  simp[aw];omega
 have s:a=h:=O
 have z:c.all dP=T:=y4 (by rw[Da,<-s];exact am);change H _ at z;clear s;have bi:=K;have aV:=K.lt;obtain⟨bl,bm,bn,bo,bq,br,bs,bt⟩:=bi;go_wp2_with fail;refine(yX X ag ah b f d ai l _).mono ?_;rintro aP P ⟨Df,aW,rfl,bG,bH,R,aY⟩;have bI:=R.lt;have bJ:=R.qf;have bu:8*h<=281474976710656:=O
 have⟨bv,a0,a1,a2,IC⟩:=ew hR;go_wp2_with (at_make;refine wpList_make_own _ J _ _ 22 J P 3 bv (0:I) 1 underlying22 a0 a1 a2 _ _ _ h J J J jJ eQ (aL _) ?_);intro bx a4 U;have u:ay bx P (S (A (P:N)) 0 h) (iK d b c 0):=a4;have ar:=R.kept U D D;have a5:=aY.grown U aY.size D;have a6:=U.size;rw[show d=fi d b c 0 by simp[fi]]at ar;clear a0 a1 a2 IC R U a4 bu y bl bm bn bo bq br bs bt;generalize (P:N)=av at*;go_wp2;go_loopw [9,34] (λbz o wr=>∃(a:N) (m:V),a<=h/\m=bz/\o=(a:I)/\ay wr av m (iK d b c a)/\gX wr Df aW (fi d b c a) b/\B x x wr/\av<=wr.heap.size/\∀i,i<a->iJ d b f c i=T) (λ_ o _=>h-(aw o).toNat);exact⟨0,_,a3 _,J,J,u,ar,a5,a6,λi p=>O⟩;clear t u ar a5 a6;obtain⟨g,m,t,rfl,rfl,u,l,q,bK,ax⟩:=hrel;change H _ at ax;by_cases Ch:g<h
 ·obtain⟨n,r,rfl,bA,a8⟩:=bh.out g Ch;have M:=bk q bA a8;have v:=bk q aV K.c3;have w:=bk q aV K.c4;have aA:=yY (ae c g) Df aW (fi d b c g) b wr l;have⟨a9,ba⟩:=y1 ak z g c1;rw[a9,ba]at aA;have aC:=Q aA;have bL:=l.lt;clear aA a9 ba a8 l;by_cases bM:f<gY d b c g;·have k:H (cS d b f c=(8,[])):=y3 (JN:=g) z c1 (by simp[iJ];omega);go_wp2_with fail;refine mU aC λaD ⟨aE,e⟩=>?_;have aF:=kC e v lx;have aG:=kC e w lx;have G:=q.grown e O (λa t=>dX);clear v w M e;go_wp2;go_ret2;rw[k];exact⟨_,J,ay.nil _ _,j.trans (G.mono j.size)⟩
  by_cases bN:gY d b c g<b;·have k:H (cS d b f c=(8,[])):=y3 (JN:=g) z c1 (by simp[iJ];omega);go_wp2_with fail;refine mU aC λaD ⟨aE,e⟩=>?_;have aF:=kC e v lx;have aG:=kC e w lx;have G:=q.grown e O (λa t=>dX);clear v w M e;go_wp2;go_ret2;rw[k];exact⟨_,J,ay.nil _ _,j.trans (G.mono j.size)⟩
  go_wp2_with fail;refine mU aC λaD ⟨aE,e⟩=>?_;have aF:=kC e v lx;have aG:=kC e w lx;have G:=q.grown e O (λa t=>dX);have aI:=u.kept e (u.not O);have bO:=e.size;clear v w M e;go_wp2_with (at_builtin;refine hP J _ _ J aD av m (iK d b c g) (fi d b c (g+1)) J J aI (by rw[y5];omega) O ?_);intro bP bR bb bc aJ;rw[<-P5]at bb;have bB:=aE.kept bc (aI.not' O) (aI.not' O);have bC:=G.trans (aJ.mono O);have bS:=aJ.size;clear aF aG bc aJ;go_wp2;go_roundw;case rel=>exact⟨g+1,_,O,J,aK,bb,bB,bC,O,λi p=>by rcases Nat.lt_succ_iff_lt_or_eq.1 p with an|rfl;exact ax i an;simp[iJ];omega⟩
  simp[aw];omega
 have s:g=h:=O
 have k:H (cS d b f c=(0,iK d b c g)):=by have:=P4 (Kd:=d) (J':=b) (Ke:=f) z (λi p=>ax i (by rw[s,<-Da];exact p));rw[Da,<-s]at this;exact this
 clear s;go_wp2;go_ret2;rw[k];exact⟨_,J,u.mono O,j.trans (q.mono j.size)⟩
def t6(b c d:I)(a:ad):cS b c d a=(1,[])/\a.all dP=F\/cS b c d a=(8,[])/\a.all dP=T\/(cS b c d a=(0,iK b c a (L a))/\a.all dP=T/\∀f,f<L a->iJ b c d a f=T):=by unfold cS;by_cases e:a.all dP=T;rw[am e];by_cases g:(List.range (L a)).all (iJ b c d a)=T;rw[am g];exact .inr (.inr ⟨J,e,λf h=>d4.1 g f (X h)⟩);rw[ak g];exact .inr (.inl ⟨J,e⟩);rw[ak e];exact .inl ⟨J,X e⟩
def P6{b:ad}(f:iJ i j k b a=T):gY i j b a<=k/\j<=gY i j b a:=by simpa[iJ]using f
def k6(c d e:I)(a:ad)(b:N):Bool:=decide (ae a b<=0)||decide (gY c d a b=e)
def eF(b c d e:I)(a:ad):I:=if(cS b c d a).1=0 then(if e=1 then(if(List.range (L a)).all (k6 b c d a)=T then 0 else 9)else 0)else(cS b c d a).1
def P7{a:ad}(e:(cS i j k a).1≠0):eF i j k l a=(cS i j k a).1:=by unfold eF;rw[ak e]
def P8{a:ad}(b:(cS i j k a).1=0)(f:l≠1):eF i j k l a=0:=by unfold eF;rw[am b,ak f]
def P9{a:ad}{JN:N}(e:(cS i j k a).1=0)(f:l=1)(h:JN<L a)(m:k6 i j k a JN=F):eF i j k l a=9:=by unfold eF;rw[am e,am f,ak];intro n;have:=d4.1 n JN (X h);rw[m]at this;cases this
def P'{a:ad}(f:(cS i j k a).1=0)(g:l=1)(m:∀e,e<L a->k6 i j k a e=T):eF i j k l a=0:=by unfold eF;rw[am f,am g,am];rw[d4];intro n o;exact m n (X o)
def t7(p q:I)(u:V)(a d c e g:I)(ax:V)(b:ad)(Kw:W)(ay:aX Kw ax b)(y:me c a d b):ap ab 143 #[ao #[p,q,u,a,d,c,e,g],ax] Kw λaA aP=>aA=aq (eF c a d e b)/\B Kw Kw aP:=by
 have⟨aQ,aC,z,aS,aD⟩:=da Kw p q u a d c e g;have D:=ay.bw z;obtain⟨aT,v,a1,rfl,Da,aU,ak⟩:=D.open;have a2:v<=1048576:=Y y.len
 have a4:=aD.lt;change H _ at Da y aC;clear aU ay aS ak;obtain⟨K,M,P,R,w,U,ag,ah⟩:=aD;go_in;go_wp2_with fail;rw[aC];refine mE (t5 p q u a d c e g _ b aQ D y) λj a5 ⟨_,ai⟩=>?_;have aE:=D.bw ai;have aF:bZ j Kw p q u a d c e g:=bZ.bw ⟨K,M,P,R,w,U,ag,ah⟩ ai;have k:=z.trans (ai.mono z.size);have a6:=aF.lt;clear K M P R w U ag ah ai z D;obtain⟨K,M,P,R,w,U,ag,ah⟩:=aF;have ak:H (∀JN,JN<v->∃l x,aT=A ⟨l,x,Z⟩/\l<(j:N)/\C j ⟨l,x+JN,Z⟩=A (aa ac (ae b JN))):=by have⟨a8,a9,ba,aG,bb,_,EJ⟩:=aE.open;simp only[bf]at aG;obtain⟨rfl,rfl,rfl⟩:=aG;intro JN t;have⟨l,x,f,m⟩:=EJ JN t;exact⟨l,x,f,aR j _ m,m⟩
 clear aE;by_cases i:(cS c a d b).1=0;rotate_left
 ·have al:H (eF c a d e b=(cS c a d b).1):=P7 i;generalize(cS c a d b).1=aV at*;have bc:(aV !=0)=T:=by simpa using i
  go_wp2;go_ret;rw[al];exact⟨J,k⟩
 rw[i];change H _ at i;by_cases o:e=1;rotate_left
 ·have al:H (eF c a d e b=0):=P8 i o;have aW:(e !=1)=T:=by simpa using o
  go_wp2;go_ret;rw[al];exact⟨J,k⟩
 have aW:(e !=1)=F:=X o
 change H _ at o;obtain⟨aI,aY⟩:b.all dP=T/\∀JN,JN<L b->iJ c a d b JN=T:=by rcases t6 c a d b with⟨h,_⟩|⟨h,_⟩|⟨_,f,m⟩;have:=i.oo;rw[h]at this;cases this;have:=i.oo;rw[h]at this;cases this;exact⟨f,m⟩
 change H _ at aI aY;go_wp2_with fail;refine(yX p q u a d c e g _).mono ?_;rintro aA be ⟨Df,aJ,rfl,bg,bh,am,an⟩;rw[show c=fi c a b 0 by simp[fi]]at am;have F':=s an w;clear K M P R w U ag ah;go_wp2;go_loopw [28] (λar wr=>∃JN:N,JN<=v/\ar=(JN:I)/\gX wr Df aJ (fi c a b JN) a/\B j j wr/\C wr ⟨Kw,4,Z⟩=A (aa ac d)/\∀JL,JL<JN->k6 c a d b JL=T) (λar _=>v-(aw ar).toNat);exact⟨0,a3 _,J,am,an,F',λJL Cs=>O⟩;clear F' am an;obtain⟨JN,t,rfl,g,n,F',Gb⟩:=hrel;change H _ at Gb;by_cases Ch:JN<v
 ·obtain⟨l,x,rfl,a0,aL⟩:=ak.out JN Ch;have EJ:=bk n a0 aL;have av:=yY (ae b JN) Df aJ (fi c a b JN) a wr g;have⟨aN,aO⟩:=y1 y aI JN c1;rw[aN,aO]at av;have Hs:=Q av;have bi:=g.lt;clear av aN aO aL g;by_cases bl:0<ae b JN
  ·by_cases f:gY c a b JN=d
   ·have G:H (k6 c a d b JN=T):=by show _=_;simp[k6,f]
    have m:(gY c a b JN !=d)=F:=X f
    clear f;exact vX
   have G:H (eF c a d e b=9):=P9 i o (JN:=JN) c1 (by simp[k6,f];omega);have m:(gY c a b JN !=d)=T:=X f
   clear f;go_wp2_with fail;refine mU Hs λF7 ⟨F8,CW⟩=>?_;have F9:=kC CW F' lx;have Ga:=n.grown CW n.size (λJN t=>dX);clear F' EJ CW;go_wp2;go_ret;rw[G];exact⟨J,k.trans (Ga.mono k.size)⟩
  have G:H (k6 c a d b JN=T):=by show _=_;simp[k6];omega
  exact vX
 have G:H (eF c a d e b=0):=P' i o (λJL Cs=>Gb JL (by rw[Da]at Cs;omega));go_wp2;go_ret;rw[G];exact⟨J,k.trans (n.mono k.size)⟩
section
def dt(abB abC a abE:I):I:=if abB-a<1\/abE<0 then 0 else if abB-a<=abE then abB-a else if abC=1 then 0 else abE
def Qa(abB abC a abE:I)(b:a<=abB):0<=dt abB abC a abE/\dt abB abC a abE<=abB-a:=by unfold dt;split;omega;split;omega;split<;>omega
def fj(abA:Bool)(abB abC abD abE a:I):I:=if abA=T/\abD<=a then 0 else dt abB abC (max a 0) abE
def nk(abA:Bool)(abB abC abD abE abF:I):N->E I×I
 |0=>([],abF)
 |a+1=>((nk abA abB abC abD abE abF a).1++[fj abA abB abC abD abE (nk abA abB abC abD abE abF a).2],(nk abA abB abC abD abE abF a).2+fj abA abB abC abD abE (nk abA abB abC abD abE abF a).2-abD)
def c5(abA:Bool)(abB abC abD abE abF:I)(a:N):ad:=(nk abA abB abC abD abE abF a).1
def h9(abA:Bool)(abB abC abD abE abF:I)(a:N):I:=(nk abA abB abC abD abE abF a).2
section
variable{abA:Bool}{abB abC abD abE abF:I}
def pM(a:N):c5 abA abB abC abD abE abF (a+1)=c5 abA abB abC abD abE abF a++[fj abA abB abC abD abE (h9 abA abB abC abD abE abF a)]:=J
def t8(a:N):h9 abA abB abC abD abE abF (a+1)=h9 abA abB abC abD abE abF a+fj abA abB abC abD abE (h9 abA abB abC abD abE abF a)-abD:=J
def lA(a:N):(c5 abA abB abC abD abE abF a).length=a:=by
 induction a with
  |zero=>rfl
  |succ a b=>rw[pM,bL,b];rfl
def Qb(a b:N)(e:a<=b):(c5 abA abB abC abD abE abF b).take a=c5 abA abB abC abD abE abF a:=by
 induction b with
  |zero=>rw[show a=0 by omega];rfl
  |succ b c=>by_cases d:a=b+1;subst d;rw[cm (by rw[lA];exact aL _)];rw[pM,List.take_append_of_le_length (by rw[lA];omega)];exact c O
def Qc(a b:N)(c:a<b):ae (c5 abA abB abC abD abE abF b) a=fj abA abB abC abD abE (h9 abA abB abC abD abE abF a):=by rw[<-wH (J0:=a+1) O,Qb (a+1) b O,pM];have:=KS (KC:=c5 abA abB abC abD abE abF a) (KD:=fj abA abB abC abD abE (h9 abA abB abC abD abE abF a));rwa [lA]at this
def rI(a:I)(c:0<=abB):0<=fj abA abB abC abD abE a/\fj abA abB abC abD abE a<=abB:=by unfold fj;split;omega;by_cases b:max a 0<=abB;have:=Qa abB abC (max a 0) abE b;omega;unfold dt;rw[am O];omega
def y6(b:0<=abB)(c:0<=abD)(a:N):abF-abD*a<=h9 abA abB abC abD abE abF a/\h9 abA abB abC abD abE abF a<=abF+abB*a:=by
 induction a with
  |zero=>simp[h9,nk]
  |succ a d=>have:=rI (abA:=abA) (abC:=abC) (abD:=abD) (abE:=abE) (h9 abA abB abC abD abE abF a) b;rw[t8];rw[show((a+1:N):I)=(a:I)+1 by omega,Int.mul_add,Int.mul_add];omega
def Qd(d:0<=abB)(e:abB<=2147483648)(a:N):(c5 abA abB abC abD abE abF a).all dP=T:=by apply y4;intro b c;rw[lA]at c;rw[Qc b a c];have:=rI (abA:=abA) (abC:=abC) (abD:=abD) (abE:=abE) (h9 abA abB abC abD abE abF b) d;simp[dP];omega
end
end
def cI(d e a:I)(b:N)(c:I):I:=if 0<=c then e-a*(b-c)else d-a*b
def gy(a b:I)(c:N):I:=max (a*c-b) 0
def ou(b a:I):I:=(b+a-1)/a
def rJ(b c d:I)(a:N)(e:I):I:=if gy b c a=0 then 0 else if min e d<1 then a else min (ou (gy b c a) (min e d)) a
def du(a:ag)(b:N):a4:=a.getD b (0,0)
def Qe{b:ag}(d:a<L b):du b a=b[a]:=by simp[du,d]
def t9(a:ag)(b:N)(c:b<L a):a.take (b+1)=a.take b++[du a b]:=by rw[Qe c,eR c]
def gZ(f:W)(h:V)(a:ag):Prop:=∃(g:bz) (c:N),h=S g (L a) c/\L a<=c/\c<=9223372036854775807/\∀b,b<L a->∃d e,g=A ⟨d,e,Z⟩/\C f ⟨d,e+b*2,Z⟩=A (aa ac (du a b).1)/\C f ⟨d,e+b*2+1,Z⟩=A (aa ac (du a b).2)
def gZ.nil(a:W):gZ a (S Z 0 0) []:=⟨Z,0,J,D,D,λc b=>absurd b D⟩
def gZ.bw{Kx:W}{a:ag}(d:gZ w u a)(c:B w w Kx):gZ Kx u a:=by obtain⟨f,g,h,i,j,k⟩:=d;refine⟨f,g,h,i,j,λl m=>?_⟩;have⟨n,o,ha,p,q⟩:=k l m;exact⟨n,o,ha,s c p,s c q⟩
def gZ.open{KC:ag}(h:gZ w u KC):∃(Jq:bz)(b Ju:N),u=S Jq b Ju/\L KC=b/\b<=9223372036854775807/\∀a,a<b->∃c d,Jq=A ⟨c,d,Z⟩/\C w ⟨c,d+a*2,Z⟩=A (aa ac (du KC a).1)/\C w ⟨c,d+a*2+1,Z⟩=A (aa ac (du KC a).2):=sl
def jn(b:ag):aP:=b.flatMap λa=>[a.1,a.2]
def Qf(a b:ag):jn (a++b)=jn a++jn b:=by simp[jn]
def Qg(b:ag)(a:N)(d:a<L b):(jn b)[a*2]? =A (aa ac (du b a).1)/\(jn b)[a*2+1]? =A (aa ac (du b a).2):=by
 induction b generalizing a with
  |nil=>simp at d
  |cons c b f=>
   have e:jn (c::b)=aa ac c.1::aa ac c.2::jn b:=J;cases a with
    |zero=>rw[e];exact⟨J,J⟩
    |succ a=>have:=f a (X d);rw[e,show(a+1)*2=a*2+1+1 by omega];simpa[du]using this
def dv(b:W)(c:N)(d:V)(a:ag):Prop:=b.ownsRow c 224 2 d (L a) (jn a)
def dv.nil(a:W)(b:N):dv a b (S Z 0 0) []:=World.ownsRow_nil _ _ _ _
def dv.lt{c:ag}(d:dv w a u c):∀b,af u=A b->a<=b/\b<(w:N):=bI d
def dv.mono{B':N}{c:ag}(d:dv w a u c)(n:B'<=a):dv w B' u c:=by obtain⟨h,b⟩:=d;refine⟨h,?_⟩;rcases b with b|⟨i,j,k,l,o,m⟩;exact .inl b;exact .inr ⟨i,j,k,l,O,m⟩
def dv.bw{Kx:W}{Kl:V}{b:ag}(d:dv w a Kl b)(f:B w w Kx):dv Kx a Kl b:=gd (row:=Z) d (dS f) mM
def dv.sk{d:ag}(g:dv w a u d):gZ w u d:=by
 have i:=λb=>World.ownsRow.cells g (g:=b);obtain⟨e,c⟩:=g;rcases c with⟨rfl,k⟩|⟨b,l,t,rfl,_,_,m,n,_⟩;rw[dn.1 k];exact gZ.nil w;refine⟨A ⟨b,0,Z⟩,l,J,m,n,λo p=>⟨b,0,J,?_⟩⟩;have⟨q,r⟩:=Qg d o p;have e:=i b J _ _ q;have c:=i b J _ _ r;have ha:∀f,(⟨b,0,Z⟩:bQ).add f=⟨b,0+f,Z⟩:=λf=>hM
 rw[ha]at e c;exact⟨e,by rw[Nat.add_assoc];exact c⟩
def adV:(ab.info? 224).map (λa=>(a.zero,a.size,a.bytes))=A (A (ao #[(0:I),(0:I)]),2,16):=aT
def Qh(c:W)(d e:V)(f:bj):∀a b,([d,e]:aP)[a]? =A b->(c.alloc (az #[d,e] f)).cell? ((⟨c,0,Z⟩:bQ).add a)=A b:=by
 intro a b Cs;match a,Cs with
  |0,Cs=>exact sQ
  |1,Cs=>exact sQ
def t'{m:Array bd}{n:E bd}{e:bd}{f:a'}{o:bJ}(r:e.guard=Z)(i j:Operand)(s:e.op= .call {callee:=.builtin .append,args:=#[i,j],argTypes:=#[178,178]})(a:W)(b:N)(g:V)(d:ag)(k l:I)(t:f.eval i=g)(u:f.eval j=S (A (a:N)) 1 1)(p:dv a b g d)(U:L d+1<=8796093022208)(v:b<=(a:N))(w:∀h c,dv c b h (d++[(k,l)])->a.grownBy c (af g)->B b a c->wpList ab m o n (f.put e.dst h) c):wpList ab m o (e::n) f (a.alloc (az #[k,l] 224)):=by have⟨x,y,z,D,G⟩:=ew adV;refine wpList_append_own _ r i j 178 s b 224 x (ao #[(0:I),(0:I)]) 2 16 underlying178 y z D G J av g (L d) (jn d) t (World.ownsRow.alloc p _) ⟨a,0,Z⟩ 1 1 [k,l] u J (Qh a _ _ _) kA eQ O aF ?_;intro h c H K _;have q:=c2 (World.grownBy_alloc a _ _) K;refine w h c (by simpa[dv,Qf,jn]using H) q ?_;exact(aS b a).grown q v (λM P=>(p.lt M P).1)
def c6(b:ad):N->ag
 |0=>[]
 |a+1=>if 0<ae b a then c6 b a++[((a:I),ae b a)]else c6 b a
def g0(a:ad):ag:=c6 a (L a)
def ua(b:ad)(a:N):(c6 b a).length<=a:=by
 induction a with
  |zero=>simp[c6]
  |succ a c=>unfold c6;split;simp;omega;omega
def y7(j:V)(b:ad)(c:W)(p:aX c j b)(x:L b<=1048576):ap ab 225 #[j] c λq k=>∃d,q=aq d/\dv k c d (g0 b)/\B c c k:=by
 obtain⟨y,g,z,rfl,l,D,m⟩:=p.open;have G:g<=1048576:=O
 change H _ at l m;go_in;go_wp2;go_loopw [3,8] (λr h wr=>∃(a:N) (d:V),a<=g/\d=r/\h=a/\dv wr c d (c6 b a)/\B c c wr) (λ_ h _=>g-(aw h).toNat);exact⟨0,_,a3 _,J,J,dv.nil _ _,aS _ _⟩;obtain⟨a,d,K,rfl,rfl,i,e⟩:=hrel;by_cases t:a<g
 ·obtain⟨M,P,rfl,u⟩:=m a t;have Q:=s e u;by_cases n:0<ae b a
  ·have f:H (c6 b (a+1)=c6 b a++[((a:I),ae b a)]):=by show _=_;rw[c6,am n]
   go_wp2_with (at_builtin;refine t' J _ _ J wr c d (c6 b a) a (ae b a) J J i (Y (ua b a)) e.size ?_);intro R U o X v;rw[<-f]at o;have w:=e.trans v;go_wp2;go_roundw;case rel=>exact⟨a+1,_,O,J,aK,o,w⟩
   simp[aw];omega
  have f:H (c6 b (a+1)=c6 b a):=by show _=_;rw[c6,ak n]
  go_wp2;go_roundw;case rel=>exact⟨a+1,_,O,J,aK,by rw[f];exact i,e⟩
  simp[aw];omega
 have f:H (g0 b=c6 b a):=by show _=_;unfold g0;rw[l];congr 1;omega
 go_wp2;go_ret;rw[f];exact⟨_,J,i,e⟩
def h'(b:ad)(a:a4):ad:=if 0<=a.1/\a.1<L b then b.set a.1.toNat (f2 (ae b a.1.toNat) a.2)else b
def mf(a:ag)(b:N)(c:N):ad:=(a.take c).foldl h' (List.replicate b 0)
def mg(a:ag)(b:N):ad:=a.foldl h' (List.replicate b 0)
def WH(a:ag)(c b:N)(d:b<L a):mf a c (b+1)=h' (mf a c b) (du a b):=by unfold mf;rw[t9 a b d,List.foldl_append];rfl
def Qi(a:ad)(b:a4):(h' a b).length=L a:=by unfold h';split<;>simp
def Qj(a:ag)(b:ad):(a.foldl h' b).length=L b:=by
 induction a generalizing b with
  |nil=>rfl
  |cons d a c=>rw[List.foldl_cons,c,Qi]
def Qk(b:ag)(a c:N):(mf b a c).length=a:=by unfold mf;rw[Qj];simp
def y8(b:ad)(d:a4)(c:∀a∈b,bB a=T):∀a∈h' b d,bB a=T:=by unfold h';split;intro a e;rcases List.mem_or_eq_of_mem_set e with f|rfl;exact c a f;exact Ph _ _;exact c
def WI(e:ag)(g f:N):∀a∈mf e g f,bB a=T:=by
 unfold mf;generalize e.take f=b;have:∀(b:ag) (c:ad),(∀a∈c,bB a=T)->∀a∈b.foldl h' c,bB a=T:=by
  intro b;induction b with
   |nil=>exact λc d=>d
   |cons h b i=>exact λc d=>i _ (y8 c h d)
 refine this b _ ?_;intro a j;rw[List.eq_of_mem_replicate j];decide
def Ql(b:W)(c d a:N)(h:b.ownsRow c 3 1 (S (A d) a a) a (madeCells #[aa ac 0] a).toList):ay b c (S (A d) a a) (List.replicate a 0):=vr
def Qm(b:bB i=T):f2 0 i=i:=by unfold f2;rw[Int.zero_add,am b]
def WJ(b:ad)(i:∀e∈b,0<=e/\bB e=T)(a:N)(n:a<=L b):mg (c6 b a) (L b)=b.take a++List.replicate (L b-a) 0:=by
 induction a with
  |zero=>simp[c6,mg]
  |succ a c=>
   have c:=c O;have j:=i _ (hO (KC:=b) (JN:=a) O);have IN:(b.take a++List.replicate (L b-a) 0).length=L b:=aF
   have f:ae (b.take a++List.replicate (L b-a) 0) a=0:=by
    unfold ae;rw[fU,i1 aF];have:a-(b.take a).length=0:=aF
    rw[this,List.getElem?_replicate];split<;>rfl
   have g:∀d:I,(b.take a++List.replicate (L b-a) 0).set a d=b.take a++[d]++List.replicate (L b-(a+1)) 0:=by
    intro d;rw[List.set_append_right _ _ aF];have:a-(b.take a).length=0:=aF
    rw[this,show (L b)-a=(L b-(a+1))+1 by omega,List.replicate_succ];simp
   rw[c6,kE b a O];split;rename_i k;unfold mg at c⊢;rw[List.foldl_append,c];simp only[List.foldl_cons,List.foldl_nil,h'];rw[am oY,cW,f,Qm j.2,g];rename_i k;rw[c];have l:ae b a=0:=O
   have:=g 0;rw[l,<-this];apply List.ext_getElem;simp;intro p q r;rw[List.getElem_set];split;rename_i m;subst m;have h:=f;rw[e9 oY]at h;exact h;rfl
def Qn(d:ad)(f:d.all dP=T)(a:N)(g:a<=L d):∀e∈c6 d a,bB e.2=T:=by
 induction a with
  |zero=>simp[c6]
  |succ a b=>unfold c6;have b:=b O;have:=y0 f (JN:=a) O;split;intro e hp;rcases eh.1 hp with c|c;exact b e c;simp at c;subst c;exact ek.2 (by simp only[];omega);exact b
def ke(a b:I):I×Bool:=if(!(decide (aB (a+b)<a)==decide (b<0)))=T then(0,F)else(aB (a+b),T)
def hr(b a:I):I:=if(ke b a).2 then(ke b a).1 else if a<0 then-9223372036854775808 else 9223372036854775807
def Qo(a b:I)(e:W):ap ab 121 #[a,b] e λg h=>g=aq (aZ #[aa ac (ke a b).1,au (ke a b).2])/\e=h:=by
 have⟨f,c⟩:=K ((!(decide (aB (a+b)<a)==decide (b<0))));have d:ke a b=if f=T then(0,F)else(aB (a+b),T):=by rw[c];rfl
 have i:=c.symm;change H _ at d;clear c;cases f with
  |true=>go_in;go_wp2;go_ret2;rw[d];exact⟨J,J⟩
  |false=>go_in;go_wp2;go_ret2;rw[d];exact⟨J,J⟩
def ub(b a:I)(f:W):ap ab 90 #[b,a] f λg h=>g=aq (hr b a)/\f=h:=by
 have d:=Q (Qo b a f);have c:hr b a=if(ke b a).2 then(ke b a).1 else if a<0 then-9223372036854775808 else 9223372036854775807:=J;have⟨⟨l,i⟩,j⟩:=K (ke b a);rw[<-j]at d c;change H _ at c;cases i with
  |true=>go_in;go_wp2_with fail;refine mR d ?_;go_wp2;go_ret;rw[c];exact⟨J,J⟩
  |false=>
   by_cases e:a<0
   ·have k:decide (a<0)=T:=by simpa using e
    go_in;go_wp2_with fail;refine mR d ?_;go_wp2;go_ret;rw[c];simp[e]
   have k:decide (a<0)=F:=X e
   go_in;go_wp2_with fail;refine mR d ?_;go_wp2;go_ret;rw[c];simp[e]
def jo(b:ad)(a:a4):ad:=if 0<=a.1/\a.1<L b then b.set a.1.toNat (hr (ae b a.1.toNat) a.2)else b
def gz(a:ag)(b:N)(c:N):ad:=(a.take c).foldl jo (List.replicate b 0)
def nl(a:ag)(b:N):ad:=a.foldl jo (List.replicate b 0)
def Qp(a:ag)(c b:N)(d:b<L a):gz a c (b+1)=jo (gz a c b) (du a b):=by unfold gz;rw[t9 a b d,List.foldl_append];rfl
def Qq(a:ad)(b:a4):(jo a b).length=L a:=by unfold jo;split<;>simp
def y9(a:ag)(b:ad):(a.foldl jo b).length=L b:=by
 induction a generalizing b with
  |nil=>rfl
  |cons d a c=>rw[List.foldl_cons,c,Qq]
def Qr(b:ag)(a c:N):(gz b a c).length=a:=by unfold gz;rw[y9];simp
def y'(X:V)(b:ag)(l:I)(d:W)(Y:gZ d X b):ap ab 104 #[X,l] d λaN ad=>∃ah,aN=aq ah/\ay ad d ah (nl b (dm l 0 64).toNat)/\B d d ad:=by
 obtain⟨a4,r,a5,rfl,Da,a6,ai⟩:=Y.open;obtain⟨c,s⟩:∃c:N,dm l 0 64=(c:I):=⟨(dm l 0 64).toNat,qm⟩
 have a8:c<=64:=by unfold dm at s;omega
 change H _ at Da ai s;clear Y;obtain⟨aO,al,an,ar,IC⟩:=info_parts hR;go_in;go_wp2_with fail;refine mR (pB l 0 64 d) ?_;rw[s.oo];go_wp2_with (at_make;refine wpList_make_full _ rfl _ _ 22 rfl (d:Nat) 3 aO (.int .i64 0) 1 underlying22 al an ar _ _ _ _ c rfl rfl rfl rfl jJ eQ (Nat.le_refl _) ?_);intro aP av ax;have g:=Ql aP _ _ _ av;have aA:=(Below.refl (d:Nat) d).grown ax (Nat.le_refl _) D;clear av ax al an ar IC;generalize m:(d:Nat)=h at*;change H _ at m;rw[show List.replicate c 0=gz b c 0 from rfl]at g;go_wp2;go_loopw [13] (λy wr=>∃(a:Nat),a<=r/\y= .int .i64 a/\ay wr h (.slice (some ⟨h,0,none⟩) c c) (gz b c a)/\Below h d wr) (λy _=>r-(aw y).toNat);exact⟨0,Nat.zero_le _,rfl,g,aA⟩;clear g aA;obtain⟨a,a9,rfl,g,n⟩:=hrel;by_cases Ch:a<r
 ·obtain⟨ba,bb,rfl,z,aC⟩:=ai.oo a Ch;have G:=World.block_lt_of_cell? d _ z;have aQ:=bk n (by rw[<-m.oo];exact G) z;have bc:=bk n (by rw[<-m.oo];exact G) aC;have aR:h<=wr.heap.size:=by have:=n.size;rw[m.oo]at this;exact this
  have be:=aJ a;have bg:(a:I)<r:=O
  have K:=Q (Qp b c a c1);clear z aC G;obtain⟨f,M,j,t,o,u⟩:∃f,wr.alloc (az #[aa ac (du b a).1,aa ac (du b a).2] 224)=f/\B wr.heap.size wr f/\f.heap.size=wr.heap.size+1/\C f wr.heap.size=A (aa ac (du b a).1)/\C f ⟨wr.heap.size,1,Z⟩=A (aa ac (du b a).2):=⟨_,J,(aS _ _).alloc (aL _) _,D,aE,aE⟩
  have p:=g.bw j;have k:=n.trans (j.mono aR);have i:=Qr b c a;change H _ at M;by_cases q:0<=(du b a).1/\(du b a).1<c
  ·have⟨e,v⟩:=dw q.1;have aD:e<c:=by omega
   have⟨bh,bi,aF,_,bl,_,aG⟩:=p.out (by rw[i];omega);simp only[bf,a2,bN,bT]at aF;obtain⟨rfl,aU,aV⟩:=aF;clear aU aV;have⟨w,f1⟩:=aG e (by rw[i];exact aD);rw[bX]at w f1;have P:=p.set e (hr (ae (gz b c a) e) (du b a).2) (by rw[i];exact aD);rw[bX]at P;have aW:H (ay (aj f ⟨h,e,Z⟩ (hr (ae (gz b c a) e) (du b a).2)) h (S (A h) c c) (gz b c (a+1))):=by rw[K];unfold jo;rw[am (by rw[i];exact q),v];exact P
   have aX:=Q (ub (ae (gz b c a) e) (du b a).2 f.drew);rw[v]at o aQ;have aI:=Q M.oo;rw[v]at aI;have bm:=aJ e;have bn:(e:I)<c:=O
   generalize ae (gz b c a) e=bo at*;generalize(du b a).2=bq at*;have x:=Q (U w (U f1 (U o (U u (U t (U j k))))));clear P aG p g q v K w f1 o u t j k i;go_wp2_with fail;rw[aI];obtain⟨w,f1,o,u,t,j,k⟩:=x;refine wp_region_still_tail 12 aT aT ?_;simp only[List.take_succ_cons,List.take_zero,List.drop_succ_cons,List.drop_zero];change wpStill _ _ f.drew _ _ _;iterate 10 still_step
   still_call (aX.mono λ_ _ ⟨aY,a0⟩=>⟨aY,a0.symm⟩);still_step;refine wpStill_nil ?_;go_wp2;go_roundw;case rel=>refine⟨a+1,O,aK,aW,?_⟩;exact(k.drew).setCell (aL h) _
   simp[aw];omega
  have R:H (gz b c (a+1)=gz b c a):=by show _=_;rw[K];unfold jo;rw[ak (by rw[i];exact q)]
  have x:=Q (U p k);have a1:(du b a).1<0\/(0<=(du b a).1/\(c:I)<=(du b a).1):=O
  clear p k j t o u i g q;rcases a1 with a3|⟨a3,br⟩;all_goals
   go_wp2_with fail;rw[M];go_roundw;case rel=>exact⟨a+1,O,aK,by rw[R];exact x.1,x.2⟩
   simp[aw];omega
 have R:H (nl b c=gz b c a):=by show _=_;unfold nl gz;rw[List.take_of_length_le (by rw[Da.oo];omega)]
 go_wp2;go_ret;rw[s.oo,Int.toNat_natCast,R.oo,m.oo];exact⟨_,rfl,g,n⟩
def Qs(ha:bB i=T)(c:bB j=T):hr i j=f2 i j:=by simp only[bB,cr,ez]at ha c;unfold hr ke f2 bB aB;by_cases d:(i+j+9223372036854775808)%18446744073709551616-9223372036854775808<i<;>by_cases e:j<0<;>simp[d,e]<;>omega
def Qt(c:ag)(d:∀b∈c,bB b.2=T):∀a:ad,(∀e∈a,bB e=T)->c.foldl jo a=c.foldl h' a:=by
 induction c with
  |nil=>intro a _;rfl
  |cons b c f=>
   intro a ha;have g:jo a b=h' a b:=by unfold jo h';split;rename_i j;rw[Qs (ha _ (hO O)) (d b D)];rfl
   simp only[List.foldl_cons,g];exact f (λh i=>d h (by simp[i])) _ (y8 a b ha)
def Qu(d:V)(a:ag)(c:I)(b:W)(g:gZ b d a)(h:∀i∈a,bB i.2=T):ap ab 104 #[d,c] b λj e=>∃f,j=aq f/\ay e b f (mg a (dm c 0 64).toNat)/\B b b e:=by have k:=y' d a c b g;rwa [show nl a (dm c 0 64).toNat=mg a (dm c 0 64).toNat from Qt a h _ (λm l=>by rw[List.eq_of_mem_replicate l];rfl)]at k
def kf(a:ad):I:=a.foldl (λb c=>aB (b+c)) 0
def Qv(c:ad)(a:I)(f:∀d∈c,-a<=d/\d<=a)(e:I)(b:N)(ha: -(a*b)<=e/\e<=a*b)(h:a*(b+L c:N)<=9223372036854775807)(i:0<=a):c.foldl (λe d=>aB (e+d)) e=e+c.sum:=by
 induction c generalizing e b with
  |nil=>simp
  |cons d c j=>
   have o:=f d (fV ..);have g:a*((b+1+L c:N):I)=a*((b+(d::c).length:N):I):=by congr 2;simp;omega
   have k:a*((b+1:N):I)=a*b+a:=by rw[Int.natCast_succ,Int.mul_add,Int.mul_one]
   have l:a*((b+1:N):I)<=a*((b+1+L c:N):I):=Int.mul_le_mul_of_nonneg_left O i;rw[g]at l;simp only[List.foldl_cons,d5];rw[cV O O,j (λm n=>f m (fs _ n)) (e+d) (b+1) (by rw[k];omega) (by rw[g];exact h)];omega
def Qw(a:ad)(b:I)(d:∀c∈a,-b<=c/\c<=b)(e:b*(L a:N)<=9223372036854775807)(f:0<=b):kf a=a.sum:=by unfold kf;rw[Qv a b d 0 0 D (X e) f];omega
def uc(h i:I)(j:V)(k l m n d:I)(o:V)(b:ad)(c:W)(s:aX c o b):ap ab 70 #[ao #[h,i,j,k,l,m,n,d],o] c λt u=>t=aq (aB (d*kf b))/\B c c u:=by
 have⟨x,p,q,y,v⟩:=da c h i j k l m n d;obtain⟨z,e,D,rfl,Da,G,r⟩:=(s.bw q).open;have K:=v.c7;change H _ at Da p r;go_in;go_wp2_with fail;rw[p];go_loop [5,10] (λw f=>∃a:N,a<=e/\f=(a:I)/\w=(kf (b.take a))) (λ_ f=>e-(aw f).toNat);case atStart=>exact⟨0,a3 _,J,J⟩
 obtain⟨a,M,rfl,rfl⟩:=hrel;by_cases Ch:a<e
 ·obtain⟨P,Q,rfl,R⟩:=r a Ch;have g:H (kf (b.take (a+1))=aB (kf (b.take a)+ae b a)):=by show _=_;rw[kE b a c1];simp[kf]
  go_wp2_with fail;go_round;case rel=>exact⟨a+1,O,aK,by rw[g]⟩
  simp[aw];omega
 have g:H (b.take a=b):=by show _=_;rw[cm];rw[Da];omega
 go_wp2;go_ret;rw[g];exact⟨J,q⟩
end Go.Proofs.YtdlofedcpibjcaaGreatDoor
