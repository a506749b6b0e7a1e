/- A part of the proof of TopLines: contracts of the functions that it reaches. Conditions: as each states. -/
import Derived.Test.YtdlofedcpibjcaaGreatDoorA05
namespace Go.Proofs.YtdlofedcpibjcaaGreatDoor
open Go.RowKit Go.Proofs.Tryz
set_option linter.all false
set_option maxRecDepth 100000
set_option maxHeartbeats 25600000
open Go renaming World->W,Value->V,Addr->bQ,Act->a',Oper->bd,Program->cb,Ending->bp,TypeId->bj,Calls->ap
open Go.RowKit renaming Below->B,wrap64->aB,intOf->aw
open Option renaming some->A,none->Z
open Bool renaming true->T,false->F
open Go.Value renaming int->aa,slice->S,pointer->aM,agg->ao,bool->au,string->a7,tuple->aZ,ownBlock->af
open Go.IntKind renaming i64->ac,u64->b1
open Go.Ending renaming returned->aq
open Go.Obj renaming cells->az
open Go.World renaming setCell->aj,cell?->C,frozen?->aH
open List renaming length->L
open Go.Proofs.Tryz renaming prog->ab
open _root_ renaming Int->I,Nat->N,List->E
variable{a b c d e g:N}{w x:W}{i j k l:I}{u v y:V}{p:Prop}
def V5(d:W)(l:bz)(c:Zaa)(b:N):Prop:=∃g h e a i,l=A ⟨g,h,Z⟩/\C d ⟨g,h+b,Z⟩=A (S e a i)/\1<=a/\a<=60000/\(∀f,f<a->∃j k,e=A ⟨j,k,Z⟩/\C d ⟨j,k+f,Z⟩=A (a7 (aG (cZ c b) f)))/\bO d (S e a i) (cZ c b)/\(cZ c b).length=a/\(∀m∈cZ c b,m.size<=60000)
def V6{g:bz}{c:Zaa}(k:m5 w (S g a b) c)(m:B w w x)(o:∀e∈c,1<=L e/\L e<=60000/\∀p∈e,p.size<=60000)(d:N)(q:d<a):V5 x g c d:=by
 have⟨_,_,_,i,z,_,_,r⟩:=(m5.dj.bw k m).open;simp only[bf]at i;obtain⟨rfl,rfl,rfl⟩:=i;obtain⟨D,G,H,rfl,s,j⟩:=r d q;obtain⟨K,t,M,rfl,f,_,_,u⟩:=bO.open j;have v:cZ c d∈c:=by unfold cZ;rw[fU,e7 O];exact dY _
 have:=o _ v;have f:(cZ c d).length=t:=f;exact⟨_,_,_,_,_,J,s,O,O,u,j,f,this.2.2⟩
def By(c b:W)(a:N)(d:I):Prop:=vh c (aq (aZ #[ao #[(0:I),(0:I),(0:I),(0:I),S Z 0 0,S Z 0 0],d])) (oR b a (0:I) (0:I) (0:I) (0:I) (S Z 0 0) (S Z 0 0))/\ax (oR b a (0:I) (0:I) (0:I) (0:I) (S Z 0 0) (S Z 0 0)) a (mD 0 0 0 0 (S Z 0 0) (S Z 0 0))
def jM{g:W}(m:I)(o:∀f,B x x f->kv f b)(n:∀f,B x x f->kv f a)(s:a=w)(t:B w w x)(h:B x x g) (u:H (kv g b/\kv g a/\By w g a m)->p:=by intro k;have⟨O,P,R,U,X,Y,_⟩:=k.oo.1;have⟨ad,ae,ag,ah,ai,ak,c⟩:=k.oo.2.1;have al:=c 0;have am:=c 1;have an:=c 2;have ar:=c 3;have av:=c 4;have ax:=c 5;have l:=k.oo.2.2;unfold By oR at l;have d:=Q l;clear l c;go_wp2_with fail;have y:=d.2 0 _ J;have z:=d.2 1 _ J;have D:=d.2 2 _ J;have G:=d.2 3 _ J;have K:=d.2 4 _ J;have M:=d.2 5 _ J;exact b0 (by simp[results,results5,go_sem,y,z,D,G,K,M]) J d.1):p:=u (Q ⟨o _ h,n _ h,(n _ h).fin s (q t h) 0 0 0 0 m Z Z 0 0 0 0⟩)
def V7(cf:ByteArray)(cL:W)(gp:cf.size<=60000):ap ab 5 #[a7 cf] cL (vh cL):=by
 obtain⟨d4,d5,d6,bz,de⟩:=Bx cL;obtain⟨bA,d7,df,cM,dg⟩:=Bx d4;obtain⟨fh,G⟩:=K (cL:N);obtain⟨fi,dh⟩:=K (d4:N);rw[<-G]at de;rw[<-dh]at dg;have d8:=Q (U G.symm (U dh.symm (bh (fh+1=fi))));have P:=Q (λ(R:W) (a2:B bA bA R)=>(de.bw df).bw a2);have ay:=Q (λ(R:W) (a2:B bA bA R)=>dg.bw a2);have ah:=Q (q d6 df);have cN:=Bw cf bA O;have di:=λdk (dl:mC cf=A dk)=>V1 dl;obtain⟨dk,d9⟩:=K (mC cf);rw[<-d9]at cN di;have cN:=Q cN;change H _ at d5 d7 di G;clear d6 df bz cM de dg d9 dh;go_in;go_upto_region 2 with fail;rw[d5,d7,d8.1,d8.2.2];go_wp2_with fail;refine cN.mono ?_;intro f y d';cases dk with
  |none=>obtain⟨rfl,bo⟩:=d';change H _ at bo;exact jM 2 ay P G ah bo
  |some t=>
 obtain⟨gq,h,gr,rfl,dn,eb⟩:=d';obtain⟨fj,ec⟩:=di t J;have dq:L t=h:=by obtain⟨_,_,_,a8,fk,_⟩:=dn.open;simp only[bf]at a8;obtain⟨rfl,rfl,rfl⟩:=a8;exact fk
 have bq:=Q (λ(R:W) (a2:B y y R) (a4:N) (fl:a4<h)=>V6 dn a2 (λfm fn=>by have:=ec fm fn;exact⟨this.1,O,λu br=>Y (this.2.2 u br)⟩) a4 fl);have bo:=Q eb;have fo:h<=60000:=O
 clear dn fj ec eb dq;by_cases fp:h<4;have dr:decide ((h:I)<4)=T:=aF
 have fq:decide (h<4)=T:=aF
 clear fo fp;exact jM 2 ay P G ah bo;have dr:decide ((h:I)<4)=F:=aF
 have fq:decide (h<4)=F:=aF
 obtain⟨cO,gs,ds,ed,gt,rfl,bB,bR,_,dt,_⟩:=bq y (aS _ _) 0 O;obtain⟨_,_,du,dv,gu,f,f1,bS,_,a9,_⟩:=bq y (aS _ _) 1 O;cases f;obtain⟨_,_,dw,dx,gv,f,cg,bT,_,dy,_⟩:=bq y (aS _ _) 2 O;cases f;rw[eX]at bB;have fs:(0:I)<h:=O
 have ft:(1:I)<h:=O
 have gw:(2:I)<h:=O
 have gx:0<h:=O
 have fu:1<h:=O
 have fv:2<h:=O
 change H _ at dt a9 dy;go_upto_region 5 with fail;go_cut [54]from 34 to 54 (λu aW=>(∃e:Bool,u=au e)/\aW=y);case first=>
  by_cases ch:ed=2
  ·subst ch;obtain⟨ee,ef,rfl,ci⟩:=dt 0 av;obtain⟨_,_,f,g1⟩:=dt 1 av;cases f;rw[eX]at ci;generalize aG (cZ t 0) 0=dz at ci;generalize aG (cZ t 0) 1=cj at g1;obtain⟨bU,dA⟩:∃e,(dz.toList==[116,114,97,110,116,101,114])=e:=⟨_,J⟩
   obtain⟨bV,dB⟩:∃e,(cj.toList==[49])=e:=⟨_,J⟩
   clear f1 cg bR bS bT;cases bU<;>cases bV;all_goals go_wp2;go_meet;exact⟨⟨_,J⟩,J⟩
  have bW:((ed:I)!=2)=T:=mJ
  clear ch f1 cg bR bS bT;go_wp2;go_meet;exact⟨⟨_,J⟩,J⟩
 case rest=>
 obtain⟨⟨e,rfl⟩,rfl⟩:=hcut;obtain⟨y,rfl⟩:=K wc;cases e with
  |true=>clear bB f1 cg;exact jM 2 ay P G ah bo
  |false=>
 go_upto_region 8 with fail;go_cut [100]from 59 to 100 (λu aW=>(∃e:Bool,u=au e/\(e=F->dv=8/\dx=2))/\aW=y);case first=>
  by_cases eg:dv=8;rotate_left
  ·have bW:((dv:I)!=8)=T:=by rw[bne_iff_ne];omega
   clear eg bB f1 cg bR bS bT;go_wp2;go_meet;exact⟨⟨_,J,λf=>f'⟩,J⟩
  subst eg;obtain⟨ee,ef,rfl,ci⟩:=a9 0 av;obtain⟨_,_,f,g2⟩:=a9 2 av;cases f;obtain⟨_,_,f,fw⟩:=a9 4 av;cases f;obtain⟨_,_,f,fx⟩:=a9 6 av;cases f;rw[eX]at ci;generalize aG (cZ t 1) 0=dz at ci;generalize aG (cZ t 1) 2=fy at g2;generalize aG (cZ t 1) 4=fA at fw;generalize aG (cZ t 1) 6=fB at fx;obtain⟨bU,dA⟩:∃e,(dz.toList==[100,97,121,115])=e:=⟨_,J⟩
  obtain⟨bV,dB⟩:∃e,(fy.toList==[118,101,104,105,99,108,101,115])=e:=⟨_,J⟩
  obtain⟨eh,gy⟩:∃e,(fA.toList==[99,97,112,97,99,105,116,121])=e:=⟨_,J⟩
  obtain⟨ei,gz⟩:∃e,(fB.toList==[108,101,110,103,116,104])=e:=⟨_,J⟩
  by_cases ch:dx=2
  ·subst ch;obtain⟨fC,fD,rfl,u0⟩:=dy 0 av;rw[eX]at u0;generalize aG (cZ t 2) 0=fE at u0;obtain⟨fF,gA⟩:∃e,(fE.toList==[99,117,115,116,111,109,101,114,115])=e:=⟨_,J⟩
   clear bB f1 bR bS bT;cases bU;rotate_left;focus (cases bV;rotate_left;focus (cases eh;rotate_left;focus (cases ei;rotate_left;focus (cases fF))))
   all_goals go_wp2;go_meet;exact⟨⟨_,J,λ_=>D⟩,J⟩
  have bW:((dx:I)!=2)=T:=mJ
  clear bB f1 bR bS bT ch;cases bU;rotate_left;focus (cases bV;rotate_left;focus (cases eh;rotate_left;focus (cases ei)))
  all_goals go_wp2;go_meet;exact⟨⟨_,J,λf=>f'⟩,J⟩
 case rest=>
 obtain⟨⟨e,rfl,bC⟩,rfl⟩:=hcut;obtain⟨y,rfl⟩:=K wc;cases e with
  |true=>clear bB f1 cg bC;exact jM 2 ay P G ah bo
  |false=>
 obtain⟨rfl,rfl⟩:=bC J;obtain⟨ee,ef,rfl,g1⟩:=a9 1 av;obtain⟨_,_,f,g3⟩:=a9 3 av;cases f;obtain⟨_,_,f,fG⟩:=a9 5 av;cases f;obtain⟨_,_,f,fH⟩:=a9 7 av;cases f;obtain⟨fC,fD,rfl,u1⟩:=dy 1 av;obtain⟨_,_,_,_,_,f,_,_,_,_,_,_,bz⟩:=bq y (aS _ _) 1 fu;obtain⟨_,_,_,_,_,bX,_,_,_,_,_,fI,cM⟩:=bq y (aS _ _) 2 fv;have ak:∀u∈[aG (cZ t 1) 1,aG (cZ t 1) 3,aG (cZ t 1) 5,aG (cZ t 1) 7,aG (cZ t 2) 1],u.size<=1000000:=λu br=>by
  have ck:∀(aA:bD) (m:N),(∀u∈aA,u.size<=60000)->(aG aA m).size<=1000000:=λaA m dl=>by unfold aG;rw[fU];by_cases n:m<L aA;rw[e7 n];have:=dl _ (dY n);simp only[Option.getD_some];omega;rw[List.getElem?_eq_none O];exact a3 _
  simp only[cK,List.not_mem_nil,or_false]at br;rcases br with rfl|rfl|rfl|rfl|rfl;exact ck _ _ bz;exact ck _ _ bz;exact ck _ _ bz;exact ck _ _ bz;exact ck _ _ cM
 generalize aG (cZ t 1) 1=cj at g1 ak;generalize aG (cZ t 1) 3=dC at g3 ak;generalize aG (cZ t 1) 5=dD at fG ak;generalize aG (cZ t 1) 7=dE at fH ak;generalize aG (cZ t 2) 1=dF at u1 ak;obtain⟨cl,ej,ek,el⟩:∃cl,y.alloc (az #[a7 cj,a7 dC,a7 dD,a7 dE,a7 dF] 9)=cl/\B y y cl/\bO cl (S (A (y:N)) 5 5) [cj,dC,dD,dE,dF]:=⟨_,J,aN _ _,jh y [cj,dC,dD,dE,dF] D⟩
 have cP:=Q (tf _ _ cl.drew (bO.dj.bw el (an _)) D ak);have em:=Q (q ek (an _));have f1:=f1;change H _ at ej;clear f bX bz cM fI ak ek el bC bB bR bS bT;go_upto_region 10 with fail;refine bv [0,1,3,4,6,7,9,10,12,13,102,105,108,111,114,15,116,217,218,19,20,21,22,23] ?_;iterate 17 refine mS ?_
 refine aU λba x=>?_;go_simp;rw[ej];refine x _ _ (.mk em) ?_;refine aU λba x=>?_;go_simp;refine cP.mono ?_;rintro f bZ ⟨gB,fJ,gC,bb,be,rfl,en,cQ,eo,ep⟩;have cR:=q em ep;refine x _ _ (.mk cR) ?_;iterate 5 refine mS ?_
 refine bc ?_;have cQ:bb=T->L be=5:=cQ;have cS:=Q (bo.oo.trans (cR.mono bo.size));have eq:=Q cR;have cT:=Q (U en (U cQ eo));clear ep cR en cQ eo f1;cases bb with
  |false=>go_upto_region 11 with fail;go_quiet (fail);have er:=cS.trans ((ip bZ nq).mono cS.size);change H _ at er;exact jM 2 ay P G ah er
  |true=>
 obtain⟨gD,gE,gF,a8,dq,_,b2⟩:=cT.1.ints.open;simp only[bf]at a8;obtain⟨rfl,rfl,rfl⟩:=a8;have fK:L be=5:=cT.2.1 J;have fL:fJ=5:=O
 subst fL;obtain⟨cU,es,rfl,bg⟩:=b2 0 av;obtain⟨_,_,f,cm⟩:=b2 1 av;cases f;obtain⟨_,_,f,cn⟩:=b2 2 av;cases f;obtain⟨_,_,f,co⟩:=b2 3 av;cases f;obtain⟨_,_,f,bs⟩:=b2 4 av;cases f;have fM:0<=ae be 4:=cT.2.2 _ (hO O);obtain⟨g,et⟩:∃g:N,ae be 4=(g:I):=⟨(ae be 4).toNat,O⟩
 rw[et]at bs;rw[eX]at bg;generalize ae be 0=bl at bg;generalize ae be 1=b3 at cm;generalize ae be 2=b6 at cn;generalize ae be 3=b7 at co;have cp:=Q (U bg (U cm (U cn (U co bs))));clear fM et fK dq b2 cT cP bg cm cn co;go_upto_region 11 with fail;go_cut [148]from 124 to 148 (λu aW=>(∃e:Bool,u=au e/\(e=F->g<=60000/\h=2*g+5))/\B bZ bZ aW);case first=>
  by_cases dG:h<g
  ·have bW:decide ((h:I)<g)=T:=by simp;omega
   have fN:decide (h<g)=T:=aF
   clear dG;go_quiet (fail);have cq:=ip bZ nq;clear bs;go_wp2;go_meet;exact⟨⟨_,J,λf=>f'⟩,cq⟩
  have bW:decide ((h:I)<g)=F:=aF
  have fN:decide (h<g)=F:=aF
  have cr:IntKind.i64.wrap (3+(g:I))=3+(g:I):=hf _ O;have bX:IntKind.i64.wrap (3+(g:I)+1)=3+(g:I)+1:=hf _ O;have ev:IntKind.i64.wrap (3+(g:I)+1+(g:I))=3+(g:I)+1+(g:I):=hf _ O;have ew:IntKind.i64.wrap (3+(g:I)+1+(g:I)+1)=3+(g:I)+1+(g:I)+1:=hf _ O;have cV:g<=60000:=O
  by_cases a8:h=2*g+5
  ·have fO:((h:I)!=3+(g:I)+1+(g:I)+1)=F:=by rw[bne_eq_false_iff_eq];omega
   have fP:=Q (U cV a8);clear a8 dG cV;go_quiet (fail);have cq:=ip bZ nq;clear bs;go_wp2;go_meet;exact⟨⟨_,J,λ_=>fP⟩,cq⟩
  have fO:((h:I)!=3+(g:I)+1+(g:I)+1)=T:=mJ
  clear a8 dG cV;go_quiet (fail);have cq:=ip bZ nq;clear bs;go_wp2;go_meet;exact⟨⟨_,J,λf=>f'⟩,cq⟩
 case rest=>
 obtain⟨⟨e,rfl,bC⟩,bu⟩:=hcut;obtain⟨a1,rfl⟩:=K wc;have dH:=Q (cS.oo.trans (bu.mono cS.size));have ex:=Q (eq.oo.trans (bu.mono eq.size));have fQ:ax a1 cU []:=λm gG n=>by cases n
 have bg:=s bu cp.1;have cm:=s bu cp.2.1;have cn:=s bu cp.2.2.1;have co:=s bu cp.2.2.2.1;have bs:=s bu cp.2.2.2.2;clear bu fQ;cases e with
  |true=>clear bg cm cn co bs bC;exact jM 2 ay P G ah dH
  |false=>
 obtain⟨cV,cW⟩:=bC J;obtain⟨ey,ez,eA⟩:=V2 a1 bl b3 b6 b7;have cs:=eA.bw (an ey);obtain⟨fR,dI⟩:=K ey.drew;rw[<-dI]at cs;have eB:cU<a1:=aR _ _ bg;have b8:C fR ⟨cU,es,Z⟩=A (aa ac bl):=s cs.bF bg;obtain⟨X,ct⟩:=K (a1:N);rw[<-ct]at cs eB;have eC:=Q (U cs bg);change H _ at ez dI ct;change H _ at cW;clear eA cs b8 bC;go_upto_region 15 with fail;clear bs;refine bv [0,1,3,4,6,7,9,10,102,105,108,111,12,213,314] ?_;iterate 13 refine mS ?_
 refine aU λba x=>?_;go_simp;refine x _ _ (.mk (q (an _) (aN _ _))) ?_;refine b4 λba x=>?_;go_simp;rw[ez,<-dI];refine x _ _ ?_;refine bc ?_;rw[<-ct];have eD:=Q (λ(R:W) (a2:B X a1 R)=>(U (dH.oo.trans ((show B a1 a1 R by rw[<-ct.oo];exact a2).mono dH.size)) (ex.trans ((show B a1 a1 R by rw[<-ct];exact a2).mono ex.size)):B bA bA R/\B y y R));go_wp2;go_loopw [11,13,14,15,16] (λbE a4 _ _ _ wr=>∃(b:N) (bb:Bool) (cu eE:V) (aA:a0),eE=cu/\bE=au bb/\a4=(b:I)/\b<=g/\lw a1 X bl b3 b6 b7 cu aA wr/\L aA=b) (λ_ a4 _ _ _ _=>g-(aw a4).toNat);exact⟨0,T,_,_,[],J,J,J,a3 _,⟨eC.1,cD.nil _ _,λb eF=>(by cases eF)⟩,J⟩;obtain⟨b,bb,cu,eE,aA,_,rfl,rfl,eF,bG,cv⟩:=hrel;obtain⟨j,rfl⟩:=K wr;have aC:=eD j bG.i.bF;have b8:C j ⟨cU,es,Z⟩=A (aa ac bl):=bk bG.i.bF eB eC.2;by_cases Ch:b<g
 ·have fs:=aJ b;have ft:(b:I)<g:=by omega
  have cw:=cW.oo;obtain⟨_,_,cX,bH,cY,f,c0,cx,dJ,_,cy,dK,ak⟩:=bq j aC.2 (3+b) O;cases f;have eG:=Q (λ(R:W) (a2:B j j R)=>Pw (S cX bH cY) (cZ t (3+b)) bl R (bO.dj.bw cy a2) O O (λu br=>Y (ak u br)));have cr:IntKind.i64.wrap (3+(b:I))=3+(b:I):=hf _ O;have b9:(0:I)<=3+(b:I):=O
  have b':3+(b:I)<h:=O
  have ca:(3+(b:I)).toNat=3+b:=O
  have dL:=Q bG;have a5:=Q aC.1;clear cy ak dK cx dJ bG aC cw;go_upto_region 19 with fail;go_cut [14,15,16]from 166 to 196 (λfS cO e aW=>vi j fS cO e aW);case first=>
   refine i' ((.p 0 (.p 1 (.p 2 (.p 3 (.p 5 (.p 6 (.r 4 (.r 7 (.f 8 (.p 9 (.p 10 (.p 11 (.p 12 (.a 13 (.z 14 (.p 15 (.p 16 .d)))))))) 13 (.a 8 (.p 9 (.p 10 (.p 11 (.p 12 (.z 14 (.p 15 (.p 16 .d)))))))))))))))))) (dp j) aT aT (.mk nH) ?_;iterate 8 refine mS ?_
   refine gN (λba x=>?_) (λba x=>?_)
   ·go_simp;refine(eG _ (an j)).mono ?_;rintro f l ⟨k,aD,aL,aO,cc,bE,rfl,ad,hp,bm,cz⟩;have v:=q (an j) cz;refine x _ _ (.mk v) ?_;obtain⟨o,aQ,w,fT,aV⟩:=ka l k.kd k.dm (S aD aL aO) k.rt k.sz k.st k.ru k.hd;have eH:ax o l (l9 k (S aD aL aO)):=by rw[<-aQ];exact ax.new l (l9 k (S aD aL aO)) _
    have c1:H (vi j (aM (A (l:N))) (au cc) (au bE) o):=Q ⟨_,k,aD,aL,aO,cc,bE,J,J,J,eH,ad.bw w,hp,bm,q v w⟩;replace aQ:=Q aQ;clear ad hp bm cz w fT aV eH;iterate 4 refine mS ?_
    refine aU λba x=>?_;go_simp;refine x _ _ (.mk (q v (aN _ _))) ?_;refine b4 λba x=>?_;go_simp;try rw[aQ]
    refine x _ _ ?_;clear v;iterate 2 refine mS ?_
    refine bc ?_;go_wp2;go_meet;exact c1
   obtain⟨l,eI,cz,c2,dM⟩:=ka j.drew 0 0 (S Z 0 0) 0 0 0 0 0;rw[show (j.drew:N)=j from J]at c2 dM;have v:=q (an j) cz;go_simp;try rw[eI]
   refine x _ _ (.mk v) ?_;refine aU λba x=>?_;go_simp;refine(eG _ v).mono ?_;rintro f o ⟨k,aD,aL,aO,cc,bE,rfl,ad,hp,bm,w⟩;have dN:=q v w;refine x _ _ (.mk dN) ?_;have c3:=c2.lt;have aV:=λm=>aY w c3 (dM m);obtain⟨u0,u1,u2,u3,u4,u5,u6,u7⟩:=c2.bw w;obtain⟨fV,c4⟩:=K (j:N);rw[<-c4]at u0 u1 u2 u3 u4 u5 u6 u7 aV c3;have c1:=Q (V3 (Ky:=j) (Jl:=o) (JG:=fV) (Kn:=aa ac 0) (Ko:=aa ac 0) (Kp:=S Z 0 0) (Kq:=aa ac 0) (Kr:=aa ac 0) (Ks:=aa ac 0) (Kt:=aa ac 0) (Ku:=aa ac 0) c4 (λm fW n=>by
    match m,n with
     |0,n=>cases n;exact u0
     |1,n=>cases n;exact u1
     |2,n=>cases n;exact u2
     |3,n=>cases n;exact u3
     |4,n=>cases n;exact u4
     |5,n=>cases n;exact u5
     |6,n=>cases n;exact u6
     |7,n=>cases n;exact u7) dN k cc bE (ad.mono c3) hp bm)
   unfold pH at c1;have eJ:=aV 0;have eK:=aV 1;have eL:=aV 2;have eM:=aV 3;have dO:=aV 4;have dP:=aV 5;have fX:=aV 6;have fY:=aV 7;change H _ at c4;clear ad hp bm cz w dM aV c2 eI v dN c3;iterate 4 refine mS ?_
   refine b4 λba x=>?_;rw[<-c4];go_simp;refine x _ _ ?_;clear u0 u1 u2 u3 u4 u5 u6 u7 eJ eK eL eM dO dP fX fY;iterate 2 refine mS ?_
   refine bc ?_;go_wp2;go_meet;exact c1
  case rest=>
  obtain⟨bJ,k,aD,aL,aO,cc,bE,rfl,rfl,rfl,a6,c5,hp,bm,v⟩:=hcut;obtain⟨l,rfl⟩:=K wc;have cA:=dL.out.bw v;have c6:=Q (a5.out.trans (v.mono a5.out.size));cases cc with
   |false=>clear a6 c5 hp bm v cA b9 b' ca cr;exact jM 2 ay P G ah c6
   |true=>
  clear b8 b9 b' ca cr;obtain⟨al,am,ar,rfl,c7⟩:=cA.c.form;obtain⟨o,aQ,w,eN⟩:∃o,l.alloc (az #[k.kd,k.dm,S aD aL aO,k.rt,k.sz,k.st,k.ru,k.hd] 43)=o/\B l l o/\ax o l (eT k (S aD aL aO)):=⟨_,J,aN _ _,ax.new l (eT k (S aD aL aO)) _⟩
  have c8:=cA.bw w;have eO:X+1<=(j:N):=dL.out.i.lt;have dQ:b5 o (X+1) (S aD aL aO) k.ps:=(c5.bw w).mono eO;have eP:∀b,(S al am ar).ownBlock=A b->(S aD aL aO).ownBlock≠A b:=λb f bX=>bi ((dL.out.c.lt b f).2) ((c5.lt b bX).1)
  obtain⟨fZ,eQ,dR,cd⟩:=c8.c;have cB:X+1<=o.heap.size:=c8.i.lt;have c9:=Q (λ(f0 bn:N) (cC:W) ad dS dT=>c8.push (g:=f0) (cap:=bn) (W':=cC) eQ cd dQ eP hp bm ad dS dT);rw[cv]at c9 dR;have eR:=sX dQ;have eS:b+1<=1000000000000:=O
  have f2:=Q cv;have c':C l ⟨X,4,Z⟩=A (S al am ar):=cA.i.ly 4 _ J;replace aQ:=Q aQ;change H _ at c8 a6;clear cA c5 hp bm eP dQ eQ cd eO v w c7 cv;go_upto_region 22 with fail;go_cut [11]from 166 to 196 (λu aW=>(∃bb,u=au bb)/\aW=l);case first=>
   cases bb;·go_wp2;go_meet;exact⟨⟨_,J⟩,J⟩
   go_wp2;go_meet;exact⟨⟨_,J⟩,J⟩
  case rest=>
  obtain⟨⟨f3,rfl⟩,rfl⟩:=hcut;obtain⟨l,rfl⟩:=K wc;have f4:=a6 0 _ J;have cr:=a6 1 _ J;have bX:=a6 2 _ J;have ev:=a6 3 _ J;have ew:=a6 4 _ J;have f5:=a6 5 _ J;have f6:=a6 6 _ J;have f7:=a6 7 _ J;go_wp2_with (at_builtin;rw[aQ];refine fr J _ _ 24 43 _ 8 80 underlying24 sU J av av J o (X+1) (S al am ar) b (hS aA fZ) (eT k (S aD aL aO)) l J J eN J eR dR eS cB ?_);intro f8 bn cE eU cF _ cG _ _;obtain⟨bK,eV⟩:=c9 f8 bn cE eU cF cG;have c':C cE ⟨X,4,Z⟩=A (S al am ar):=bK.ly 4 _ J;have dO:=bK.fz 4;change H _ at eV;clear eU cF cG bK eR dR eS cB eN f4 cr bX ev ew f5 f6 f7;go_wp2;go_roundw;case rel=>exact⟨b+1,f3,_,_,aA++[k],J,J,aK,O,eV,by rw[bL,eu,f2]⟩
  exact bY
 have f9:b=g:=O
 subst f9;have dU:=bG.dst;have eW:=Q (U bG.p cv);have cw:=cW.oo;obtain⟨_,_,cX,bH,cY,f,c0,cx,_,eY,_,_,_⟩:=bq j aC.2 (3+b) O;cases f;obtain⟨gS,gT,rfl,dV⟩:=eY 0 O;rw[eX]at dV;generalize aG (cZ t (3+b)) 0=ga at dV;obtain⟨bU,dA⟩:∃e,(ga.toList==[100,105,115,116,97,110,99,101,115])=e:=⟨_,J⟩
 have b9:(0:I)<=3+(b:I):=O
 have b':3+(b:I)<h:=O
 have ca:(3+(b:I)).toNat=3+b:=O
 have a5:=Q aC.1;have gb:(0:I)<bH:=O
 have gc:0<bH:=O
 obtain⟨bV,dB⟩:∃e,((bH:I)!=1)=e:=⟨_,J⟩
 clear eY bG aC cw cx;go_upto_region 24 with fail;go_cut [213]from 197 to 213 (λu aW=>(∃e:Bool,u=au e)/\aW=j);case first=>
  cases bV;focus (cases bU)
  all_goals go_wp2;go_meet;exact⟨⟨_,J⟩,J⟩
 case rest=>
 obtain⟨⟨e,rfl⟩,rfl⟩:=hcut;obtain⟨l,rfl⟩:=K wc;clear c0 dV b9 b' ca gb gc dB dA b8;cases e with
  |true=>clear dU;exact jM 2 ay P G ah a5.out
  |false=>
 change H _ at dU;clear cv;go_wp2;go_loopw [17,18,19] (λa4 _ _ wr=>∃(m:N) (eZ:V) (dW:aP) (bx:ai),a4=(m:I)/\m<=b+1/\mG a1 X bl b3 b6 b7 cu eZ aA dW bx wr/\L bx=m) (λa4 _ _ _=>b+1-(aw a4).toNat);exact⟨0,_,[],[],J,a3 _,dU,J⟩;obtain⟨m,eZ,dW,bx,rfl,n,ag,dX⟩:=hrel;obtain⟨j,rfl⟩:=K wr;have aC:=eD j ag.i.bF;obtain⟨al,am,ar,rfl,c7,_⟩:=ag.d.form;by_cases D5:m<b+1
 ·have dr:decide ((m:I)<=b)=T:=by simp;omega
  have cw:=cW.oo;obtain⟨_,_,cX,bH,cY,f,c0,cx,dJ,_,cy,dK,ak⟩:=bq j aC.2 (4+b+m) O;cases f;have cP:=Q (tf (S cX bH cY) _ j cy O (λu br=>Y (ak u br)));have b9:(0:I)<=4+(b:I)+(m:I):=O
  have b':4+(b:I)+(m:I)<h:=O
  have ca:(4+(b:I)+(m:I)).toNat=4+b+m:=O
  have a5:=Q aC.1;have cH:=Q ag;clear cy ak dK cx dJ ag aC cw c7;go_upto_region 29 with fail;go_wp2_with fail;refine cP.mono ?_;rintro f l ⟨da,bM,db,ok,d0,rfl,ad,_,_,v⟩;have c6:=Q (a5.out.trans (v.mono a5.out.size));clear c0 b9 b' ca;cases ok with
   |false=>clear ad v;exact jM 2 ay P G ah c6
   |true=>
  by_cases e0:bM=b+1;rotate_left;have bW:((bM:I)!=(b:I)+1)=T:=mJ
  clear ad v e0;exact jM 2 ay P G ah c6;have bW:((bM:I)!=(b:I)+1)=F:=st
  have d1:=cH.bw v;have e1:aI aX (λcI=>cI<=X\/(S al am ar).ownBlock=A cI) l (S da bM db) d0:=ad.off (λcI f=>(by rcases f with f|f;have:=cH.i.lt;omega;exact(bI cH.d.1 cI f).2));obtain⟨o,aQ,w,e2⟩:∃o,l.alloc (az #[S da bM db] 22)=o/\B l l o/\C o l=A (S da bM db):=⟨_,J,aN _ _,aE⟩
  have dc:=d1.bw w;have e3:=e1.bw w;have e4:=dc.d;have c9:=Q (λ(bJ e5 bn:N) (cC:W) (e6:aP) (e8:ai) ad dS dT gd=>dc.push (g:=bJ) (n:=e5) (cap:=bn) (W':=cC) (rvs':=e6) (D':=e8) ad dS dT gd);have cB:X+1<=o.heap.size:=dc.i.lt;have e9:L bx+1<=1000000000000:=O
  have dd:C l ⟨X,5,Z⟩=A (S al am ar):=d1.i.ly 5 _ J;have ge:=Q dX;replace aQ:=Q aQ;clear dX;clear ad v e0 d1 e1 w dc;go_wp2_with (at_builtin;rw[aQ];refine n1 J _ _ 25 22 (S Z 0 0) 24 underlying25 wR J av J o (X+1) (S al am ar) dW bx (S da bM db) d0 l J J e2 J e4 e3 e9 cB ?_);intro bJ bn cE e' cF gf fa gg cG;obtain⟨bK,fb⟩:=c9 bJ _ bn cE _ _ e' cF cG fa;have dd:C cE ⟨X,5,Z⟩=A (S al am ar):=bK.ly 5 _ J;have dP:=bK.fz 5;change H _ at fb;clear e' cF gf fa gg cG bK e4 e3 e9 cB e2;go_wp2;go_roundw;case rel=>exact⟨m+1,_,_,bx++[d0],aK,O,fb,by rw[bL,eu,ge]⟩
  simp only[aw];exact qx
 have gh:m=b+1:=O
 have dr:decide ((m:I)<=b)=F:=aF
 have d2:=ag.c.now;have fc:bt j (S al am ar) bx:=(ag.d.off (λcI f=>O)).now;have gi:=Q (PM bl b3 b6 b7 cu (S al am ar) aA bx j d2 fc eW.1 (Y eW.2) O);obtain⟨fd,fe,ff,rfl,_⟩:=d2.open;have ds:=ag.i.ly 0 _ J;have du:=ag.i.ly 1 _ J;have dw:=ag.i.ly 2 _ J;have fg:=ag.i.ly 3 _ J;have c':=ag.i.ly 4 _ J;have dd:=ag.i.ly 5 _ J;have a5:=Q aC.1;have cH:=Q ag;clear ag aC fc gh dX c7 d2;go_wp2_with fail;refine mE gi λo cO w=>?_;have cJ:=Q (a5.out.trans (w.mono a5.out.size));have ce:=Q (cH.oo.i.bw w);clear w ds du dw fg c' dd;cases bb with
  |false=>exact jM 3 ay P G ah cJ
  |true=>
 cases cO with
  |false=>exact jM 3 ay P G ah cJ
  |true=>
 have ds:=ce.ly 0 _ J;have du:=ce.ly 1 _ J;have dw:=ce.ly 2 _ J;have fg:=ce.ly 3 _ J;have c':=ce.ly 4 _ J;have dd:=ce.ly 5 _ J;obtain⟨gU,gV,gW,gX,gY,gZ,bN⟩:=P o cJ;obtain⟨d3,cd⟩:=(P o cJ).fin G (q ah cJ) bl b3 b6 b7 0 fd al fe ff am ar;have eJ:=bN 0;have eK:=bN 1;have eL:=bN 2;have eM:=bN 3;have dO:=bN 4;have dP:=bN 5;unfold oR at d3 cd;have bP:=Q (U d3 cd);clear d3 cd bN;go_wp2_with fail;have b8:=bP.2 0 _ J;have gj:=bP.2 1 _ J;have gl:=bP.2 2 _ J;have gm:=bP.2 3 _ J;have gn:=bP.2 4 _ J;have go:=bP.2 5 _ J;exact b0 (v:=aZ #[ao #[bl,b3,b6,b7,S fd fe ff,S al am ar],(0:I)]) (by simp[results,results5,go_sem,b8,gj,gl,gm,gn,go]) J bP.1
def V8(a:ByteArray)(b:W):ap ab 4 #[a7 a,(400:I)] b λd e=>(∃c,c.size<=400/\d=aq (a7 c))/\b=e:=by
 by_cases h:400<a.size
 ·have f:decide ((400:I)<(a.size:I))=T:=by simp;omega
  have g:decide (400<a.size)=T:=aF
  have i:(400:I)<=(a.size:I):=O
  have j:400<=a.size:=O
  go_in;go_wp2;go_ret;exact⟨⟨_,(show(a.extract 0 400).size<=400 by rw[ByteArray.size_extract];omega),J⟩,J⟩
 have f:decide ((400:I)<(a.size:I))=F:=aF
 have g:decide (400<a.size)=F:=aF
 go_in;go_wp2;go_ret;exact⟨⟨_,(bh (a.size<=400)),J⟩,J⟩
def V9(b:W)(c d e f:I):aX (b.alloc (az #[c,d,e,f] 3)) (S (A (b:N)) 4 4) [c,d,e,f]:=by
 have a:=ax.new b [c,d,e,f] 3;refine⟨_,4,J,D,av,λg h=>⟨_,0,J,?_⟩⟩;rw[bX];match g,h with
  |0,_=>exact a 0 _ J
  |1,_=>exact a 1 _ J
  |2,_=>exact a 2 _ J
  |3,_=>exact a 3 _ J
def sh(a:ad):ad:=[kq a,dh a 1%9,dh a 2%21,dh a 3%13]
def V'(k:V)(a:ad)(b:W)(l:aX b k a):ap ab 8 #[k] b λw m=>∃n,w=aq (S (A ⟨n,0,Z⟩) 4 4)/\aX m (S (A ⟨n,0,Z⟩) 4 4) (sh a)/\B b b m:=by
 have c:=Q (T7 k a b l);unfold sh;obtain⟨z,D,G,rfl,_⟩:=l.open;generalize kq a=f at c;generalize dh a 1%9=g at c;generalize dh a 2%21=h at c;generalize dh a 3%13=i at c;go_in;go_wp2_with fail;refine mU c λx o=>?_;have⟨d,p,r,y,e,_⟩:=nw x f g h i;obtain⟨j,s,t,u⟩:∃j,d.alloc (az #[f,g,h,i] 3)=j/\B d d j/\aX j (S (A (d:N)) 4 4) [f,g,h,i]:=⟨_,J,aN _ _,V9 d f g h i⟩
 have v:=Q (U u (q o (q r t)));have K:=e 0 _ J;have M:=e 1 _ J;have O:=e 2 _ J;have P:=e 3 _ J;change H _ at p s;clear o r y e t u;go_upto_region 2 with(rw[p])
 go_wp2_with (rw[s]);go_ret;exact⟨_,J,v.1,v.2⟩
def Wa:(jG ByteArray.empty 0 0 0 0).toList=[111,117,116,99,111,109,101,32,109,97,108,102,111,114,109,101,100,10]:=by have a:(c7 ByteArray.empty).1=2:=J;unfold jG ks;rw[a,ak av,am J,ByteArray.toList_eq];rfl
def Wb(a:W)(c:hU a):ap ab 6 #[] a (ch a (au T)):=by
 have d:=Q (Bu ByteArray.empty (S Z 0 0) 0 0 0 0 a (nF.nil a) av av av c av);have⟨e,b⟩:=K (jG ByteArray.empty 0 0 0 0);rw[<-b]at d;have g:(e.toList==[111,117,116,99,111,109,101,32,109,97,108,102,111,114,109,101,100,10])=T:=by rw[b,Wa];rfl
 clear b c;go_in;go_wp2_with fail;refine mU d λh f=>?_;go_wp2;go_ret;exact⟨J,f⟩
def Wc(a:W)(b c d e:I)(f g:V):∃h,a.alloc (az #[b,c,d,e,f,g] 27)=h/\B a a h/\ax h a (mD b c d e f g):=⟨_,J,aN _ _,ax.new a (mD b c d e f g) _⟩
def Wd:b9.toList=[111,117,116,99,111,109,101]:=su
def We(a:ByteArray)(c d e:I)(b:N)(h:a.size<=60000)(i:b<=1000):(jG a c d e b).size<=500000000000/\∃f g,mC (jG a c d e b)=A ([b9,f]::g):=by
 have j:=Br a c d e b h i;have⟨k,f,g,l⟩:=VP (Jf:=ks a c b d e);have p:=VY j;have m:(jG a c d e b).size<=500000000000:=by unfold jG;omega
 have n:mC (jG a c d e b)=A (hK (ks a c b d e)):=VW _ k;exact⟨m,f,g,n.trans (cz A l)⟩
def Wf(ai:ByteArray)(r:V)(a:ad)(c:W)(s:aX c r a)(t:hU c):ap ab 3 #[a7 ai,r] c (ch c (au T)):=by
 have a5:=Q (V8 ai c);have ak:=Q (λg h=>Wb g (t.bw h));have u:=Q (λg h=>V' r a g (s.bw h));obtain⟨bM,bN,bP,rfl,_⟩:=s.open;have a6:=Q t;clear s t;go_in;go_wp2_with fail;refine a5.mono ?_;rintro a8 _ ⟨⟨k,v,rfl⟩,rfl⟩;have a9:=Q (V7 k c O);change H _ at v;go_wp2_with fail;refine a9.mono ?_;rintro a8 ba ⟨al,bb,bc,be,bg,bh,bi,w,bk,bl,bm,rfl,am⟩;have⟨l,an,ar,x⟩:=Wc ba al bb bc be (S bh w bk) (S bi bl bm);have m:=Q (q am ar);have bn:=x 0 _ J;have bo:=x 4 _ J;change H _ at an;clear am ar x;go_upto_region 3 with(rw[an])
 go_cut [29]from 17 to 29 (λd bq=>(∃b:Bool,d=au b)/\bq=l);case first=>
  obtain⟨br,bR⟩:∃e,(bg==0)=e:=⟨_,J⟩
  obtain⟨ax,bs⟩:∃e,decide (5<w)=e:=⟨_,J⟩
  have bS:decide (5<(w:I))=ax:=by rw[<-bs,decide_eq_decide];omega
  obtain⟨bT,bU⟩:∃e,decide (7<al)=e:=⟨_,J⟩
  cases br;rotate_left;focus (cases ax)
  all_goals go_wp2;go_meet;exact⟨⟨_,J⟩,J⟩
 case rest=>
 obtain⟨⟨b,rfl⟩,rfl⟩:=hcut;obtain⟨l,rfl⟩:=K wc;clear bn bo;cases b with
  |true=>have y:=Q (ak l m);go_wp2_with fail;refine mU y λay i=>?_;have z:=Q (q m i);clear i;go_wp2;go_ret;exact⟨J,z⟩
  |false=>
 have bt:0<=dh a 1%9/\dh a 1%9<=1000:=O
 obtain⟨f,aA⟩:∃f:N,dh a 1%9=(f:I):=⟨(dh a 1%9).toNat,O⟩
 have⟨n,hp⟩:=K (dh a 2%21);have⟨b,aC⟩:=K (dh a 3%13);have⟨d,aD⟩:=K (kq a);have aE:sh a=[d,f,n,b]:=by unfold sh;rw[aA,hp,aC,aD]
 rw[aE]at u;have aG:=We k d n b f (Y v.oo) O;have G:=Q (λg aI h bu=>Bu k aI d n b f g (.four bu O O O) O O O (a6.bw h) (Y v.oo));have⟨M,aJ⟩:=K (jG k d n b f);rw[<-aJ]at aG G;obtain⟨aK,bV,bW,aL⟩:=aG;have bv:=Q (u.oo l m);change H _ at aL;clear bt aA hp aC aD aE aJ;go_upto_region 5 with fail;go_wp2_with fail;refine mE bv λay bx ⟨aN,i⟩=>?_;have P:=q m i;have R:=Q (G.oo ay _ P aN);change H _ at P;clear aN i;go_wp2_with fail;refine mU R λbz aO=>?_;have aP:=q P aO;have o:=Bw M bz aK;rw[aL]at o;have o:=Q o;change H _ at aP;clear aO aK;go_wp2_with fail;refine mF o λaQ bX p bY ⟨aR,aS⟩=>?_;have U:=q aP aS;have⟨_,_,_,aT,aU,_,_,aV⟩:=aR.open;simp only[bf]at aT;obtain⟨rfl,rfl,rfl⟩:=aT;have bA:0<p:=by rw[<-aU];simp
 obtain⟨e,bZ,aI,rfl,aW,aY⟩:=aV 0 bA;obtain⟨b0,bB,b2,rfl,X,_,_,a0⟩:=bO.open aY;have X:2=bB:=X;subst X;obtain⟨bC,bD,rfl,j⟩:=a0 0 av;have j:C aQ ⟨bC,bD+0,Z⟩=A (a7 b9):=j;rw[eX]at aW j;have bE:((p:I)==0)=F:=aF
 have bF:(p==0)=F:=aF
 have bG:(0:I)<p:=O
 have ae:=Wd;generalize b9=bH at j ae;have bI:(bH.toList==[111,117,116,99,111,109,101])=T:=by rw[ae];rfl
 have bJ:=Q (u.oo aQ U);change H _ at U;clear ae aU aV aR aY a0 aS;go_wp2_with fail;clear aW j bE bF bI bG;refine mE bJ λbK bx ⟨a1,a2⟩=>?_;have ag:=q U a2;have R:=Q (G.oo bK _ ag a1);change H _ at ag;clear a1 a2;go_wp2_with fail;refine mU R λbL a3=>?_;have ah:=q ag a3;have y:=Q (ak.oo bL ah);have b3:(M.toList==M.toList)=T:=D
 change H _ at ah;clear a3;go_wp2_with fail;refine mU y λb4 a4=>?_;have z:=Q (q ah a4);clear a4;go_wp2;go_ret;exact⟨J,z⟩
end Go.Proofs.YtdlofedcpibjcaaGreatDoor
