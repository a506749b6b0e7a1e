/- A part of the proof of TopLines: contracts of the functions that it reaches. Conditions: as each states. -/
import Derived.Lib.Hide
import Derived.Test.YtdlofedcpibjcaaGreatDoorRows
import Derived.WalkLawsBesides
import Derived.WalkSpells
import Derived.Deep.AppendLies
import Derived.Lib.SmallJoins
import Derived.BigQuiet
import Derived.Deep.CutBlock
import Derived.Deep.DeepCutAuto
import Derived.Deep.DrawnRows
import Derived.Deep.RegionHeld3
import Derived.RangeFuncBound
import Derived.RangeFuncNested
import Derived.LoopNIn
import Derived.TacticsInMore
import Derived.Maps.OwnIn
import Derived.Shelf.Abstract
import Derived.Deep.WholeRow
import Derived.StillTailTactics
import Derived.Sort.OwnSortedInts
import Derived.Sort.CutIn
import Derived.Laws.EntriesVeiled
import Derived.Laws.CopyOwn
import Derived.Lib.AppendZerosOnto
import Derived.Lib.Overlaps
import Derived.Deep.OwnRows
import Derived.Lib.Walk
import Derived.Lib.CutLaws
import Derived.Lib.SplitLaws
import Derived.Test.YtdlofedcpibjcaaGreatDoorQ0
namespace Go.Proofs.YtdlofedcpibjcaaGreatDoor
open Go.RowKit Go.Proofs.Tryz
set_option linter.all false
set_option maxRecDepth 100000
set_option maxHeartbeats 25600000
open Go renaming World->W,Value->V,Addr->bQ,Act->a',Oper->bd,Program->cb,Ending->bp,TypeId->bj,Calls->ap
open Go.RowKit renaming Below->B,wrap64->aB,intOf->aw
open Option renaming some->A,none->Z
open Bool renaming true->T,false->F
open Go.Value renaming int->aa,slice->S,pointer->aM,agg->ao,bool->au,string->a7,tuple->aZ,ownBlock->af
open Go.IntKind renaming i64->ac,u64->b1
open Go.Ending renaming returned->aq
open Go.Obj renaming cells->az
open Go.World renaming setCell->aj,cell?->C,frozen?->aH
open List renaming length->L
open Go.Proofs.Tryz renaming prog->ab
open _root_ renaming Int->I,Nat->N,List->E
variable{a b c d e g:N}{w x:W}{i j k l:I}{u v y:V}{p:Prop}
attribute [go_sem ↓] Go.wp_at_zero Go.wp_at_succ
theorem J.{u}{a:Sort u}{b:a}:b=b:=rfl
def U:=@And.intro
def ak:=@if_neg
def am:=@if_pos
def aR:=@World.block_lt_of_cell?
def aL:=@Nat.le_refl
def bP:=@World.cell?_setCell_same'
def a2:=@Option.some.injEq
def bf:=@Value.slice.injEq
def aS:=@Below.refl
def bs:=@World.frozen?_setCell
def bM:=@Array.getElem?_eq_some_iff
def a1:=@Nat.le_trans
def a3:=@Nat.zero_le
def bL:=@List.length_append
def b0:=@bodyPost_ret
def cq:=@World.cell?_setCell_other
def bI:=@World.ownsRow.lt
def cm:=@List.take_of_length_le
def cg:=@Nat.lt_of_lt_of_le
def dn:=@List.length_eq_zero_iff
def dd:=@List.length_take
def eR:=@List.take_succ_eq_append_getElem
def bN:=@Addr.mk.injEq
def df:=@Bool.eq_false_or_eq_true
def b':=@List.length_set
def dw:=@Int.eq_ofNat_of_zero_le
def bX:=@Nat.zero_add
def cr:=@Bool.and_eq_true
def WG:=@Oper.semAt_some
def ck:=@List.map_append
def de:=@List.length_map
def cW:=@Int.toNat_natCast
def e7:=@List.getElem?_eq_getElem
def eu:=@List.length_singleton
def dD:=@decide_eq_true
def c9:=@decide_eq_false
def d4:=@List.all_eq_true
def fU:=@List.getD_eq_getElem?_getD
def ey:=@World.cell?_of_block
def ev:=@List.append_assoc
def cK:=@List.mem_cons
def dJ:=@IntWalk.i64_left
def hf:=@IntWalk.i64_in
def dA:=@rounds_succ
def gd:=@World.ownsRow.kept
def cz:=@congrArg
def ew:=@info_parts
def dY:=@List.getElem_mem
def dx:=@List.length_cons
def gK:=@List.length_replicate
def fs:=@List.mem_cons_of_mem
def mX:=@List.getElem?_eq_some_iff
def ga:=@List.length_drop
def ez:=@decide_eq_true_eq
def et:=@List.length_nil
def eh:=@List.mem_append
def e':=@List.append_nil
def fV:=@List.mem_cons_self
def gP:=@List.getElem_of_mem
def g':=@List.take_append_drop
def i1:=@List.getElem?_append_right
def iv:=@Nat.le_of_lt
def dE:=@List.map_cons
def lz:=@beq_eq_false_iff_ne
def gL:=@Bool.false_eq_true
def d5:=@List.sum_cons
def fx:=@Nat.not_lt_zero
def fu:=@List.range_succ
def eX:=@Nat.add_zero
def fD:=@Nat.lt_succ_self
def jO:=@List.getElem?_append_left
def h1:=@List.filter_append
def kL:=@Nat.succ_le_of_lt
def bT:=@and_true
abbrev a4:=I×I
abbrev br:=E N
abbrev aP:=E V
abbrev ad:=E I
abbrev aD:=N->Prop
abbrev ai:=E (E I)
abbrev ag:=E (I×I)
abbrev bz:=Option bQ
abbrev b7:=E (I×I×I)
abbrev bD:=E ByteArray
abbrev ar:=E (E (I×I))
abbrev bJ:=Exit->a'->W->Prop
abbrev aV:=E (E (E (I×I)))
abbrev Zaa:=E (E ByteArray)
def O(h:p:=by omega):p:=h
def bh(a:Prop)(b:a:=by omega):a:=b
def Y{a:Prop}(b:p)(d:p->a:=by intro b;omega):a:=d b
def bi{a b:Prop}(c:p)(d:a)(f:p->a->b:=by intro c d;omega):b:=f c d
def X{b:Prop}(a:p)(d:p->b:=by intro a;simpa using a):b:=d a
def lB(h:p:=by assumption):p:=h
def mM(h:p:=by cases (af Kl)<;>simp):p:=h
def fT(h:p:=by cases Jy<;>exact h):p:=h
def mL(h:p:=by cases Jy<;>first|rfl|(simp[TypeDesc.isRow]at JH)):p:=h
def f'(h:p:=by cases f):p:=h
def av(h:p:=by decide):p:=h
def hN(h:p:=by decide+kernel):p:=h
def nH(h:p:=by first|exact an _|exact(M.refl _ _).drew):p:=h
def KM(h:p:=by first|exact IR.size|exact IS.size):p:=h
def dk(h:p:=by first|rfl|trivial):p:=h
def aK(h:p:=by go_num):p:=h
def vs(h:p:=by have C4:IntKind.u64.signed=F:=J;have n:(2:I)^IntKind.u64.bits=18446744073709551616:=J;simp only[IntKind.wrap,C4,n,Bool.false_and,gL,if_false];omega):p:=h
def qn(h:p:=by have:=IU.oo;simp;omega):p:=h
def sA(h:p:=by have:=IV.oo.lt;simp;omega):p:=h
def KG(h:p:=by have:=D4.2.1;rw[GC]at this;exact this):p:=h
def KH(h:p:=by have:=D4.2.2;rw[GC]at this;exact this):p:=h
def vI(h:p:=by have⟨_,_,_,f,Ci,_⟩:=C4.open;simp only[bf]at f;rw[f.2.1,<-Ci];rfl):p:=h
def vE(h:p:=by have⟨_,_,f,_⟩:=o.di;simp only[bf]at f;exact f.2.1):p:=h
def vA(h:p:=by have⟨Jq,Js⟩:=ss I0 _ J4 h;exact⟨nN Jq,nN Js⟩):p:=h
def sC(h:p:=by intro f;cases f;exact Cs J):p:=h
def sn(h:p:=by intro f;have:=cz Addr.block f;simp only at this;omega):p:=h
def sy(h:p:=by intro JN t;simp at t;omega):p:=h
def kA(h:p:=by intro Kk Db;simp at Db;rcases Db with rfl|rfl<;>rfl):p:=h
def eP(h:p:=by intro Kk Db;simp at Db;subst Db;rfl):p:=h
def vt(h:p:=by intro KB CU;unfold a8 at CU;rw[List.mem_map]at CU;obtain⟨JN,t,rfl⟩:=CU;simp at t;exact⟨Int.natCast_nonneg _,by have:=t.1;simp;exact this⟩):p:=h
def aT(h:p:=by kernel_rfl):p:=h
def vL(h:p:=by obtain⟨Jq,Ju,f,_⟩:=IW.ft;exact⟨Jq,_,Ju,f⟩):p:=h
def sl(h:p:=by obtain⟨Jq,Ju,rfl,B3,P,EJ⟩:=h;exact⟨Jq,L KC,Ju,J,J,O,EJ⟩):p:=h
def vM(h:p:=by obtain⟨Jq,J0,Ju,rfl⟩:=JH;go_in;go_wp2;go_ret;exact⟨J,aE,aN _ _⟩):p:=h
def vJ(h:p:=by obtain⟨J0,Ju,f⟩:=n;simp only[bf,a2,bN,bT]at f;omega):p:=h
def vF(h:p:=by rcases f with f|f;exact .inl f;exact .inr (.inl f)):p:=h
def sp(h:p:=by rcases f with f|f;have:=IJ.oo;omega;have:=IK.oo;have:=IL.size;omega):p:=h
def KJ(h:p:=by rcases f with f|f|f;exact .inl (f▸CG.1);exact .inl (f▸CG.2);rcases CB with h|h;exact .inl (f▸Dg _ h);have:g1=D8:=h;exact .inr O):p:=h
def KI(h:p:=by rcases t with h|h;rw[show JN=64 by omega];rw[sm B7 JZ JN O,sm B7 JZ 64 O]):p:=h
def vw(h:p:=by rcases bW h.1 with⟨f,_⟩|⟨_,_,f,_⟩<;>simp only[bf]at f;simp at f;exact f.2.1):p:=h
def vz(h:p:=by rcases bW IM.own with⟨rfl,_⟩|⟨JG,Jv,rfl,_⟩<;>exact⟨_,_,_,J⟩):p:=h
def vq(h:p:=by rcases bW o with⟨rfl,_⟩|⟨JG,Jv,rfl,_⟩;exact⟨_,_,_,rfl⟩;exact⟨_,_,_,rfl⟩):p:=h
def dI(h:p:=by rfl):p:=h
def jI(h:p:=by rintro⟨_,_,h⟩;exact h):p:=h
def su(h:p:=by rw[ByteArray.toList_eq];rfl):p:=h
def vK(h:p:=by rw[GB,DI];exact DH.bw (an _)):p:=h
def vp(h:p:=by rw[GB,DI]at h;have P:=cz L h;rw[b',et]at P;omega):p:=h
def ly(h:p:=by rw[Da];exact aL _):p:=h
def c1(h:p:=by rw[Da];exact Ch):p:=h
def oZ(h:p:=by rw[dd];omega):p:=h
def sB(h:p:=by rw[eR h];simp[ah,h]):p:=h
def oW(h:p:=by rw[de,Da];exact aL _):p:=h
def qk(h:p:=by rw[de,dd];omega):p:=h
def qp(h:p:=by rw[de];omega):p:=h
def kw(h:p:=by rw[lz];omega):p:=h
def KN(h:p:=by rw[sm B7 JZ JZ (aL _)];exact ay.nil _ _):p:=h
def st(h:p:=by rw[bne_eq_false_iff_eq];omega):p:=h
def mJ(h:p:=by rw[bne_iff_ne];omega):p:=h
def nK(h:p:=by rw[Cw];exact ip _ _):p:=h
def oU(h:p:=by rw[g7,dd];omega):p:=h
def sz(h:p:=by rw[g7,ga];omega):p:=h
def mN(h:p:=by rw[D3.out]):p:=h
def jJ(h:p:=by rw[IC];omega):p:=h
def oY(h:p:=by rw[IN];omega):p:=h
def ql(h:p:=by rw[IP];exact an _):p:=h
def nO(h:p:=by rw[Dk];rfl):p:=h
def mI(h:p:=by rw[dH];omega):p:=h
def nJ(h:p:=by rw[ky];exact Ch):p:=h
def nL(h:p:=by rw[lA];omega):p:=h
def mO(h:p:=by rw[Ct];rfl):p:=h
def kz(h:p:=by rw[Cm];rfl):p:=h
def oV(h:p:=by rw[<-GA];exact aN _ _):p:=h
def qo(h:p:=by rw[<-GA];simp;omega):p:=h
def mK(h:p:=by rw[<-IF];exact IG):p:=h
def lx(h:p:=by show (Kw:N)≠Df;omega):p:=h
def D(h:p:=by simp):p:=h
def dX(h:p:=by simp at t;omega):p:=h
def vB(h:p:=by simp only[List.getD,e7 D5,Option.getD_some];exact dY D5):p:=h
def qh(h:p:=by simp only[Nat.min_def];split<;>omega):p:=h
def eQ(h:p:=by simp only[maxLen];omega):p:=h
def aF(h:p:=by simp;omega):p:=h
def g8(h:p:=by simp[Value.oneCell']):p:=h
def sw(h:p:=by simp[Value.ownBlock,f]):p:=h
def sx(h:p:=by simp[af];omega):p:=h
def vC(h:p:=by simp[af]at f;omega):p:=h
def qq(h:p:=by simp[aj]):p:=h
def sv(h:p:=by simp[B9,Cg,Cp,Cw]):p:=h
def lC(h:p:=by simp[be]):p:=h
def aE(h:p:=by simp[go_sem]):p:=h
def o0(h:p:=by simp[cv];rfl):p:=h
def sq(h:p:=by simp[results,results196,go_sem,D6]):p:=h
def vx(h:p:=by simp[results,results198,go_sem,D6]):p:=h
def vy(h:p:=by simp[results,results231,go_sem,D6]):p:=h
def vH(h:p:=by simp[results,results25,go_sem,Eb,Dc,Kg,Fq]):p:=h
def sr(h:p:=by simp[results,results261,go_sem,Dk]):p:=h
def vv(h:p:=by simp[results,results95,go_sem,II]):p:=h
def qi(h:p:=by simp[bu,bE,so,Value.oneCell']):p:=h
def hM(h:p:=by unfold Addr.add;split<;>simp_all):p:=h
def vr(h:p:=by unfold ay;rw[gK];rw[toList_madeCells_one]at h;rw[List.map_replicate];exact h):p:=h
def vu(h:p:=by unfold a8;rw[List.pairwise_map];exact(List.pairwise_lt_range.filter _).imp (λh=>by have:=h;simp;exact this)):p:=h
def qm(h:p:=by unfold dm;omega):p:=h
def vD(h:p:=by unfold b3;split;rename_i h;exact IQ _ (hO O);omega):p:=h
def bY(h:p:=by simp only[aw];first|exact dZ Ch|exact ea Ch O):p:=h
def sD(h:p:=by refine b4 λCQ B8=>?_;have⟨B9,Cg,Cp,Cw⟩:=KO (JC:=aa ac GX) (JD:=aa ac GY) (JE:=aa ac G0) (JF:=aa ac G2) (Jx:=S EY I9 E0) (JA:=S E1 E2 E3) (Kh:=S G6 J0 G7) B4 hF CV E4 G8 E5;have Ct:=B4 0 _ J;have Cv:=B4 1 _ J;have E6:=B4 2 _ J;have E7:=B4 3 _ J;have E8:=B4 4 _ J;have E9:=B4 5 _ J;have E':=B4 6 _ J;have Fa:=B4 7 _ J;have Fb:=B4 8 _ J;have Fc:=B4 9 _ J;have Fe:=B4 10 _ J;have Ff:=B4 11 _ J;have Fg:=B4 12 _ J;have Fh:=hF 0 O;have g1:=hF 1 O;have g2:=hF 2 O;have g3:=hF 3 O;have CW:=hF 4 O;have CK:=hF 5 O;have Fi:=hF 6 O;have Fj:=hF 7 O;have Fk:=hF 8 O;have Fl:=hF 9 O;have Fm:=hF 10 O;have Fo:=hF 11 O;have Fp:=hF 12 O;clear CI Ce El Em En DJ Fq;go_simp;refine B8 _ _ ?_;clear Ct Cv E6 E7 E8 E9 E' Fa Fb Fc Fe Ff Fg Fh g1 g2 g3 CW CK Fi Fj Fk Fl Fm Fo Fp;refine bc ?_;go_wp2;go_meet;exact⟨_,_,_,_,_,J,B9,Cg,Cp,E4,E5,Cw,KM⟩):p:=h
def vP(h:p:=by
 refine aU λCQ B8=>?_;go_simp;refine mF (G9.oo _ (an _)) λCX Dl Dm Ce ⟨CV,n⟩=>?_;have B5:Below (Kw:Nat) Kw CX:=q (an Kw) n;refine B8.oo _ _ (.mk B5) ?_;clear Fr Fs Ft Fu Fv Fw Fx Fy Fz FA FB;have DK:=CL.oo.1.bw B5;have Eo:=aY B5 CL.oo.1.lt CL.oo.2;have u6:=DK 6 _ rfl;have Ep:=CL.oo.1.lt;have m:=And.intro (DK.set 6 (.slice Dl Dm Ce) D) (And.intro (show(CX.setCell ⟨Dn,6,none⟩ (.slice Dl Dm Ce)).frozen? ⟨Dn,6,none⟩=false by rw[World.frozen?_setCell];exact Eo) (And.intro (CV.set (G':=λJN=>JN<(Kw:Nat)) ⟨Dn,6,none⟩ (.slice Dl Dm Ce) Ep (λJN t=>t)) ((M.bw (I':=λ_=>False) B5).trans (M.grown (I':=λJN=>JN=Dn) (bn CX ⟨Dn,6,none⟩ (.slice Dl Dm Ce)) (λJN f=>X f.symm)) (λ_ _ f=>f.elim) I2)));change H _ at m;clear CV n B5 DK Ep;iterate 6 refine mS ?_
 clear Eo u6;refine bc ?_;go_wp2;go_end0;exact⟨⟨_,rfl⟩,_,_,_,m.oo.1,m.oo.2.1,m.oo.2.2.1,m.oo.2.2.2⟩):p:=h
def vQ(h:p:=by
 change H _ at G;go_in;go_wp2;go_loopw [7,8,9,10,12] (λJs FC J3 FE JJ wr=>∃(JN:N) (KB KD:V) (IX:I) (I4:Bool),JJ=JN/\KB=J3/\KD=FE/\JN<=J0/\Js=IX/\FC=au I4/\(IX,I4)=dC J4 JB JN/\B Kw Kw wr) (λ_ _ _ _ JJ _=>J0-(aw JJ).toNat);exact⟨0,_,_,0,F,J,J,J,a3 _,J,J,J,aS _ _⟩;obtain⟨JN,KB,KD,IX,I4,rfl,rfl,rfl,t,rfl,rfl,CM,n⟩:=hrel;by_cases Ch:JN<J0
 ·have Ha:(JN:I)<J0:=by omega
  by_cases CZ:JN=J4
  ·have Es:=Q (sE J4 JB JN CZ);subst CZ;have FF:=Q CM;have B3:((JN:I)==(JN:I))=T:=by simp
   clear CM;go_wp2;go_roundw;case rel=>exact⟨JN+1,_,_,IX,I4,aK,J,J,O,J,J,by rw[Es];exact FF,n⟩
   simp[aw];omega
  have DL:=sF J4 JB JN CZ;rw[<-CM]at DL;have C0:=Q DL;have Et:=Q (G.oo wr JN n Ch CZ);have B3:((JN:I)==(J4:I))=F:=aF
  generalize JB JN=Jp at*;clear CM DL CZ;go_wp2_with fail;refine mU Et λKz Dp=>?_;have DM:=n.trans (Dp.mono n.size);clear n Dp;cases I4 with
   |false=>
    have P:=C0.oo;rw[am (.inl J)]at P;have C2:=Q P;clear P;go_wp2;go_roundw;case rel=>exact⟨JN+1,_,_,Jp,T,aK,J,J,O,J,J,C2.symm,DM⟩
    simp[aw];omega
   |true=>
    by_cases C3:Jp<IX
    ·have P:=C0.oo;rw[am (.inr C3)]at P;have C2:=Q P;have FH:decide (Jp<IX)=T:=by simpa using C3
     clear P C3;go_wp2;go_roundw;case rel=>exact⟨JN+1,_,_,Jp,T,aK,J,J,O,J,J,C2.symm,DM⟩
     simp[aw];omega
    have P:=C0.oo;rw[ak aF]at P;have C2:=Q P;have FH:decide (Jp<IX)=F:=X C3
    clear P C3;go_wp2;go_roundw;case rel=>exact⟨JN+1,_,_,IX,T,aK,J,J,O,J,J,C2.symm,DM⟩
    simp[aw];omega
 have FI:JN=J0:=O
 subst FI;have B6:H (g9 JN J4 JB=IX):=Q (by unfold g9;rw[<-CM]);clear CM;go_wp2;go_ret;rw[B6];exact⟨J,n⟩):p:=h
def vR(h:p:=by
 go_loopw [5,6] (λKl JJ wr=>∃(JN:N) (Kk:V),JJ=JN/\Kk=Kl/\JZ<=JN/\(JN<=64\/JN=JZ)/\ay wr Kw Kk (a8 B7 JZ JN)/\B Kw Kw wr) (λ_ JJ _=>64-(aw JJ).toNat);exact⟨JZ,_,J,J,aL _,.inr J,KN,aS _ _⟩;obtain⟨JN,Kl,rfl,rfl,DN,t,o,n⟩:=hrel;by_cases Ch:JN<64
 ·have DO:=Q DN;have DP:=Q Co;clear t DN Co;have Ci:=KP B7 (JN:I) wr C4;have Eu:nP B7 (JN:I)=B7.testBit JN:=by unfold nP e8;rw[dD O,dD O];simp
  rw[Eu]at Ci;clear Eu;cases Cy:B7.testBit JN with
   |true=>
    rw[Cy]at Ci;have C5:=Q Ci;have DQ:=Q (sG B7 JZ JN DO Cy);have CL:=Q (lD B7 JZ JN);clear Ci Cy;go_wp2_with fail;refine mR C5 ?_;go_wp2_with (at_builtin;refine hP J _ _ J wr Kw Kl (a8 B7 JZ JN) (JN:I) J J o (Y CL.oo) n.size ?_);intro Km Ev C6 CK Cq;rw[<-DQ]at C6;have Dr:=n.trans Cq;clear CK Cq o;go_wp2;go_roundw;case rel=>exact⟨JN+1,_,aK,J,Y DO.oo,.inl O,C6,Dr⟩
    simp[aw];omega
   |false=>
    rw[Cy]at Ci;have C5:=Q Ci;have DQ:=Q (qr B7 JZ JN Cy);clear Ci Cy;go_wp2_with fail;refine mR C5 ?_;go_wp2;go_roundw;case rel=>exact⟨JN+1,_,aK,J,Y DO.oo,.inl O,by rw[DQ];exact o,n⟩
    simp[aw];omega
 have Cr:a8 B7 JZ JN=a8 B7 JZ 64:=KI
 rw[Cr]at o;clear Cr t DN;have DP:=Q Co;clear Co;go_wp2;go_ret;exact⟨_,J,o,n⟩):p:=h
def vS(h:p:=by
 rcases(df (decide (0<=I7))).symm with B9|B9
 ·go_in;go_upto_region 1 with(fail)
  rw[R];go_wp2;go_ret;exact⟨cz (λJs=>aq (au Js)) (by simp[B9]),z⟩
 rcases(df (decide (I7<Jq))).symm with Cg|Cg
 ·go_in;go_upto_region 1 with(fail)
  rw[R];go_wp2;go_ret;exact⟨cz (λJs=>aq (au Js)) (by simp[B9,Cg]),z⟩
 rcases(df (decide (0<=FL))).symm with Cp|Cp
 ·go_in;go_upto_region 1 with(fail)
  rw[R];go_wp2;go_ret;exact⟨cz (λJs=>aq (au Js)) (by simp[B9,Cg,Cp]),z⟩
 rcases(df (decide (FL<Js))).symm with Cw|Cw
 ·go_in;go_upto_region 1 with(fail)
  rw[R];go_wp2;go_ret;exact⟨cz (λJs=>aq (au Js)) sv,z⟩
 go_in;go_upto_region 1 with(fail)
 rw[R];go_wp2;go_ret;exact⟨cz (λJs=>aq (au Js)) sv,z⟩):p:=h
def sH(h:p:=by
 have m:=CN.two CA;have Ew:=CA.aO.cell CN.c0 DR;have C7:=CA.aO.cell CN.c1 DR;have FM:=CA.aO.free CN.f0 CN.lt DR;have FN:=CA.aO.free CN.f1 CN.lt DR;have Ex:=Q CA.aO;change H _ at m;refine B8 _ _ ?_;clear CA Hb Hc;iterate 3 refine mS ?_
 refine gc ?_;clear Ew C7 FM FN;go_wp2;go_meet;exact⟨_,_,m,Hd _ _ _ Ex.out,He _ _ _ Ex.out⟩):p:=h
def hQ(h:p:=by simp only[aw];first|exact dZ Ch|exact ea Ch O):p:=h
def vT(h:p:=by
 rw[<-DS]at C8 DT⊢;cases Jj with
  |none=>have G:=Q (C8 J);clear C8 DT CV DS;go_wp2;go_ret;exact G
  |some J8=>
   have⟨DU,FO,CJ,CD,Ds,DV,DW,EA,EB,EC,ED⟩:=DT J;have G:=Q (U CJ (U CD (U Ds (U DV (U DW (U EA (U EB (U EC ED))))))));clear C8 DT CV DS CJ CD Ds DV DW EA EB EC ED;go_wp2;go_roundw;case rel=>exact⟨JL+1,DU,FO,aK,FP.1,G.1,G.2.1,G.2.2.1,G.2.2.2.1,G.2.2.2.2.1,G.2.2.2.2.2.1,G.2.2.2.2.2.2.1,G.2.2.2.2.2.2.2.1,G.2.2.2.2.2.2.2.2⟩
   simp only[aw];have:=FP.2;omega):p:=h
def vU(h:p:=by obtain⟨Cm,CC,Hf,Hg⟩:=C7.cells;have adA:=C7.set (S (A ⟨FQ,0,Z⟩) J0 FR) (S (A ⟨Xaa,0,Z⟩) J0 FT);obtain⟨Ct,Cv,_,_⟩:=adA.cells;change H _ at DU FU;clear Hh FV C7 adA;go_wp2_with fail;refine b0 (v:=ao #[S (A ⟨FQ,0,Z⟩) J0 FR,S (A ⟨Xaa,0,Z⟩) J0 FT]) (by simp[results,results62,go_sem,Ct,Cv]) J ⟨_,_,J,?_,?_⟩;rw[Dt.oo];exact DU.out;rw[Dt.oo];exact FU.out):p:=h
def vV(h:p:=by
 have z:=Q n;have CO:=Q o;have CP:JG<=(CX:Nat):=by have:=C9.oo.size;rw[Dt.oo]at this;exact this
 clear DS o n;go_wp2_with fail;refine mU C5.oo λHi DX=>?_;have FW:=Q (z.oo.trans (DX.mono z.oo.size));have FX:=Q ((CO.oo.bw DX).mono CP);clear DX CI Ce El Em En DJ FY FZ;go_wp2;go_ret2;exact⟨_,rfl,by rw[Dt.oo];exact FX.out,by rw[Dt.oo];exact C9.oo.trans (FW.out.mono CP)⟩):p:=h
def qs(h:p:=by
 go_wp2;go_roundw;case rel=>exact⟨JL+1,Y EI.oo,by rw[<-EI];go_num,F6⟩
 have:=EI.oo;have:=Hq;have:=Hr;simp[aw];omega):p:=h
def vX(h:p:=by
 go_wp2_with fail;refine mU Hs λF7 ⟨F8,CW⟩=>?_;have F9:=kC CW F' lx;have Ga:=n.grown CW n.size (λJN t=>dX);clear F' EJ CW;go_wp2;go_roundw;case rel=>exact⟨JN+1,O,aK,F8,Ga,F9,λJL Cs=>by rcases Nat.lt_succ_iff_lt_or_eq.1 Cs with h|rfl;exact Gb JL h;exact G⟩
 simp[aw];omega):p:=h
def o1(h:p:=by
 go_in;go_upto_region 1 with(fail)
 rw[R];go_wp2;go_ret;rw[B6];exact⟨J,B5⟩):p:=h
def vZ(h:p:=by
 obtain⟨CI,Ce,El,Em,En,DJ,FY,FZ⟩:=Hw;change H _ at R;go_in;go_upto_region 1 with(fail)
 rw[R];go_wp2_with fail;refine mE Hx λKz Kl ⟨o,Dp⟩=>?_;have CO:=Q (o.mono B5.size);have C':=Q (B5.trans (Dp.mono B5.size));go_wp2;go_ret2;exact⟨Kl,J,CO,C'⟩):p:=h
def o2(h:p:=by go_in;go_wp2_with fail;rw[R];go_wp2;go_ret;exact⟨nQ DP.symm,B5⟩):p:=h
def v1(h:p:=by
 intro Km Ev C6 CK Cq;rw[<-Du.oo]at C6;have Dr:=Ge.trans Cq;have HC:=(HD.oo.bw Dr).c3;clear CK Cq HE HF Ge;go_wp2;go_roundw;case rel=>exact⟨JN+1,_,Jj+IX-J',O,aK,rfl,by first|rfl|(congr 1;omega),Gf.oo.symm,C6,Dr⟩
 simp[aw];omega):p:=h
def nR(h:p:=by
 go_in;go_wp2;go_ret;try rw[B6]
 exact⟨J,aS _ _⟩):p:=h
def mP(h:p:=by go_wp2;go_ret;rw[B6];exact⟨J,aS _ _⟩):p:=h
def nS(h:p:=by go_in;go_wp2;go_ret2;rw[Dv.out];exact⟨rfl,rfl⟩):p:=h
def mQ(h:p:=by go_wp2;go_ret;rw[B6];exact⟨J,J⟩):p:=h
def v2(h:p:=by
 have JH:True:=trivial;clear JH;refine bv [0,101,2,3,4,5,6,8,9,10,11,107,112,13,14] ?_;iterate 15 refine mS ?_
 refine bc ?_;go_wp2;go_meet;exact⟨by rw[HH];first|(simp[Ew,C7];done)|(simp;omega),an _⟩):p:=h
def v4(h:p:=by
 unfold a8;rw[List.mem_map];constructor;rintro⟨JL,Cs,Dv⟩;have:JL=JN:=by have:(JL:I)=JN:=Dv;omega
 subst this;simp at Cs;exact Cs.2;rintro⟨B3,P⟩;exact⟨JN,by simp[t,B3,P],J⟩):p:=h
def v5(h:p:=by go_wp2_with fail;(try simp only[Exit.inBlock,Exit.then]);refine b0 (results_none J _ _ _) J ?_;have⟨I',Gg,_,_⟩:=HI.j;refine⟨⟨_,J⟩,I',?_⟩;rw[HJ,HK];simp;exact Gg):p:=h
def sJ(h:p:=by
 go_wp2;go_roundw;case rel=>exact⟨JN+1,_,_,O,aK,J,J,HL.symm,Gh⟩
 simp[aw];omega):p:=h
def v6(h:p:=by intro JG Jv Kx B3 D1 _ _;refine h _ _ _ _ ?_ D1 ((Below.refl IX Kw).grown D1 D3 (λJN t=>(World.ownsRow.lt o JN t).1));unfold aW;rw[List.length_append,Co];simpa[be]using B3):p:=h
def qt(h:p:=by go_wp2_with fail;gi_wp2;have D4:=G.oo;exact⟨D4.1,KG,KH⟩):p:=h
def sK(h:p:=by clear Dk CJ;exact b0 (v:=aZ #[ao #[S Z 0 0],(15:I)]) vv J G):p:=h
def v7(h:p:=by have m:=U (o.mono Gi.oo.size) (q Gi.oo Gj);change H _ at m;clear o Gj HN Gk Gl;go_wp2;go_meet;exact⟨_,_,_,J,by rw[DP];exact m.1,m.2⟩):p:=h
def qu(h:p:=by go_wp2;go_ret2;rw[Dv.out];exact⟨J,J⟩):p:=h
def nU(h:p:=by go_wp2;go_ret;rw[B6];exact⟨J,z⟩):p:=h
def sL(h:p:=by
 go_in;go_upto_region 1 with fail;rw[HO];go_wp2;go_ret;try rw[B6]
 exact⟨J,C9⟩):p:=h
def sM(h:p:=by go_in;go_wp2_with fail;refine mR Et ?_;go_wp2;go_ret;rw[C4.out];exact⟨J,J⟩):p:=h
def sN(h:p:=by go_wp2;go_ret;rw[B6.oo];exact⟨rfl,C9.oo.trans (C'.oo.mono C9.oo.size)⟩):p:=h
def v9(h:p:=by
 go_in;go_upto_region 1 with(fail)
 rw[R];go_wp2;go_ret;exact⟨cz (λJs=>aq (au Js)) (by simp[jL,B9,Cg,Cp,Cw,HQ]),z⟩):p:=h
def o3(h:p:=by go_wp2;go_ret2;exact⟨.of _ av,J⟩):p:=h
def v'(h:p:=by
 go_in;go_upto_region 1 with(fail)
 rw[R];go_wp2;go_ret;exact⟨cz (λJs=>aq (au Js)) (by simp[kD,B9,Cg,Cp,Cw]),z⟩):p:=h
def qv(h:p:=by go_in;go_wp2;go_ret;rw[Gf];exact⟨J,aS _ _⟩):p:=h
def lE(h:p:=by go_wp2;go_ret2;exact G.oo):p:=h
def wa(h:p:=by go_wp2;go_roundw;exact⟨JL+1,O,by first|exact Gn.oo|(rw[<-ev];exact Gn.oo),by have h:=HR.oo;exact h⟩;rw[HS.oo,HT.oo];omega):p:=h
def qw(h:p:=by first|exact dZ Gp|exact ea Gp O):p:=h
def wb(h:p:=by
 iterate 2 refine mS ?_
 refine bc ?_;clear Cm CC;go_wp2;go_meet;exact⟨_,_,_,_,J,J,Cr.1,Cr.2.1,Cr.2.2,aL _⟩):p:=h
def wd(h:p:=by
 conv=>lhs;rw[<-g' JJ J8,nT]
 rw[i1 oU,show JJ*2+JL-(be (J8.take JJ)).length=JL by rw[g7,dd];omega];exact Cs):p:=h
def qx(h:p:=by first|exact dZ D5|exact ea D5 O):p:=h
def we(h:p:=by refine wpQuiet_nil ?_;intro _ Gq;obtain⟨Gr,rfl⟩:=Gq;have D3:=B5.trans (Gr.bw.mono CP);go_wp2;go_ret;exact⟨J,D3⟩):p:=h
def wg(h:p:=by
 iterate 2 refine mS ?_
 refine bc ?_;clear Cm CC;go_wp2;go_meet;exact⟨_,_,_,_,J,J,Cr.1,Cr.2.1,Cr.2.2,O⟩):p:=h
def wh(h:p:=by
 go_wp2_with fail;refine mR HU ?_;go_wp2;go_roundw;case rel=>exact⟨JN+1,Jo,O,aK,J,C0.symm,dk⟩
 simp[aw];omega):p:=h
def wi(h:p:=by have EL:=Q (sO Jy Kw);rw[Cy]at EL;go_in;go_wp2_with fail;refine mR EL ?_;go_wp2;go_ret;rw[C5];exact⟨J,J⟩):p:=h
def wj(h:p:=by
 repeat(refine c2 ?_ (bn _ ⟨JG,_,Z⟩ _))
 exact⟨J,J,J,aL _,λ_ _ _=>rfl⟩):p:=h
def wk(h:p:=by go_wp2_with fail;have D6:=HV.oo;exact b0 (v:=aZ #[ao #[S Z 0 0],au F]) vy J m):p:=h
def wl(h:p:=by go_wp2;go_ret;exact⟨_,J,by rw[<-Es];exact CO.mono O,B5.trans ((C'.trans (z.mono HW)).mono CP)⟩):p:=h
def sP(h:p:=by go_quiet (fail);go_wp2;go_meet;exact⟨mN,HX.drewN _⟩):p:=h
def qy(h:p:=by go_wp2;go_end0;exact⟨⟨_,J⟩,Du⟩):p:=h
def qz(h:p:=by go_wp2;go_ret;rw[B6];exact⟨J,HY⟩):p:=h
def qA(h:p:=by go_wp2;go_ret;rw[B6];exact⟨J,HZ⟩):p:=h
def wm(h:p:=by
 cases D7:af Kl with
  |none=>exact .inl J
  |some JN=>exact .inr (by have:=h.lt JN D7;simp;omega)):p:=h
def qB(h:p:=by go_wp2;go_ret;exact .of _ (q C9 C')):p:=h
def sQ(h:p:=by simp at Cs;subst Cs;simp[Addr.add,World.cell?_alloc_new]):p:=h
def wp(h:p:=by
 clear h H2 o DH;go_wp2;go_roundw;case rel=>exact⟨JL+1,O,aK,H3,H4⟩
 simp[aw];omega):p:=h
def wq(h:p:=by go_wp2;go_ret2;exact⟨0,2,J,.inr (.inl ⟨H5,H6,J,J⟩),av,qC _ _ _⟩):p:=h
def ws(h:p:=by
 go_wp2;go_roundw;case rel=>exact⟨JN+1,trivial,O,aK,by rw[Da],H7⟩
 simp only[aw];omega):p:=h
def wt(h:p:=by
 go_wp2;go_roundw;case rel=>exact⟨JL+1,_,O,aK,J,H8.symm,trivial⟩
 simp[aw];omega):p:=h
def wu(h:p:=by rcases o.2 with⟨h,_⟩|⟨H9,H',Jw,D7,_,n,_⟩;cases h;cases D7;simp[aH,n]):p:=h
def wv(h:p:=by go_wp2;go_ret;exact⟨_,J,by rw[<-Gb];exact CO.mono CP,B5.trans (n.mono CP)⟩):p:=h
def ww(h:p:=by rw[<-EN];change H _ at EN;go_wp2;go_ret2;exact⟨Kl,by rw[<-EN];rfl,Ig.out,Ih.out⟩):p:=h
def sS(h:p:=by go_wp2;go_ret;exact⟨nQ B6.symm,Gh.out⟩):p:=h
def sT(h:p:=by go_wp2;go_ret2;rw[B6];exact⟨J,aS _ _⟩):p:=h
def wx(h:p:=by change H _ at Gu;clear Ii;go_wp2_with fail;rw[Gu];go_meet;exact⟨J,J⟩):p:=h
def wy(h:p:=by exact b0 (v:=aZ #[ao #[S Ij Ik Il],au F]) vx J m):p:=h
def wz(h:p:=by
 obtain⟨E1,E2,E3,rfl,_,_,_⟩:=EO.gr.open;obtain⟨EY,Im,E0,rfl,_,_,_⟩:=EO.cu.open;obtain⟨In,Io,Ip,rfl,_,_,_⟩:=h.open;have Fr:=Cb 0 _ rfl;have Fs:=Cb 1 _ rfl;have Ft:=Cb 2 _ rfl;have Fu:=Cb 3 _ rfl;have Fv:=Cb 4 _ rfl;have Fw:=Cb 5 _ rfl;have Fx:=Cb 6 _ rfl;have Fy:=Cb 7 _ rfl;have Fz:=Cb 8 _ rfl;have FA:=Cb 9 _ rfl;have FB:=Cb 10 _ rfl;have CL:=Q (And.intro Cb Gv);clear EO h FV Cb Gv;go_in;go_upto_region 0 with fail;refine bv [0,1,2,3,5,6,7,9,10,11,13,14,15,104,108,112,116,217,18,19,20,21,22,323] ?_;iterate 17 refine mS ?_
 exact vP):p:=h
def qD(h:p:=by
 go_in;go_upto_region 1 with(fail)
 rw[R];go_wp2;go_ret;exact⟨cz (λJs=>aq (au Js)) sv,z⟩):p:=h
def wA(h:p:=by
 go_in;go_upto_region 1 with(fail)
 rw[R];go_wp2;go_ret;exact⟨cz (λJs=>aq (au Js)) (by simp[B9,Cg,Cp]),z⟩):p:=h
def wB(h:p:=by
 go_in;go_upto_region 1 with(fail)
 rw[R];go_wp2;go_ret;exact⟨cz (λJs=>aq (au Js)) (by simp[B9,Cg]),z⟩):p:=h
def wC(h:p:=by
 go_in;go_upto_region 1 with(fail)
 rw[R];go_wp2;go_ret;exact⟨cz (λJs=>aq (au Js)) (by simp[B9]),z⟩):p:=h
def wD(h:p:=by
 go_wp2;go_roundw;case rel=>exact⟨JL+1,_,_,_,_,_,J,J,J,J,J,aK,O,Iq,Ir⟩
 exact bY):p:=h
def wE(h:p:=by
 change H _ at Du;go_wp2;go_roundw;case rel=>exact⟨JN+1,aK,O,by rw[Du],by rw[Du],F6,Is⟩
 exact bY):p:=h
def mW(h:p:=by go_wp2;go_ret;exact m):p:=h
def wF(h:p:=by
 go_wp2;go_roundw;case rel=>exact⟨JN+1,_,_,_,_,_,J,J,J,aK,O,It⟩
 exact bY):p:=h
def H(a:Prop):Prop:=a
def H.oo(a:H p):p:=a
def H.out(a:H p):p:=a
def Q(a:p):H p:=a
instance:Coe I V:=⟨aa ac⟩
instance:Coe N V:=⟨λa=>aa ac (a:I)⟩
instance:Coe N bQ:=⟨λa=>⟨a,0,Z⟩⟩
instance:Coe W N:=⟨λa=>a.heap.size⟩
def aJ(a:N):(0:I)<=a:=Int.natCast_nonneg a
def K{a:Type}(b:a):∃c,c=b:=⟨_,J⟩
def mU{b:cb}{c:FuncId}{args:Array V}{d:W->Prop}{e:bp->W->Prop}(f:ap b c args w λh a=>h=aq u/\d a)(j:∀a,d a->e (aq u) a):ap b c args w e:=f.mono λ_ a ⟨k,l⟩=>k▸j a l
def mR{c:cb}{d:FuncId}{args:Array V}{e:W->Prop}{f:bp->W->Prop}(b:ap c d args w λh a=>h=aq u/\e a)(j:f (aq u) x)(l:∀a,e a->a=x:=by intro _ b;first|exact b|exact b.symm):ap c d args w f:=b.mono λ_ a ⟨m,n⟩=>m▸l a n▸j
def mE{c:cb}{d:FuncId}{args:Array V}{e:Type}{f:e->V}{g:e->W->Prop}{h:bp->W->Prop}(i:ap c d args w λk b=>∃a,k=aq (f a)/\g a b)(l:∀b a,g a b->h (aq (f a)) b):ap c d args w h:=i.mono λ_ b ⟨a,m,n⟩=>m▸l b a n
def mF{e:cb}{f:FuncId}{args:Array V}{g h i:Type}{j:g->h->i->V}{k:g->h->i->W->Prop}{l:bp->W->Prop}(m:ap e f args w λo d=>∃a b c,o=aq (j a b c)/\k a b c d)(p:∀d a b c,k a b c d->l (aq (j a b c)) d):ap e f args w l:=m.mono λ_ d ⟨a,b,c,q,r⟩=>q▸p d a b c r
def I2.{d}{b:Sort d}{e c:b->Prop}(a:b)(_:e a)(f:c a):c a:=f
def cV(b: -9223372036854775808<=i)(c:i<=9223372036854775807):aB i=i:=by unfold aB;omega
def ae(a:ad)(b:N):I:=a.getD b 0
def e9{b:ad}(d:a<L b):ae b a=b[a]:=by simp[ae,d]
def jN(b:N->I)(c a:N)(d:a<c):ae ((List.range c).map b) a=b a:=by simp[ae,d]
def kE(a:ad)(b:N)(c:b<L a):a.take (b+1)=a.take b++[ae a b]:=by rw[e9 c,eR c]
def hO{KC:ad}{JN:N}(a:JN<L KC):ae KC JN∈KC:=by rw[e9 a];exact dY a
def o4{b c:ad}(e:L b=L c)(f:∀a,a<L b->ae b a=ae c a):b=c:=by apply List.ext_getElem e;intro a d g;have:=f a d;rwa [e9 d,e9 g]at this
def wH{b:ad}{J0:N}(d:a<J0):ae (b.take J0) a=ae b a:=by simp[ae,d]
def KS{KC:ad}{KD:I}:ae (KC++[KD]) (L KC)=KD:=by simp[ae]
def nV{c:ad}(g:a<L c):ae (c.set a i) b=if a=b then i else ae c b:=by simp only[ae,fU,List.getElem?_set];by_cases f:a=b;subst f;simp[g];simp[f]
def aX(g:W)(h:V)(a:ad):Prop:=∃(d:bz) (b:N),h=S d (L a) b/\L a<=b/\b<=9223372036854775807/\∀c,c<L a->∃e f,d=A ⟨e,f,Z⟩/\C g ⟨e,f+c,Z⟩=A (aa ac (ae a c))
def aX.nil(a:W):aX a (S Z 0 0) []:=⟨Z,0,J,D,D,λc b=>absurd b D⟩
def aX.bw{Kx:W}{b:ad}(g:aX w u b)(i:B w w Kx):aX Kx u b:=by obtain⟨j,k,l,m,n,o⟩:=g;refine⟨j,k,l,m,n,λc p=>?_⟩;have⟨d,e,ha,f⟩:=o c p;exact⟨d,e,ha,(i.cell (p:=⟨d,e+c,Z⟩) (aR w _ f)).trans f⟩
def aX.own{j:bj}{d:ad}(f:w.ownsRow a j 1 u b (d.map (aa ac))):aX w u d/\b=L d:=by
 have l:=λc=>f.cells (g:=c);obtain⟨m,n⟩:=f;have o:b=L d:=X m.symm
 subst o;refine⟨?_,J⟩;rcases n with⟨rfl,p⟩|⟨c,q,v,rfl,_,_,r,s,_⟩;rw[dn.1 p];exact aX.nil w;refine⟨A ⟨c,0,Z⟩,q,J,r,s,λe i=>⟨c,0,J,?_⟩⟩;have:=l c J e (ae d e) (by rw[List.getElem?_map,e7 i,e9 i];rfl);have ha:(⟨c,0,Z⟩:bQ).add e=⟨c,0+e,Z⟩:=hM
 rwa [ha]at this
def aX.open{KC:ad}(h:aX w u KC):∃(Jq:bz)(a Ju:N),u=S Jq a Ju/\L KC=a/\a<=9223372036854775807/\∀b,b<a->∃c d,Jq=A ⟨c,d,Z⟩/\C w ⟨c,d+b,Z⟩=A (aa ac (ae KC b)):=sl
def bn(a:W)(b:bQ)(c:V):a.grownBy (aj a b c) (A b.block):=⟨J,J,J,qq,λe _ d=>Below.heap_setCell _ _ _ _ (X d)⟩
def c2{d:W}{c:Option N}(a:w.grownBy x c)(b:x.grownBy d c):w.grownBy d c:=⟨b.os.trans a.os,b.tape.trans a.tape,b.output.trans a.output,a1 a.size b.size,λe f g=>(b.block e (cg f a.size) g).trans (a.block e f g)⟩
def dS{c:Option N}(a:B w w x):w.grownBy x c:=⟨a.os,a.tape,a.output,a.size,λe f _=>a.block e f⟩
def eb(b:B a w x)(f:N):B a w (x.drewN f):=⟨b.os,b.tape,b.output,b.size,b.block⟩
def s(d:B w w x){b:bQ}(c:C w b=A u):C x b=A u:=(d.cell (aR w b c)).trans c
def bk(f:B a w x)(j:b<a)(k:C w ⟨b,c,Z⟩=A u):C x ⟨b,c,Z⟩=A u:=(f.cell (p:=⟨b,c,Z⟩) j).trans k
def kC(c:w.grownBy x (A a)){b:bQ}(g:C w b=A u)(i:b.block≠a):C x b=A u:=c.cell g (X i)
def hR:(ab.info? 3).map (λa=>(a.zero,a.size,a.bytes))=A (A (aa ac 0),1,8):=aT
def KT(c:W)(d:V)(e:bj):∀a b,([d]:aP)[a]? =A b->(c.alloc (az #[d] e)).cell? ((⟨c,0,Z⟩:bQ).add a)=A b:=by
 intro a b Cs;match a,Cs with
  |0,Cs=>exact sQ
def ay(b:W)(c:N)(d:V)(a:ad):Prop:=b.ownsRow c 3 1 d (L a) (a.map (aa ac))
def ay.nil(a:W)(b:N):ay a b (S Z 0 0) []:=World.ownsRow_nil _ _ _ _
def ay.ints{b:ad}(c:ay w a u b):aX w u b:=(aX.own c).1
def ay.lt{c:ad}(d:ay w a u c):∀b,af u=A b->a<=b/\b<(w:N):=bI d
def ay.not{Kl:V}{c:ad}(h:ay w a Kl c)(g:b<a):af Kl=Z\/af Kl≠A b:=by
 exact wm
def ay.not'{d:ad}(e:ay w a u d)(j:b<a):A b≠af u:=by intro h;have:=e.lt b h.symm;omega
def ay.kept{c:ad}{r:Option N}(d:ay w a u c)(g:w.grownBy x r)(i:af u=Z\/af u≠r):ay x a u c:=gd d g i
def ay.bw{Kx:W}{Kl:V}{b:ad}(d:ay w a Kl b)(f:B w w Kx):ay Kx a Kl b:=gd (row:=Z) d (dS f) mM
def ay.mono{B':N}{c:ad}(d:ay w a u c)(n:B'<=a):ay w B' u c:=by obtain⟨h,b⟩:=d;refine⟨h,?_⟩;rcases b with b|⟨i,j,k,l,o,m⟩;exact .inl b;exact .inr ⟨i,j,k,l,O,m⟩
def hP{l:Array bd}{m:E bd}{e:bd}{f:a'}{n:bJ}(q:e.guard=Z)(i j:Operand)(r:e.op= .call {callee:=.builtin .append,args:=#[i,j],argTypes:=#[22,22]})(a:W)(b:N)(g:V)(d:ad)(k:I)(s:f.eval i=g)(t:f.eval j=S (A (a:N)) 1 1)(o:ay a b g d)(R:L d+1<=17592186044416)(u:b<=(a:N))(v:∀h c,ay c b h (d++[k])->a.grownBy c (af g)->B b a c->wpList ab l n m (f.put e.dst h) c):wpList ab l n (e::m) f (a.alloc (az #[k] 3)):=by have⟨w,x,y,z,D⟩:=ew hR;refine wpList_append_own _ q i j 22 r b 3 w (0:I) 1 8 underlying22 x y z D J av g (L d) (d.map (aa ac)) s (World.ownsRow.alloc o _) ⟨a,0,Z⟩ 1 1 [k] t J (KT a _ _) eP eQ O aF ?_;intro h c G H _;have p:=c2 (World.grownBy_alloc a _ _) H;refine v h c (by simpa[ay]using G) p ?_;exact(aS b a).grown p u (λK M=>(o.lt K M).1)
def ay.out{c:ad}(g:ay w a u c)(v:0<L c):∃b f,u=S (A ⟨b,0,Z⟩) (L c) f/\a<=b/\b<(w:N)/\L c<=f/\(∀d,d<L c->C w ⟨b,0+d,Z⟩=A (aa ac (ae c d))/\aH w ⟨b,0+d,Z⟩=F):=by have m:=g.ints;obtain⟨x,n⟩:=g;rcases n with⟨rfl,y⟩|⟨b,o,z,rfl,p,h,q,D,G,H⟩;omega;refine⟨b,o,J,p,(bM.1 h).1,q,λd r=>⟨?_,?_⟩⟩;obtain⟨K,f,i,_,_,s⟩:=m;simp only[bf]at i;obtain⟨rfl,_,_⟩:=i;have⟨M,O,j,t⟩:=s d r;simp only[a2,bN,bT]at j;obtain⟨rfl,rfl⟩:=j;exact t;simp[aH,h]
def ay.set{f:ad}(l:ay w a (S (A b) c d) f)(e:N)(h:I)(y:e<L f):ay (aj w ⟨b,0+e,Z⟩ h) a (S (A b) c d) (f.set e h):=by obtain⟨z,p⟩:=l;refine⟨D,?_⟩;rcases p with⟨q,_⟩|⟨H,K,r,j,s,t,u,v,x,k⟩;simp at q;simp only[bf,a2,bN,bT]at j;obtain⟨rfl,rfl,rfl⟩:=j;refine .inr ⟨b,d,r.setIfInBounds e h,D,s,?_,X u,v,X x,?_⟩;simp only[aj,Array.getElem?_modify];simp[t];simp only[Array.toList_setIfInBounds,b',Nat.mul_one]at k⊢;rw[List.take_set,k,List.map_set]
def aX.kept{b:ad}(d:aX w u b)(f:w.grownBy x (A a))(i:0<L b->af u≠A a):aX x u b:=by obtain⟨j,k,rfl,l,m,n⟩:=d;refine⟨j,k,J,l,m,λo p=>?_⟩;obtain⟨q,s,rfl,t⟩:=n o p;refine⟨q,s,J,kC f t ?_⟩;intro v;exact i O (by simp only[af];rw[<-v])
def wI(b:W)(d:aP)(f:bj):∀a c,d[a]? =A c->(b.alloc (az d.toArray f)).cell? ((⟨b,0,Z⟩:bQ).add a)=A c:=by
 intro a c e;have g:=(mX.1 e).1;have ha:(⟨b,0,Z⟩:bQ).add a=⟨b,a,Z⟩:=hM
 rw[ha];simp[World.cell?_alloc_new,e]
def q{b:W}(c:B w w x)(e:B x x b):B w w b:=c.trans (e.mono c.size)
def an(a:W):B a a a.drew:=eb (aS _ a) 1
def ip(a:W)(b:N):B a a (a.drewN b):=eb (aS _ a) b
def aN(a:W)(b:Obj):B a a (a.alloc b):=(aS _ _).alloc (aL _) _
def ax(c:W)(d:N)(e:aP):Prop:=∀a b,e[a]? =A b->C c ⟨d,a,Z⟩=A b
def ax.bw{Kx:W}{b:aP}(d:ax w a b)(f:B w w Kx):ax Kx a b:=λg h i=>s f (d g h i)
def ax.new(a:W)(b:aP)(d:bj):ax (a.alloc (az b.toArray d)) a b:=λc e f=>by
 have:=wI a b d c e f
 have ha:(⟨a,0,Z⟩:bQ).add c=⟨a,c,Z⟩:=hM
 rwa [ha]at this
def fr{x:Array Oper}{y:List Oper}{l:Oper}{m:Act}{z:Exit->Act->World->Prop}(H:l.guard=none)(p q:Operand)(n g:TypeId)(r:Value)(c bytes:Nat)(K:prog.underlying n=some (.slice g))(M:(prog.info? g).map (λh=>(h.zero,h.size,h.bytes))=some (some r,c,bytes))(P:r.cells.size=c)(Q:0<c)(R:bytes<=128)(U:l.op= .call {callee:=.builtin .append,args:=#[p,q],argTypes:=#[n,n]})(a:World)(d:Nat)(i:Value)(e:Nat)(s j:List Value)(k:Nat)(X:m.eval p=i)(Y:m.eval q= .slice (some k) 1 1)(ad:ax a k j)(ae:j.length=c)(ag:∀t∈j,t.oneCell'=true)(u:a.ownsRow d g c i e s)(ah:e+1<=1000000000000)(v:d<=(a:Nat))(ai:∀b o f,f.ownsRow d g c (.slice (some ⟨b,0,none⟩) (e+1) o) (e+1) (s++j)->a.grownBy f i.ownBlock->Below d a f->(i.ownBlock=some b\/b=a)->d<=b->b<f.heap.size->wpList prog x z y (m.put l.dst (.slice (some ⟨b,0,none⟩) (e+1) o)) f):wpList prog x z (l::y) m a:=by
 have⟨h,ak,al,am,an⟩:=ew M;refine wpList_append_lies a H p q n U d g h r c bytes K ak al am an P Q i e s X u ⟨k,0,none⟩ 1 1 j Y (by rw[ae];omega) (λw t ar=>?_) ag O eQ (by have:(e+1)*bytes<=1000000000000*128:=Nat.mul_le_mul ah R;omega) v a J ?_;have ha:(⟨k,0,none⟩:Addr).add w=⟨k,w,none⟩:=hM
 rw[ha];exact ad w t ar;intro b o f av D G ay;refine ai b o f av D ((aS d a).grown D v (λaA aC=>(u.lt aA aC).1)) G ?_ ay;rcases G with aD|rfl;exact(u.lt b aD).1;exact v
def qE{a c:Prop}[Decidable p](d:p)(e:a):if p then a else c:=by rw[am d];exact e
def hb{j:bj}{g:aP}(h:w.ownsRow a j b u c g):∀e f,g[e]? =A f->∃d,af u=A d/\C w ⟨d,e,Z⟩=A f:=by
 intro e f i;have m:=λd=>h.cells (g:=d);rcases h.2 with⟨rfl,n⟩|⟨d,t,v,rfl,_,_,x,y,z,D⟩;have o:=h.1;subst n;have p:g=[]:=X o
 subst p;simp at i;refine⟨d,J,?_⟩;have:=m d J e f i;have ha:(⟨d,0,Z⟩:bQ).add e=⟨d,0+e,Z⟩:=hM
 rw[ha,bX]at this;exact this
def bW{j:bj}{k:aP}(g:w.ownsRow a j b u c k):(u=S Z 0 0/\c=0)\/∃d e,u=S (A ⟨d,0,Z⟩) c e/\c<=e/\e<=9223372036854775807/\a<=d/\d<(w:N):=by have i:=g.lt;rcases g.2 with⟨rfl,n⟩|⟨d,e,r,rfl,_,_,o,p,s,t⟩;exact .inl ⟨J,n⟩;exact .inr ⟨d,e,J,o,p,(i d J).1,(i d J).2⟩
def ax.at{d:aP}(e:ax w a d)(b:N)(c:V)(h:d[b]? =A c):C w ⟨a,b,Z⟩=A c:=e b c h
def ax.lt{c:aP}(d:ax w a (u::c)):a<w:=aR w _ (d 0 u J)
def ax.set{e:aP}(f:ax w a e)(b:N)(h:V)(i:b<L e):ax (aj w ⟨a,b,Z⟩ h) a (e.set b h):=by intro j m c;by_cases d:b=j;subst d;rw[List.getElem?_set_self i]at c;cases c;exact World.cell?_setCell_same _ _ _ (f b _ (e7 i));rw[List.getElem?_set_ne d]at c;rw[cq _ _ _ _ (by intro k;first|exact d (cz Addr.off k)|exact d (cz Addr.off k).symm)];exact f j m c
def ax.kept{b:aP}{r:Option N}(d:ax w a b)(f:w.grownBy x r)(h:A a≠r):ax x a b:=λi j k=>f.cell (d i j k) h
def wJ{c d e f g:V}(h:ax w a [u,v,y,c,d,e,f,g])(u0 u1 u2 u3 u4 u5 u6 u7:V):ax ((((((((aj w a u0).setCell ⟨a,1,Z⟩ u1).setCell ⟨a,2,Z⟩ u2).setCell ⟨a,3,Z⟩ u3).setCell ⟨a,4,Z⟩ u4).setCell ⟨a,5,Z⟩ u5).setCell ⟨a,6,Z⟩ u6).setCell ⟨a,7,Z⟩ u7) a [u0,u1,u2,u3,u4,u5,u6,u7]:=(((((((h.set 0 u0 D).set 1 u1 D).set 2 u2 D).set 3 u3 D).set 4 u4 D).set 5 u5 D).set 6 u6 D).set 7 u7 D
def wK{Kn Ko Kp Kq Kr Ks:V}(c:ax w a [Kn,Ko,Kp,Kq,Kr,Ks])(u0 u1 u2 u3 u4 u5:V):ax ((((((aj w a u0).setCell ⟨a,1,Z⟩ u1).setCell ⟨a,2,Z⟩ u2).setCell ⟨a,3,Z⟩ u3).setCell ⟨a,4,Z⟩ u4).setCell ⟨a,5,Z⟩ u5) a [u0,u1,u2,u3,u4,u5]:=(((((c.set 0 u0 D).set 1 u1 D).set 2 u2 D).set 3 u3 D).set 4 u4 D).set 5 u5 D
def lF(c:ax w a [u,v])(u0 u1:V):ax ((aj w a u0).setCell ⟨a,1,Z⟩ u1) a [u0,u1]:=(c.set 0 u0 D).set 1 u1 D
def ax.lower{c:aP}(e:ax w b c)(g:B a w x)(j:b<a):ax x b c:=λk l m=>bk g j (e k l m)
def wL(a:W)(JG:N)(u0 u1 u2 u3 u4 u5 u6 u7:V):a.grownBy ((((((((aj a JG u0).setCell ⟨JG,1,Z⟩ u1).setCell ⟨JG,2,Z⟩ u2).setCell ⟨JG,3,Z⟩ u3).setCell ⟨JG,4,Z⟩ u4).setCell ⟨JG,5,Z⟩ u5).setCell ⟨JG,6,Z⟩ u6).setCell ⟨JG,7,Z⟩ u7) (A JG):=by
 exact wj
def wM(c:W)(b:N)(u0 u1 u2 u3 u4 u5 u6 u7:V)(d:a<=b):B a c ((((((((aj c b u0).setCell ⟨b,1,Z⟩ u1).setCell ⟨b,2,Z⟩ u2).setCell ⟨b,3,Z⟩ u3).setCell ⟨b,4,Z⟩ u4).setCell ⟨b,5,Z⟩ u5).setCell ⟨b,6,Z⟩ u6).setCell ⟨b,7,Z⟩ u7):=by
 repeat(refine Below.setCell ?_ (by exact d) _)
 exact aS _ _
def wN(a:W)(JG:N)(u0 u1 u2 u3 u4 u5:V):a.grownBy ((((((aj a JG u0).setCell ⟨JG,1,Z⟩ u1).setCell ⟨JG,2,Z⟩ u2).setCell ⟨JG,3,Z⟩ u3).setCell ⟨JG,4,Z⟩ u4).setCell ⟨JG,5,Z⟩ u5) (A JG):=by
 exact wj
def wO(c:W)(b:N)(u0 u1 u2 u3 u4 u5:V)(d:a<=b):B a c ((((((aj c b u0).setCell ⟨b,1,Z⟩ u1).setCell ⟨b,2,Z⟩ u2).setCell ⟨b,3,Z⟩ u3).setCell ⟨b,4,Z⟩ u4).setCell ⟨b,5,Z⟩ u5):=by
 repeat(refine Below.setCell ?_ (by exact d) _)
 exact aS _ _
def mY(b:W)(a:N)(u0 u1:V):b.grownBy ((aj b a u0).setCell ⟨a,1,Z⟩ u1) (A a):=c2 (bn _ ⟨a,0,Z⟩ _) (bn _ ⟨a,1,Z⟩ _)
def lG(c:W)(b:N)(u0 u1:V)(d:a<=b):B a c ((aj c b u0).setCell ⟨b,1,Z⟩ u1):=((aS a c).setCell (p:=⟨b,0,Z⟩) d _).setCell (p:=⟨b,1,Z⟩) d _
def o5{f:bj}{g:aP}(h:w.ownsRow a f c u d g)(v:b<=a):w.ownsRow b f c u d g:=by obtain⟨o,e⟩:=h;refine⟨o,?_⟩;rcases e with e|⟨p,q,r,s,x,t⟩;exact .inl e;exact .inr ⟨p,q,r,s,O,t⟩
def aY(f:B w w x)(h:a<w)(i:aH w ⟨a,b,Z⟩=F):aH x ⟨a,b,Z⟩=F:=(f.frozen (p:=⟨a,b,Z⟩) h).trans i
def ex(f:B a w x)(j:b<a)(k:aH w ⟨b,c,Z⟩=F):aH x ⟨b,c,Z⟩=F:=(f.frozen (p:=⟨b,c,Z⟩) j).trans k
def eS{d:Option N}(g:w.grownBy x d)(i:a<w)(j:A a≠d)(k:aH w ⟨a,b,Z⟩=F):aH x ⟨a,b,Z⟩=F:=(g.frozen_far ⟨a,b,Z⟩ i j).trans k
section
open Go.ChangeShapes Go.WideShapes Go.ChangeAt Go.RowKit
def own:ownKnob ab.godebug=Z:=by kernel_rfl
def KU:laidOutB ab=T:=by kernel_rfl
def wP{WN:Type}{WO:bj×V->WN}{b:cb}(l:laidOutB b=T){c m:W}(n:B c c m):∀{f:E bj} {h:aP} {i:E (DataW WN)} {g:E MemPlace},(∀a∈f,b.readableRec a=T/\a<b.types.size)->DataW.TrodAll WO b c 0 (λ_=>T) T f h i g->(∀d∈g,d.block<(c:N))->DataW.TrodAll WO b m 0 (λp=>decide (p<c)) T f h i g
 |[],_,_,_,_,e,_=>by obtain⟨rfl,rfl,rfl⟩:=trodAll_nil e;exact trodAll_mk0
 |a::f,_,_,_,j,e,o=>by obtain⟨s,h,t,i,g,u,rfl,rfl,rfl,q,r⟩:=trodAll_cons e;refine trodAll_cons_mk ?_ (wP l n (λa e=>j a (fs _ e)) r (λd k=>o d (List.mem_append_right _ k)));exact Below.trod l (j a (fV ..)).1 (j a (fV ..)).2 q n (λd k=>o d (List.mem_append_left _ k))
def wQ{WN:Type}{WO:bj×V->WN}{f:cb}{g:W}{h:N}{i:N->Bool}{j:Bool}:∀{a:E bj} {d:aP} {b:E (DataW WN)} {e:E MemPlace},DataW.TrodAll WO f g h i j a d b e->L b=L a
 |[],_,_,_,c=>by obtain⟨rfl,rfl,rfl⟩:=trodAll_nil c;rfl
 |l::a,_,_,_,c=>by obtain⟨m,d,n,b,e,o,rfl,rfl,rfl,p,k⟩:=trodAll_cons c;simp[wQ k]
def KV{WN:Type}{WO:TypeId×Value->WN}{b:Func}{e:ChangeSpec}{a h:World}{args:Array Value}{c:List (DataW WN)}{d:List MemPlace}(i:DataW.Whole WO prog b.params.toList e.vars false a args.toList c [] d)(l:DataW.TrodAll WO prog a 0 (λ_=>true) true b.params.toList args.toList c d)(m:∀j∈b.params.toList,prog.readableRec j=true/\j<prog.types.size)(n:b.resultTypes= #[4])(f:e.fn WN (c++[])={results:=[.lit (.bool true)],args:=c})(o:e.vars=[])(k:Below a a h):e.post WO prog b false true false false a args (.bool true) h:=by have p:∀g∈d,g.block<(a:Nat):=λg q=>i.lt g q;refine⟨c,[],d,[],d,[],i,?_,?_,?_,?_,λr=>by cases r⟩;rw[n,f];exact trodAll_mk1 (shut_bool underlying4 _);rw[f];exact wP KU k m l p;rw[f,o];rfl;exact k.frame _
section
variable{WN:Type}{WO:bj×V->WN}{WP:W}
def KW{j:Reach}{k:N}{b:V}{l:DataW WN}{m:E MemPlace}{n:Bool}(o:Value.okWide ab WP j k 22 b)(p:DataW.Trod WO ab WP 0 (λ_=>T) n 22 b l m):∃f:ad,aX WP b f/\(∀c∈f,(Lit.int ac c).wf=T):=by
 obtain⟨H,d,g,rfl⟩:=okWide_slice underlying22 o;obtain⟨fuel,q⟩:=p;rcases open_ints underlying22 underlying3 (by kernel_rfl) q with⟨a,_⟩|⟨c,K,M,e,a,_,P,r,s,_,t,u⟩;simp[Value.cells]at a;obtain⟨rfl,rfl,rfl⟩:=a;exact⟨[],aX.nil _,D⟩;simp[Value.cells]at a;obtain⟨rfl,rfl,rfl⟩:=a;have Q:L e=g:=X s
 have h:(e.take d).length=d:=by rw[dd];omega
 refine⟨e.take d,⟨A c,g,by rw[h],O,r,λv i=>?_⟩,λw x=>u w (List.mem_of_mem_take x)⟩;rw[h]at i;obtain⟨y,z,rfl,G⟩:=ints_at t O;refine⟨y,z,J,?_⟩;rw[wH i,G v O];rfl
end
end
section
open Go.ChangeShapes Go.WideShapes Go.ChangeAt Go.RowKit
def b6(a:br)(b:N):N:=a.getD b 0
def mZ{a:br}{b:N}(c:b<L a):b6 a b=a[b]:=by simp[b6,c]
def m0{a:br}{b:N}(c:b<L a):b6 a b∈a:=by rw[mZ c];exact dY c
def cA(WS:W)(g:V)(a:br):Prop:=∃(d:bz) (b:N),g=S d (L a) b/\L a<=b/\b<=9223372036854775807/\∀c,c<L a->∃e f,d=A ⟨e,f,Z⟩/\C WS ⟨e,f+c,Z⟩=A (aa b1 (b6 a c:I))
def cA.nil(WS:W):cA WS (S Z 0 0) []:=⟨Z,0,J,D,D,λb a=>absurd a D⟩
def cA.bw{WS Kx:W}{a:V}{b:br}(g:cA WS a b)(h:B WS WS Kx):cA Kx a b:=by obtain⟨i,j,k,l,m,n⟩:=g;refine⟨i,j,k,l,m,λc o=>?_⟩;have⟨d,e,ha,f⟩:=n c o;exact⟨d,e,ha,(h.cell (p:=⟨d,e+c,Z⟩) (aR WS _ f)).trans f⟩
def cA.open{WS:W}{h:V}{d:br}(j:cA WS h d):∃(e:bz)(f a:N),h=S e f a/\L d=f/\f<=a/\a<=9223372036854775807/\∀b,b<f->∃c g,e=A ⟨c,g,Z⟩/\c<(WS:N)/\C WS ⟨c,g+b,Z⟩=A (aa b1 (b6 d b:I)):=by obtain⟨e,a,rfl,k,l,m⟩:=j;refine⟨e,L d,a,J,J,k,l,λb n=>?_⟩;have⟨c,g,ha,i⟩:=m b n;exact⟨c,g,ha,aR WS _ i,i⟩
section
variable{WQ:Type}{WR:bj×V->WQ}{WS:W}
end
end
def KX:(ab.info? 59).map (λa=>(a.zero,a.size,a.bytes))=A (A (aa b1 0),1,8):=aT
def sU:(ab.info? 43).map (λa=>(a.zero,a.size,a.bytes))=A (A (ao #[(0:I),(0:I),S Z 0 0,(0:I),(0:I),(0:I),(0:I),(0:I)]),8,80):=aT
def wR:(ab.info? 22).map (λa=>(a.zero,a.size,a.bytes))=A (A (S Z 0 0),1,24):=aT
def o6(a:N):V:=aa b1 (a:I)
def b5(b:W)(c:N)(d:V)(a:br):Prop:=b.ownsRow c 59 1 d (L a) (a.map o6)
def b5.nil(a:W)(b:N):b5 a b (S Z 0 0) []:=World.ownsRow_nil _ _ _ _
def b5.words{b:br}(c:b5 w a u b):cA w u b:=by rcases bW c with⟨rfl,j⟩|⟨e,k,rfl,l,m,_,_⟩;rw[dn.1 j];exact cA.nil w;refine⟨A ⟨e,0,Z⟩,k,J,l,m,λf g=>⟨e,0,J,?_⟩⟩;have⟨p,h,n⟩:=hb c f (o6 (b6 b f)) (by rw[List.getElem?_map,e7 g,mZ g];rfl);simp only[af,a2]at h;subst h;rw[bX];exact n
def b5.lt{c:br}(d:b5 w a u c):∀b,af u=A b->a<=b/\b<(w:N):=bI d
def b5.kept{c:br}{r:Option N}(d:b5 w a u c)(g:w.grownBy x r)(i:af u=Z\/af u≠r):b5 x a u c:=gd d g i
def b5.bw{Kx:W}{Kl:V}{b:br}(d:b5 w a Kl b)(f:B w w Kx):b5 Kx a Kl b:=gd (row:=Z) d (dS f) mM
def b5.not{Kl:V}{c:br}(h:b5 w a Kl c)(g:b<a):af Kl=Z\/af Kl≠A b:=by
 exact wm
def b5.one{b:br}(c:b5 w a u b):u.oneCell'=T:=by rcases bW c with⟨rfl,_⟩|⟨g,h,rfl,_⟩<;>rfl
def b5.mono{B':N}{b:br}(c:b5 w a u b)(g:B'<=a):b5 w B' u b:=o5 c g
def sI{l:Array bd}{m:E bd}{f:bd}{g:a'}{n:bJ}(r:f.guard=Z)(j k:Operand)(s:f.op= .call {callee:=.builtin .append,args:=#[j,k],argTypes:=#[41,41]})(a:W)(b:N)(h:V)(c:br)(i:N)(t:g.eval j=h)(u:g.eval k=S (A (a:N)) 1 1)(o:b5 a b h c)(v:L c+1<=1000000000000)(w:b<=(a:N))(x:∀e p d,b5 d b (S (A ⟨e,0,Z⟩) (L c+1) p) (c++[i])->a.grownBy d (af h)->B b a d->b<=e->e<d.heap.size->wpList ab l n m (g.put f.dst (S (A ⟨e,0,Z⟩) (L c+1) p)) d):wpList ab l n (f::m) g (a.alloc (az #[aa b1 (i:I)] 59)):=by refine fr r j k 41 59 (aa b1 0) 1 8 underlying41 KX J av av s _ b h (L c) (c.map o6) [o6 i] a t u (ax.new a [o6 i] _) J eP (World.ownsRow.alloc o _) v aF ?_;intro e y d z D Q R G H;have q:=c2 (World.grownBy_alloc a _ _) D;refine x e y d (by simpa[b5]using z) q ((aS b a).grown q w (λK M=>(o.lt K M).1)) G H
structure Cu where
 kd:I
 dm:I
 ps:br
 rt:I
 sz:I
 st:I
 ru:I
 hd:I
abbrev a0:=E Cu
instance:Inhabited Cu:=⟨⟨0,0,[],0,0,0,0,0⟩⟩
def aQ(a:a0)(b:N):Cu:=a.getD b default
def wS{b:a0}(d:a<L b):aQ b a=b[a]:=by simp[aQ,d]
def wT{b:a0}(c:a<L b):aQ b a∈b:=by rw[wS c];exact dY c
def sV{b d:a0}(e:a<L b):aQ (b++d) a=aQ b a:=by simp[aQ,List.getElem?_append,e]
def sW{a:a0}{b:Cu}:aQ (a++[b]) (L a)=b:=by simp[aQ]
def eT(a:Cu)(b:V):aP:=[a.kd,a.dm,b,a.rt,a.sz,a.st,a.ru,a.hd]
def sX{b:Cu}(e:b5 w a u b.ps):∀c∈eT b u,c.oneCell'=T:=by intro c d;simp only[eT,cK,List.not_mem_nil,or_false]at d;rcases d with rfl|rfl|rfl|rfl|rfl|rfl|rfl|rfl<;>first|rfl|exact e.one
structure kF(a:W)(b c:N)(d:Cu)(e:V):Prop where
 c0:C a ⟨b,c,Z⟩=A (aa ac d.kd)
 c1:C a ⟨b,c+1,Z⟩=A (aa ac d.dm)
 c2:C a ⟨b,c+2,Z⟩=A e
 c3:C a ⟨b,c+3,Z⟩=A (aa ac d.rt)
 c4:C a ⟨b,c+4,Z⟩=A (aa ac d.sz)
 c5:C a ⟨b,c+5,Z⟩=A (aa ac d.st)
 c6:C a ⟨b,c+6,Z⟩=A (aa ac d.ru)
 c7:C a ⟨b,c+7,Z⟩=A (aa ac d.hd)
 ft:cA a e d.ps
def kF.lt{d:Cu}(e:kF w a b d u):a<w:=aR w _ e.c0
def kF.bw{Kx:W}{e:Cu}(c:kF w a b e u)(d:B w w Kx):kF Kx a b e u:=⟨s d c.c0,s d c.c1,s d c.c2,s d c.c3,s d c.c4,s d c.c5,s d c.c6,s d c.c7,c.ft.bw d⟩
def bG(g:W)(h:V)(a:a0):Prop:=∃(d:bz) (b:N),h=S d (L a) b/\L a<=b/\b<=9223372036854775807/\∀c,c<L a->∃e f i,d=A ⟨e,f,Z⟩/\kF g e (f+c*8) (aQ a c) i
def bG.nil(a:W):bG a (S Z 0 0) []:=⟨Z,0,J,D,D,λc b=>absurd b D⟩
def bG.bw{Kx:W}{a:a0}(c:bG w u a)(e:B w w Kx):bG Kx u a:=by obtain⟨f,g,h,i,j,k⟩:=c;refine⟨f,g,h,i,j,λl m=>?_⟩;have⟨n,o,p,ha,q⟩:=k l m;exact⟨n,o,p,ha,q.bw e⟩
def bG.open{c:a0}(k:bG w u c):∃(d:bz)(e g:N),u=S d e g/\L c=e/\e<=9223372036854775807/\∀a,a<e->∃b f h,d=A ⟨b,f,Z⟩/\b<(w:N)/\kF w b (f+a*8) (aQ c a) h:=by obtain⟨d,g,rfl,o,p,m⟩:=k;refine⟨d,L c,g,J,J,O,λa n=>?_⟩;have⟨b,f,h,ha,j⟩:=m a n;exact⟨b,f,h,ha,j.lt,j⟩
def hS(a:a0)(c:aP):aP:=(List.range (L a)).flatMap λb=>eT (aQ a b) (c.getD b undef)
def sY(b:N->aP)(c:∀d,(b d).length=8)(a:N):((List.range a).flatMap b).length=8*a:=by
 induction a with
  |zero=>rfl
  |succ a e=>rw[fu,List.flatMap_append,bL,e];simp[c];omega
def KY(b:N->aP)(d:∀a,(b a).length=8)(c a e:N)(h:a<c)(i:e<8):((List.range c).flatMap b)[a*8+e]? =(b a)[e]? :=by
 induction c with
  |zero=>omega
  |succ c f=>
   rw[fu,List.flatMap_append];by_cases g:a<c;rw[jO (by rw[sY b d];omega)];exact f g;have:a=c:=O
   subst this;rw[i1 (by rw[sY b d];omega),sY b d];simp only[List.flatMap_cons,List.flatMap_nil,e'];congr 1;omega
def KZ(b:a0)(d:aP)(a c:N)(e:a<L b)(f:c<8):(hS b d)[a*8+c]? =(eT (aQ b a) (d.getD a undef))[c]? :=KY _ (λ_=>rfl) _ _ _ e f
def K0(a:a0)(b:aP)(c:Cu)(d:V)(e:L b=L a):hS (a++[c]) (b++[d])=hS a b++eT c d:=by
 unfold hS;rw[bL,eu,fu,List.flatMap_append];congr 1;rw[List.flatMap_def,List.flatMap_def];congr 1;apply List.map_congr_left;intro g h;have f:g<L a:=X h
 rw[sV f];simp[List.getD,List.getElem?_append,e,f];simp only[List.flatMap_cons,List.flatMap_nil,e',sW];simp[List.getD,<-e]
def cD(d:W)(e:N)(f:V)(a:a0):Prop:=∃b:aP,L b=L a/\d.ownsRow e 43 8 f (L a) (hS a b)/\∀c,c<L a->b5 d e (b.getD c undef) (aQ a c).ps/\∀g,af f=A g->(b.getD c undef).ownBlock≠A g
def cD.nil(a:W)(b:N):cD a b (S Z 0 0) []:=⟨[],J,World.ownsRow_nil _ _ _ _,λd c=>absurd c D⟩
def cD.lt{d:a0}(b:cD w a u d):∀c,af u=A c->a<=c/\c<(w:N):=by obtain⟨h,_,b,_⟩:=b;exact bI b
def cD.Wj{e:a0}(f:cD w a u e):bG w u e:=by
 obtain⟨i,v,f,hp⟩:=f;rcases bW f with⟨rfl,n⟩|⟨j,o,rfl,p,q,_,_⟩;rw[dn.1 n];exact bG.nil w;refine⟨A ⟨j,0,Z⟩,o,J,p,q,λc k=>⟨j,0,i.getD c undef,J,?_⟩⟩;have b:∀d g,d<8->(eT (aQ e c) (i.getD c undef))[d]? =A g->C w ⟨j,0+c*8+d,Z⟩=A g:=λd g r s=>by have⟨x,l,b⟩:=hb f (c*8+d) g (by rw[KZ e i c d k r];exact s);simp only[af,a2]at l;subst l;rw[show 0+c*8+d=c*8+d by omega];exact b
 exact⟨b 0 _ av J,b 1 _ av J,b 2 _ av J,b 3 _ av J,b 4 _ av J,b 5 _ av J,b 6 _ av J,b 7 _ av J,(hp c k).1.words⟩
def cD.kept{h:a0}{r:Option N}(c:cD w a u h)(k:w.grownBy x r)(l:∀b,r=A b->b<a):cD x a u h:=by
 have p:=c.lt;obtain⟨m,q,c,hp⟩:=c;refine⟨m,q,gd c k ?_,λd e=>⟨(hp d e).1.kept k ?_,(hp d e).2⟩⟩;cases f:af u with
 |none=>exact .inl J
 |some b=>exact .inr (λg=>bi (l b g.symm) ((p b f).1))
 cases f:(m.getD d undef).ownBlock with
 |none=>exact .inl J
 |some b=>exact .inr (λg=>bi (l b g.symm) (((hp d e).1.lt b f).1))
def cD.bw{Kx:W}{b:a0}(d:cD w a u b)(g:B w w Kx):cD Kx a u b:=d.kept (r:=Z) (dS g) D
def cD.push{e:a0}{o:Cu}{g cap:N}{h:aP}(p:L h=L e)(hp:∀f,f<L e->b5 w a (h.getD f undef) (aQ e f).ps/\∀d,af u=A d->(h.getD f undef).ownBlock≠A d)(M:b5 w a v o.ps)(P:∀d,af u=A d->af v≠A d)(Q:x.ownsRow a 43 8 (S (A g) (L e+1) cap) (L e+1) (hS e h++eT o v))(R:w.grownBy x (af u))(y:af u=A g\/g=w):cD x a (S (A g) (L e+1) cap) (e++[o]):=by
 refine⟨h++[v],by simp[p],by rw[K0 e h o v p];simpa using Q,λf U=>?_⟩;have D:∀(j:V) (z:br),b5 w a j z->(∀d,af u=A d->af j≠A d)->b5 x a j z/\∀d,(S (A g) (L e+1) cap).ownBlock=A d->af j≠A d:=by
  intro j z G H;refine⟨G.kept R ?_,λd K k=>?_⟩;cases X:af u with
  |none=>cases (af j)<;>simp
  |some d=>exact .inr (H d X)
  simp only[af,a2]at K;subst K;rcases y with y|rfl;exact H g y k;have:=(G.lt _ k).2;omega
 rw[bL,eu]at U;by_cases r:f<L e;rw[sV r];have k:(h++[v]).getD f undef=h.getD f undef:=by simp[List.getD,List.getElem?_append,p,r]
 rw[k];exact D _ _ (hp f r).1 (hp f r).2;have:f=L e:=O
 subst this;rw[sW];have k:(h++[v]).getD (L e) undef=v:=by simp[List.getD,<-p]
 rw[k];exact D _ _ M P
def al(a:ag)(b:N):a4:=a.getD b (0,0)
def jP{b:ag}(d:a<L b):al b a=b[a]:=by simp[al,d]
def kG{b:ag}(c:a<L b):al b a∈b:=by rw[jP c];exact dY c
def iq(a:ag)(b:N)(c:b<L a):a.take (b+1)=a.take b++[al a b]:=by rw[jP c,eR c]
def ba(f:W)(h:V)(a:ag):Prop:=∃(g:bz) (c:N),h=S g (L a) c/\L a<=c/\c<=9223372036854775807/\∀b,b<L a->∃d e,g=A ⟨d,e,Z⟩/\C f ⟨d,e+b*2,Z⟩=A (aa ac (al a b).1)/\C f ⟨d,e+b*2+1,Z⟩=A (aa ac (al a b).2)
def ba.nil(a:W):ba a (S Z 0 0) []:=⟨Z,0,J,D,D,λc b=>absurd b D⟩
def ba.bw{Kx:W}{a:ag}(d:ba w u a)(c:B w w Kx):ba Kx u a:=by obtain⟨f,g,h,i,j,k⟩:=d;refine⟨f,g,h,i,j,λl m=>?_⟩;have⟨n,o,ha,p,g1⟩:=k l m;exact⟨n,o,ha,s c p,s c g1⟩
def ba.open{KC:ag}(h:ba w u KC):∃(Jq:bz)(b Ju:N),u=S Jq b Ju/\L KC=b/\b<=9223372036854775807/\∀a,a<b->∃c d,Jq=A ⟨c,d,Z⟩/\C w ⟨c,d+a*2,Z⟩=A (aa ac (al KC a).1)/\C w ⟨c,d+a*2+1,Z⟩=A (aa ac (al KC a).2):=sl
def be(b:ag):aP:=b.flatMap λa=>[a.1,a.2]
def sZ(b:ag)(a:a4):be (b++[a])=be b++[aa ac a.1,aa ac a.2]:=lC
def g7(a:ag):(be a).length=2*L a:=by
 induction a with
  |nil=>rfl
  |cons b a c=>simp[be]at*;omega
def s0(b:ag)(a:N)(d:a<L b):(be b)[a*2]? =A (aa ac (al b a).1)/\(be b)[a*2+1]? =A (aa ac (al b a).2):=by
 induction b generalizing a with
  |nil=>simp at d
  |cons c b e=>
   match a with
    |0=>simp[be,al]
    |a+1=>
     have f:be (c::b)=aa ac c.1::aa ac c.2::be b:=J;rw[f,show(a+1)*2=a*2+1+1 by omega,show a*2+1+1+1=(a*2+1)+1+1 by omega];simp only[List.getElem?_cons_succ];have g:al (c::b) (a+1)=al b a:=by simp[al]
     rw[g];exact e a (X d)
def aW(b:bj)(c:W)(d:N)(e:V)(a:ag):Prop:=c.ownsRow d b 2 e (L a) (be a)
def aW.nil(a:bj)(b:W)(c:N):aW a b c (S Z 0 0) []:=World.ownsRow_nil _ _ _ _
def aW.di{j:bj}{c:ag}(e:aW j w a u c):ba w u c:=by rcases bW e with⟨rfl,l⟩|⟨h,m,rfl,n,o,_,_⟩;rw[dn.1 l];exact ba.nil w;refine⟨A ⟨h,0,Z⟩,m,J,n,o,λd i=>⟨h,0,J,?_,?_⟩⟩;have⟨p,b,f⟩:=hb e (d*2) _ (s0 c d i).1;simp only[af,a2]at b;subst b;rw[bX];exact f;have⟨p,b,f⟩:=hb e (d*2+1) _ (s0 c d i).2;simp only[af,a2]at b;subst b;rw[bX];exact f
def aW.lt{c:bj}{d:ag}(e:aW c w a u d):∀b,af u=A b->a<=b/\b<(w:N):=bI e
def aW.kept{c:bj}{d:ag}{r:Option N}(e:aW c w a u d)(h:w.grownBy x r)(j:af u=Z\/af u≠r):aW c x a u d:=gd e h j
def aW.bw{b:bj}{Kx:W}{Kl:V}{c:ag}(e:aW b w a Kl c)(g:B w w Kx):aW b Kx a Kl c:=gd (row:=Z) e (dS g) mM
def aW.mono{b:bj}{B':N}{c:ag}(d:aW b w a u c)(h:B'<=a):aW b w B' u c:=o5 d h
def wU{q:Array Oper}{r:List Oper}{g:Oper}{h:Act}{s:Exit->Act->World->Prop}(w:g.guard=none)(m n:Operand)(i e:TypeId)(o:Value)(x:prog.underlying i=some (.slice e))(y:(prog.info? e).map (λp=>(p.zero,p.size,p.bytes))=some (some o,2,16))(z:o.cells.size=2)(D:g.op= .call {callee:=.builtin .append,args:=#[m,n],argTypes:=#[i,i]})(a:World)(b:Nat)(j:Value)(c:List (Int×Int))(k l:Int)(G:h.eval m=j)(H:h.eval n= .slice (some (a:Nat)) 1 1)(t:aW e a b j c)(K:c.length+1<=1000000000000)(M:b<=(a:Nat))(O:∀f u d,aW e d b (.slice (some ⟨f,0,none⟩) (c.length+1) u) (c++[(k,l)])->a.grownBy d j.ownBlock->Below b a d->b<=f->f<d.heap.size->wpList prog q s r (h.put g.dst (.slice (some ⟨f,0,none⟩) (c.length+1) u)) d):wpList prog q s (g::r) h (a.alloc (.cells #[k,l] e)):=by refine fr w m n i e o 2 16 x y z av av D _ b j c.length (be c) [k,l] a G H (ax.new a [k,l] _) J kA (World.ownsRow.alloc t _) K aF ?_;intro f P d Q R ah ai U X;have v:=c2 (World.grownBy_alloc a _ _) R;refine O f P d (by simpa[aW,sZ]using Q) v ((aS b a).grown v M (λY ad=>(t.lt Y ad).1)) U X
def bo(a:ai)(b:N):ad:=a.getD b []
def wV{b:ai}(c:L b<=a):bo b a=[]:=by simp[bo,c]
def m1{b:ad}(c:L b<=a):ae b a=0:=by simp[ae,c]
def bt(d:W)(i:V)(a:ai):Prop:=∃(e:bz) (b:N),i=S e (L a) b/\L a<=b/\b<=9223372036854775807/\∀c,c<L a->∃f g h,e=A ⟨f,g,Z⟩/\C d ⟨f,g+c,Z⟩=A h/\aX d h (bo a c)
def bt.nil(a:W):bt a (S Z 0 0) []:=⟨Z,0,J,D,D,λc b=>absurd b D⟩
def bt.bw{Kx:W}{b:ai}(h:bt w u b)(c:B w w Kx):bt Kx u b:=by obtain⟨j,k,l,m,n,o⟩:=h;refine⟨j,k,l,m,n,λd p=>?_⟩;have⟨e,f,q,ha,g,r⟩:=o d p;exact⟨e,f,q,ha,(c.cell (p:=⟨e,f+d,Z⟩) (aR w _ g)).trans g,r.bw c⟩
def bt.open{d:ai}(p:bt w u d):∃(h:bz)(i m:N),u=S h i m/\L d=i/\i<=9223372036854775807/\∀b,b<i->∃e j k c n,h=A ⟨e,j,Z⟩/\e<(w:N)/\C w ⟨e,j+b,Z⟩=A (S k c n)/\(bo d b).length=c/\c<=9223372036854775807/\∀f,f<c->∃g l,k=A ⟨g,l,Z⟩/\g<(w:N)/\C w ⟨g,l+f,Z⟩=A (aa ac (ae (bo d b) f)):=by obtain⟨h,m,rfl,D,G,r⟩:=p;refine⟨h,L d,m,J,J,O,λb s=>?_⟩;have⟨e,j,H,ha,o,t⟩:=r b s;obtain⟨k,c,n,rfl,v,x,y⟩:=t.open;refine⟨e,j,k,c,n,ha,aR w _ o,o,v,x,λf z=>?_⟩;have⟨g,l,g1,g2⟩:=y f z;exact⟨g,l,g1,aR w _ g2,g2⟩
def bC(c:ai)(a b:I):I:=if 0<=a/\0<=b then ae (bo c a.toNat) b.toNat else 0
def K1(a:ai)(b c:N):bC a b c=ae (bo a b) c:=by unfold bC;rw[am O,cW,cW]
def wW(c:ai)(a b:I)(d:a<0\/b<0):bC c a b=0:=by unfold bC;rw[ak O]
structure ci(a:W)(b:N)(c f1 d e f g:V):Prop where
 c0:C a b=A c
 c1:C a ⟨b,1,Z⟩=A f1
 c2:C a ⟨b,2,Z⟩=A d
 c3:C a ⟨b,3,Z⟩=A e
 c4:C a ⟨b,4,Z⟩=A f
 c5:C a ⟨b,5,Z⟩=A g
def ci.lt{c d e:V}(f:ci w a u v y c d e):a<w:=aR w _ f.c0
def ci.kept{e f g:V}{row:Option N}(b:ci w a u v y e f g)(c:w.grownBy x row)(d:A a≠row):ci x a u v y e f g:=⟨c.cell b.c0 d,c.cell b.c1 d,c.cell b.c2 d,c.cell b.c3 d,c.cell b.c4 d,c.cell b.c5 d⟩
def ci.bw{Kx:W}{b c d:V}(f:ci w a u v y b c d)(j:B w w Kx):ci Kx a u v y b c d:=f.kept (row:=Z) (dS j) D
def bR(a:W)(c f1 d e f g:V):∃b,a.alloc (az #[c,f1,d,e,f,g] 27)=b/\B a a b/\b.heap.size=(a:N)+1/\ci b a c f1 d e f g:=⟨_,J,(aS _ _).alloc (aL _) _,D,⟨aE,aE,aE,aE,aE,aE⟩⟩
def lH(l m n o:I)(p i:V)(d:ai)(e b:I)(f:W)(w:bt f i d):ap ab 160 #[ao #[l,m,n,o,p,i],e,b] f λx y=>x=aq (bC d e b)/\B f f y:=by
 have⟨U,R,B5,Y,z⟩:=bR f l m n o p i;obtain⟨ad,g,ae,rfl,q,ag,r⟩:=(w.bw B5).open;have ah:=z.c5;change H _ at R q r;by_cases ha:e<0
 ·have s:decide (e<0)=T:=by simpa using ha
  have B6:=Q (wW d e b (.inl ha));exact o1
 obtain⟨a,rfl⟩:=dw (bh (0<=e));by_cases j:g<=a
 ·have B6:H (bC d (a:I) b=0):=Q (by unfold bC;split;rw[cW,wV (by rw[q];exact j)];rfl;rfl);have s:decide ((a:I)<0)=F:=by simp
  have G:decide (g<=a)=T:=X j
  exact o1
 obtain⟨ak,al,am,h,an,rfl,ar,av,t,ax,u⟩:=r a O;have G:decide (g<=a)=F:=X j
 have s:decide ((a:I)<0)=F:=D
 have ay:=aJ a;have aA:(a:I)<g:=O
 change H _ at t u;by_cases v:b<0
 ·have K:decide (b<0)=T:=by simpa using v
  have B6:=Q (wW d a b (.inr v));exact o1
 obtain⟨c,rfl⟩:=dw (bh (0<=b));have B6:=Q (K1 d a c);have K:decide ((c:I)<0)=F:=D
 by_cases k:h<=c
 ·have M:decide (h<=c)=T:=by simpa using k
  have P:=Q (m1 (by rw[t];exact k));go_in;go_upto_region 1 with(fail)
  rw[R];go_wp2;go_ret;rw[B6,P];exact⟨J,B5⟩
 obtain⟨aC,aD,rfl,aE,aF⟩:=u c O;have M:decide (h<=c)=F:=X k
 have aG:=aJ c;have aI:(c:I)<h:=O
 exact o1
def aC(a:aV)(b:N):ar:=a.getD b []
def ah(a:ar)(b:N):ag:=a.getD b []
def K2{b:ar}{d:ag}(e:a<L b):ah (b++[d]) a=ah b a:=by simp[ah,List.getElem?_append,e]
def K3{a:ar}{b:ag}:ah (a++[b]) (L a)=b:=by simp[ah]
def bb(c:W)(h:V)(a:ar):Prop:=∃(d:bz) (i:N),h=S d (L a) i/\L a<=1000000/\∀b,b<L a->∃e f g,d=A ⟨e,f,Z⟩/\C c ⟨e,f+b,Z⟩=A g/\ba c g (ah a b)
def bb.bw{Kx:W}{a:ar}(d:bb w u a)(c:B w w Kx):bb Kx u a:=by obtain⟨f,g,h,i,j⟩:=d;refine⟨f,g,h,i,λk l=>?_⟩;have⟨m,n,o,ha,p,g1⟩:=j k l;exact⟨m,n,o,ha,s c p,g1.bw c⟩
def bb.open{b:ar}(l:bb w u b):∃(c:bz)(d j:N),u=S c d j/\L b=d/\d<=1000000/\∀a,a<d->∃e f g h i,c=A ⟨e,f,Z⟩/\C w ⟨e,f+a,Z⟩=A (S g h i)/\ba w (S g h i) (ah b a):=by obtain⟨c,j,rfl,n,o⟩:=l;refine⟨c,L b,j,J,J,n,λa p=>?_⟩;have⟨e,f,r,ha,q,g1⟩:=o a p;obtain⟨g,h,i,rfl,_⟩:=g1.open;exact⟨e,f,g,h,i,ha,q,g1⟩
def bq(c:W)(h:V)(a:aV):Prop:=∃(d:bz) (i:N),h=S d (L a) i/\L a<=1000000/\∀b,b<L a->∃e f g,d=A ⟨e,f,Z⟩/\C c ⟨e,f+b,Z⟩=A g/\bb c g (aC a b)
def bq.bw{Kx:W}{a:aV}(d:bq w u a)(c:B w w Kx):bq Kx u a:=by obtain⟨f,g,h,i,j⟩:=d;refine⟨f,g,h,i,λk l=>?_⟩;have⟨m,n,o,ha,p,g1⟩:=j k l;exact⟨m,n,o,ha,s c p,g1.bw c⟩
def bq.open{b:aV}(l:bq w u b):∃(c:bz)(d j:N),u=S c d j/\L b=d/\d<=1000000/\∀a,a<d->∃e f g h i,c=A ⟨e,f,Z⟩/\C w ⟨e,f+a,Z⟩=A (S g h i)/\bb w (S g h i) (aC b a):=by obtain⟨c,j,rfl,n,o⟩:=l;refine⟨c,L b,j,J,J,n,λa p=>?_⟩;have⟨e,f,r,ha,q,g1⟩:=o a p;obtain⟨g,h,i,rfl,_⟩:=g1.open;exact⟨e,f,g,h,i,ha,q,g1⟩
def d0(a:W)(c:V):∃b,a.alloc (az #[c] 98)=b/\B a a b/\b.heap.size=(a:N)+1/\C b a=A c:=⟨_,J,aN _ _,D,aE⟩
def c8(a:W)(c:V):∃b,a.alloc (az #[c] 95)=b/\B a a b/\b.heap.size=(a:N)+1/\C b a=A c:=⟨_,J,aN _ _,D,aE⟩
def ec(a:W)(c:V):∃b,a.alloc (az #[c] 50)=b/\B a a b/\b.heap.size=(a:N)+1/\C b a=A c:=⟨_,J,aN _ _,D,aE⟩
def dZ(e:a<b):b-(((a:I)+1)).toNat<b-((a:I)).toNat:=by rw[show((a:I)+1).toNat=a+1 by omega,cW];omega
def fW(a:W)(b:I)(c:bp)(d:W):Prop:=c=aq b/\B a a d
def ir(a:W)(b:Bool)(c:bp)(d:W):Prop:=c=aq (au b)/\B a a d
def ea(e:a<b)(g:b<=9223372036854775807):b-(aB ((a:I)+1)).toNat<b-((a:I)).toNat:=by have f:aB ((a:I)+1)=(a:I)+1:=cV O O;rw[f];exact dZ e
def kH(a b:I):I:=aB (a+b)
def is(a:ad):I:=a.foldl kH 0
def wX(a:ad)(b:I):is (a++[b])=kH (is a) b:=by simp[is]
def s1(a:ad)(b:N)(c:b<L a):a.take (b+1)=a.take b++[ae a b]:=by rw[e9 c,eR c]
def K4(a:ag)(b:N)(c:b<L a):(a.map (·.1)).take (b+1)=(a.map (·.1)).take b++[(al a b).1]:=by rw[<-List.map_take,<-List.map_take,iq a b c,ck];rfl
def K5(a:ag)(b:N)(c:b<L a):is ((a.map (·.2)).take (b+1))=aB (is ((a.map (·.2)).take b)+(al a b).2):=by rw[<-List.map_take,<-List.map_take,iq a b c,ck];exact wX _ _
def o7(c:ai)(a:a4)(b:I):a4:=(kH a.1 (bC c a.2 (kH b 1)),kH b 1)
def kI(a:ai)(b:ad):a4:=b.foldl (o7 a) (0,0)
def ge(a:ai)(b:ad):I:=if b=[]then 0 else kH (kI a b).1 (bC a (kI a b).2 0)
def K6(c:ai)(a:ad)(b:N)(d:b<L a):kI c (a.take (b+1))=(aB ((kI c (a.take b)).1+bC c (kI c (a.take b)).2 (aB (ae a b+1))),aB (ae a b+1)):=by rw[s1 a b d];unfold kI;rw[List.foldl_append];rfl
def gf(a:ag):I:=is (a.map (·.2))
def b2(a:ai)(b:ag):I:=ge a (b.map (·.1))
def cl(a:ai)(b:ar):I:=is (b.map (b2 a))
structure d1(a:W)where
 w:W
 bw:B a a w
instance(a:W):Nonempty (d1 a):=⟨⟨a,aS _ _⟩⟩
def d1.cell{p:bQ}(b:C x p=A u)(a:d1 x):a.w.cell? p=A u:=s a.bw b
@[go_sem] theorem WC{w0:World}{p:Addr}{v:Value}(z:d1 w0)(h:w0.cell? p=some v):z.w.cell? p=some v:=d1.cell h z
def i2{f:cb}{g:bJ}{h:a'}{d:E bd}(i:f.follows .mixedOrders=T)(j:Region.lexB .any d.toArray=T) (k:wpQuiet f d.toArray (λb=>∃c:d1 x,b=c.w) (λl=>∀b,(∃c:d1 x,b=c.w)->g .normal l b) d h):(Code.region a d.toArray T).wp f g h x:=wp_region_quiet (C:=λb=>∃c:d1 x,b=c.w) i j ⟨⟨_,an x⟩,J⟩ (X k)
def iu{d:cb}{e:FuncId}{args:Array V}(a:d1 x)(g:ap d e args a.w λb c=>b=aq u/\B (a.w:N) a.w c):ap d e args a.w λb i=>b=aq u/\∃j:d1 x,i=j.w:=g.mono λ_ c ⟨k,l⟩=>⟨k,⟨c,q a.bw l⟩,J⟩
def wY{c:cb}{d:FuncId}{args:Array V}(a:d1 x)(g:ap c d args a.w λb e=>b=aq u/\a.w=e):ap c d args a.w λb i=>b=aq u/\∃j:d1 x,i=j.w:=g.mono λ_ e ⟨k,l⟩=>⟨k,a,l.symm⟩
def gM{d:ad}(e:ay w a u d):∃b g c,u=S b g c:=by obtain⟨b,c,rfl,_⟩:=e.ints;exact⟨_,_,_,J⟩
def eU(a:W)(c d:I):∃b,a.alloc (az #[c,d] 89)=b/\B a a b/\b.heap.size=(a:N)+1/\C b a=A (aa ac c)/\C b ⟨a,1,Z⟩=A (aa ac d):=⟨_,J,aN _ _,D,aE,aE⟩
def o8(h:V)(b:ag)(d:W)(o:ba d h b)(y:L b<=1000000000000):ap ab 99 #[ao #[h]] d λz p=>∃g,z=aq g/\ay p d g (b.map (·.1))/\B d d p:=by
 have⟨c,q,B5,D,ai⟩:=d0 d h;obtain⟨ak,e,am,rfl,Da,_,r⟩:=(o.bw B5).open;have an:e<=1000000000000:=O
 have CP:(d:N)<=c:=B5.size;change H _ at q Da r;clear D o y;go_in;go_upto_region 1 with(fail)
 rw[q];go_wp2;go_loopw [3,9] (λg i wr=>∃(a:N) (f:V),i=a/\f=g/\a<=e/\ay wr c f ((b.map (·.1)).take a)/\B c c wr) (λ_ i _=>e-(aw i).toNat);exact⟨0,_,J,J,a3 _,ay.nil _ _,aS _ _⟩;obtain⟨a,f,rfl,rfl,ar,t,n⟩:=hrel;have CO:=Q t;have G:(c:N)<=wr.heap.size:=n.size;clear t;by_cases Ch:a<e
 ·obtain⟨av,ax,rfl,j,f1⟩:=r.oo a Ch;have j:=s n j;have f1:=s n f1;have K:=Q (K4 b a (by rw[Da.oo];exact Ch));have M:H (((b.map (·.1)).take a).length+1<=17592186044416):=Q (by rw[List.length_take];omega);have aA:=aJ a;have aC:(a:Int)<e:=by omega
  generalize(al b a).1=u at*;generalize(al b a).2=P at*;obtain⟨k,l,v,R,aD,aE⟩:=eU wr u P;have U:H (ay k (c:Nat) f ((b.map (·.1)).take a)):=Q (by rw[<-l];exact CO.oo.alloc _);have m:=n.trans (v.mono G);have X:(c:Nat)<=k:=m.size;have Y:=Q m;change H _ at l;clear R v m n;go_upto_region 5 with fail;rw[l.oo];generalize wr.heap.size=aF at*;clear j f1;go_wp2_with (at_builtin;refine hP rfl _ _ rfl k (c:Nat) f ((b.map (·.1)).take a) u rfl rfl U.oo M.out X ?_);intro aG aI w ad x;rw[<-K.oo]at w;have ae:=Y.oo.trans x;clear ad x;go_wp2;go_roundw;case rel=>exact⟨a+1,_,aK,rfl,O,w,ae⟩
  exact bY
 have ah:a=e:=O
 subst ah;have Gb:H ((b.map (·.1)).take a=b.map (·.1)):=Q (cm oW);exact wv
def wZ(h:V)(b:ag)(e:W)(m:ba e h b)(q:L b<=1000000000000):ap ab 200 #[ao #[h]] e (fW e (gf b)):=by
 have⟨f,n,i,r,G⟩:=d0 e h;obtain⟨K,d,M,rfl,Da,_,o⟩:=(m.bw i).open;have P:d<=1000000000000:=O
 have t:(e:N)<=f:=i.size;change H _ at n Da o;clear r m q;go_in;go_upto_region 1 with(fail)
 rw[n];go_wp2;go_loopw [3,9] (λu j wr=>∃(a:N) (g:I),j=a/\u=g/\a<=d/\g=is ((b.map (·.2)).take a)/\B f f wr) (λ_ j _=>d-(aw j).toNat);exact⟨0,0,J,J,a3 _,J,aS _ _⟩;obtain⟨a,g,rfl,rfl,R,k,c⟩:=hrel;have v:(f:N)<=wr.heap.size:=c.size;change H _ at k;by_cases Ch:a<d
 ·obtain⟨U,X,rfl,p,f1⟩:=o a Ch;have p:=s c p;have f1:=s c f1;have l:=K5 b a c1;rw[<-k]at l;have w:=Q l;have Y:=aJ a;have ad:(a:I)<d:=by omega
  generalize(al b a).1=x at*;generalize(al b a).2=y at*;have z:=Q (c.alloc v (az #[x,y] 89));clear c l;go_wp2;go_roundw;case rel=>exact⟨a+1,_,aK,J,O,w.symm,z⟩
  exact bY
 have D:a=d:=O
 subst D;have B6:H (g=gf b):=Q (by rw[k,gf,cm oW]);have HZ:=i.trans (c.mono t);clear c;exact qA
def w0(n o p r:I)(t j M:V)(b:ai)(c:ad)(f:W)(P:bt f j b)(U:aX f M c):ap ab 145 #[ao #[n,o,p,r,t,j],M] f (fW f (ge b c)):=by
 have⟨u,v,B5,ay,w⟩:=bR f n o p r t j;obtain⟨aY,d,a0,rfl,h,_,x⟩:=(U.bw B5).open;have X:=Q (λaA aC k aD=>lH n o p r t j b aC k aA ((P.bw B5).bw aD));have aE:=Q w;have R:=Q v;have aG:=Q x;have Da:=Q h;have aI:(f:N)<=u:=B5.size;have aN:d<=9223372036854775807:=O
 by_cases Y:d=0
 ·subst Y;have B6:H (ge b c=0):=Q (by unfold ge;rw[am (dn.1 h)]);clear h x w v;exact o1
 have a1:((d:I)==0)=F:=aF
 have ag:c≠[]:=λaO=>Y (by rw[<-h,aO];rfl);change H _ at ag;clear v ay U P x h w;go_in;go_upto_region 1 with(fail)
 rw[R];go_wp2;go_loopw [5,6,8,14] (λaP aQ aR y wr=>∃(a:N) (l g:I) (k:V),k=aR/\y=a/\aP=l/\aQ=g/\a<=d/\(l,g)=kI b (c.take a)/\B u u wr) (λ_ _ _ y _=>d-(aw y).toNat);exact⟨0,0,0,_,J,J,J,J,a3 _,J,aS _ _⟩;obtain⟨a,l,g,k,rfl,rfl,rfl,rfl,a2,m,e⟩:=hrel;have⟨ah,al,an,ar,av,ax⟩:=aE.bw e;change H _ at m e;by_cases Ch:a<d
 ·obtain⟨a4,a5,rfl,z⟩:=aG a Ch;have z:=s e z;have D:=K6 b c a c1;rw[<-m]at D;have aT:=Q D;have a6:=aJ a;have a8:(a:I)<d:=by omega
  generalize ae c a=aU at*;have G:=Q (X.oo wr g (aB (aU+1)) e);clear D;go_wp2_with fail;refine mU G λaV i=>?_;have K:=Q (q e i);clear i ah al an ar av ax z;go_wp2;go_roundw;case rel=>exact⟨a+1,_,_,_,J,aK,J,J,O,aT.symm,K⟩
  simp only[aw];first|exact dZ Ch|exact ea Ch aN
 have aW:a=d:=O
 subst aW;have B6:H (ge b c=aB (l+bC b g 0)):=Q (by unfold ge;rw[ak ag];rw[cm ly]at m;rw[<-m];rfl);have G:=Q (X.oo wr g 0 e);clear Ch;go_wp2_with fail;refine mU G λaV i=>?_;have K:=Q (B5.trans ((q e i).mono aI));clear i ah al an ar av ax;go_wp2;go_ret;rw[B6];exact⟨J,K⟩
def cx(a:ar):Prop:=∀b,(ah a b).length<=1000000
def K7(c:ai)(a:ar)(b:N)(h:b<L a):is ((a.map (b2 c)).take (b+1))=aB (is ((a.map (b2 c)).take b)+b2 c (ah a b)):=by
 have d:a.take (b+1)=a.take b++[ah a b]:=sB
 rw[<-List.map_take,<-List.map_take,d,ck];exact wX _ _
def o9(f g h i:I)(w j k:V)(n:ai)(e:ag)(a:W)(X:∃Y ad ae,w=S Y ad ae)(ah:bt a j n)(ak:ba a k e)(al:L e<=1000000000000):ap ab 106 #[ao #[f,g,h,i,w,j],ao #[k]] a (fW a (b2 n e)):=by
 obtain⟨o,p,r,rfl⟩:=X;have⟨am,x,ar,av,ax⟩:=bR a f g h i (S o p r) j;have⟨l,y,z,aV,t⟩:=d0 am k;rw[av]at t;have m:=q ar z;have D:=ah.bw m;have G:=ak.bw m;have ay:=Q (λu v=>o8 k e u (G.bw v) al);have aA:=Q (λu aC v aD=>w0 f g h i (S o p r) j aC n (e.map (·.1)) u (D.bw v) aD);obtain⟨aE,aF,aG,rfl,_,_,_⟩:=D.open;obtain⟨aI,aJ,aK,rfl,_,_,_⟩:=G.open;have⟨K,M,O,P,R,U⟩:=ax.bw z;have aW:=aS l l;have aL:=Q m;have aN:(a:N)<=l:=m.size;change H _ at x y;go_in;go_upto_region 1 with(fail)
 rw[x,y];generalize (a:N)+1=aO at*;go_region_held3 (λd=>C d a=A (aa ac f)/\C d ⟨a,1,Z⟩=A (aa ac g)/\C d ⟨a,2,Z⟩=A (aa ac h)/\C d ⟨a,3,Z⟩=A (aa ac i)/\C d ⟨a,4,Z⟩=A (S o p r)/\C d ⟨a,5,Z⟩=A (S aE aF aG)/\C d aO=A (S aI aJ aK)) (first|go_keep|exact⟨s c K,s c M,s c O,s c P,s c R,s c U,s c t⟩|exact⟨s b K,s b M,s b O,s b P,s b R,s b U,s b t⟩)
  (first
   |(go_at_call 99;refine(ay _ ?_).mono ?_;exact an _;rintro aX aY ⟨a0,rfl,aP,aQ⟩;have b:=q (an l) aQ;have aR:=aP.ints)
   |(go_at_call 145;refine mU (aA _ _ b aR) λa1 aT=>?_;have c:=q b aT))
 have aU:=aL.trans (c.mono aN);go_wp2;go_ret;exact⟨J,aU⟩
def qF(l m n o:I)(x h p:V)(c:ai)(b:ar)(d:W)(ax:∃ay e aA,x=S ay e aA)(aC:bt d h c)(aD:bb d p b)(y:cx b):ap ab 71 #[ao #[l,m,n,o,x,h],ao #[p]] d (fW d (cl c b)):=by
 obtain⟨z,D,G,rfl⟩:=ax;have⟨aE,M,aF,aG,aI⟩:=bR d l m n o (S z D G) h;have⟨f,P,R,a8,aN⟩:=c8 aE p;rw[aG]at aN;have i:=q aF R;have U:=aC.bw i;have aO:=aD.bw i;have aP:=Q (λ(r:W) (X:V) (t:ag) (aQ:B f f r) (hp:ba r X t) (a9:L t<=1000000)=>o9 l m n o (S z D G) h X c t r ⟨_,_,_,J⟩ (U.bw aQ) hp O);obtain⟨bc,be,bf,rfl,_,_,_⟩:=U.open;obtain⟨bg,e,bh,rfl,Da,bi,Y⟩:=aO.open;have aR:=Q i;have aT:=Q (aI.bw R);have aU:(d:N)<=f:=i.size;change H _ at M P Da Y y;go_in;go_upto_region 1 with(fail)
 rw[M,P];generalize (d:N)+1=bk at*;go_wp2_with fail;go_loopw [5,7,11] (λaV aW u wr=>∃(a:N) (j:I) (ad:V),ad=aW/\u=a/\aV=j/\a<=e/\j=is ((b.map (b2 c)).take a)/\B f f wr) (λ_ _ u _=>e-(aw u).toNat);exact⟨0,0,_,J,J,J,a3 _,J,aS _ _⟩;obtain⟨a,j,ad,rfl,rfl,rfl,bl,v,k⟩:=hrel;obtain⟨w,rfl⟩:=K wr;have aX:(f:N)<=w:=k.size;change H _ at v;by_cases Ch:a<e
 ·obtain⟨bm,bn,ae,ak,al,rfl,am,hp⟩:=Y a Ch;have am:=s k am;have an:=K7 c b a c1;rw[<-v]at an;have aY:=Q an;have bo:=aJ a;have bq:(a:I)<e:=by omega
  have⟨a0,av,a1,br,bs⟩:=d0 w (S ae ak al);have g:=k.trans (a1.mono aX);have a2:=Q (aP.oo a0 (S ae ak al) (ah b a) g (hp.bw g) (y a));have⟨bu,bv,bx,bz,bA,bB⟩:=aT.bw g;generalize b2 c (ah b a)=bC at*;change H _ at g av;go_upto_region 5 with fail;rw[av];generalize w=bD at*;go_wp2_with fail;refine mU a2 λbE a4=>?_;have a5:=Q (q g a4);go_wp2;go_roundw;case rel=>exact⟨a+1,_,_,J,aK,J,O,aY.symm,a5⟩
  exact bY
 have a6:a=e:=O
 subst a6;have B6:H (j=cl c b):=Q (by rw[v,cl,cm oW]);have HZ:=aR.trans (k.mono aU);exact qA
def s2{Jd:Program}{Kw:World}(g:Nat)(a h b:TypeId)(i:TypeInfo)(j:Nat)(e:Jd.underlying a=some (.slice b))(f:Jd.info? b=some i)(c:Value)(k:Nat)(l:List Value)(m:Kw.ownsRow g b j c k l)(d:Option Addr)(n:Nat):(Builtin.append_ #[a,a] h #[c,.slice d 0 n]).run Jd Kw= .ok c Kw:=by rcases m.2 with⟨rfl,rfl⟩|⟨p,q,r,rfl,_,_,o,_⟩;cases d<;>simp[Builtin.append_,run_underlying e,sizeOf,typeInfo,f,Builtin.lenOf,Builtin.firstCells,loadCells,loadCellsFrom];cases d<;>simp[Builtin.append_,run_underlying e,sizeOf,typeInfo,f,Builtin.lenOf,Builtin.firstCells,o,storeCells,loadCells,loadCellsFrom]
def nW{g:ag}(o:ba w (S (A ⟨a,b,Z⟩) c d) g):∀e k,(be g)[e]? =A k->C w ((⟨a,b,Z⟩:bQ).add e)=A k:=by
 have⟨u,v,x,f,y,_,q⟩:=o.open;simp only[bf]at f;obtain⟨rfl,rfl,rfl⟩:=f;intro e k l;have z:e<2*L g:=by have:=(mX.1 l).1;rwa [g7]at this
 have ha:(⟨a,b,Z⟩:bQ).add e=⟨a,b+e,Z⟩:=hM
 rw[ha];have⟨D,G,f,n,g1⟩:=q (e/2) O;simp only[a2,bN,bT]at f;obtain⟨rfl,rfl⟩:=f;have⟨m,f1⟩:=s0 g (e/2) O;rcases Nat.mod_two_eq_zero_or_one e with r|r;have h:e/2*2=e:=O
 rw[h]at m n;rw[l]at m;cases m;exact n;have h:e/2*2+1=e:=O
 rw[h]at f1;rw[Nat.add_assoc,h]at g1;rw[l]at f1;cases f1;exact g1
def o'(b:ag):∀a∈be b,a.oneCell'=T:=by intro a c;have⟨d,_,hp⟩:=List.mem_flatMap.1 c;simp only[cK,List.not_mem_nil,or_false]at hp;rcases hp with rfl|rfl<;>rfl
def qG{u:Array Oper}{v:List Oper}{h:Oper}{n:Act}{w:Exit->Act->World->Prop}(x:h.guard=none)(p q:Operand)(i d:TypeId)(r:Value)(y:prog.underlying i=some (.slice d))(Y:(prog.info? d).map (λe=>(e.zero,e.size,e.bytes))=some (some r,2,16))(ad:r.cells.size=2)(z:h.op= .call {callee:=.builtin .append,args:=#[p,q],argTypes:=#[i,i]})(a:World)(b:Nat)(f:Value)(c g:List (Int×Int))(D:Value)(G:n.eval p=f)(H:n.eval q=D)(K:ba a D g)(j:aW d a b f c)(aG:c.length+g.length<=8000000000000)(M:b<=a.heap.size)(s:∀k O l m,aW d m b (.slice k O l) (c++g)->a.grownBy m f.ownBlock->Below b a m->wpList prog u w v (n.put h.dst (.slice k O l)) m):wpList prog u w (h::v) n a:=by
 obtain⟨e,P,ae,ag,ah⟩:=info_parts Y;obtain⟨ai,Q,l,rfl,t,_,ak⟩:=K.open;rcases Nat.eq_zero_or_pos Q with o|o;subst o;have al:g=[]:=List.length_eq_zero_iff.1 t;subst al;rw[List.append_nil]at s;refine wpList_plain x λaI am=>?_;have an:=s2 (Jd:=prog) (Kw:=a) b i h.type d e 2 y P f c.length (be c) j ai l;obtain⟨k,R,U,rfl⟩:∃k R U,f= .slice k R U:=by rcases bW j with⟨rfl,_⟩|⟨ar,av,rfl,_⟩;exact⟨_,_,_,rfl⟩;exact⟨_,_,_,rfl⟩
 unfold Oper.wp;simp[execOp,z,resolve,invoke,builtin,G,H,an,Result.andThen];exact am _ _ (s _ _ _ _ j (World.grownBy.refl a _) (Below.refl _ _));obtain⟨ax,ay,rfl,_,_⟩:=ak 0 o;refine wpList_append_lies a x p q i z b d e r 2 16 y P ae ag ah ad (by decide) f c.length (be c) G j ⟨ax,ay,none⟩ Q l (be g) H (by rw[g7,t];omega) (nW K) (o' g) o (by simp only[maxLen];omega) (by omega) M _ rfl ?_;intro ar av m aA X _ _;refine s _ _ _ _ ?_ X ((Below.refl b a).grown X M (λaC aD=>(World.ownsRow.lt j aC aD).1));unfold aW;rw[List.length_append,t];simpa[be]using aA
section
def aI{WT:Type}(WV:W->V->WT->Prop)(b:aD)(WY:W)(W4:V)(W8:WT):Prop:=∀W0:W,(WY:N)<=W0.heap.size->(∀a,a<(WY:N)->¬b a->W0.heap[a]? =WY.heap[a]?)->WV W0 W4 W8
def aI.now{WT:Type}{WV:W->V->WT->Prop}{a:aD}{WY:W}{W4:V}{W8:WT}(b:aI WV a WY W4 W8):WV WY W4 W8:=b WY (aL _) λ_ _ _=>rfl
def aI.step{WT:Type}{WV:W->V->WT->Prop}{b d:aD}{WY W0:W}{W4:V}{W8:WT}(g:aI WV b WY W4 W8)(e:(WY:N)<=W0) (h:∀a,a<(WY:N)->¬b a->W0.heap[a]? =WY.heap[a]?) (i:∀a,a<(WY:N)->d a->b a):aI WV d W0 W4 W8:=λj k l=>g j (a1 e k) λa c f=>(l a (cg c e) λm=>f (i a c m)).trans (h a c f)
def nX{e:aD}{WY:W}{c:bz}{d W3:N}{W7:ag}(k:ba WY (S c d W3) W7)(l:∀a b,c=A ⟨a,b,Z⟩->0<d->¬e a):aI ba e WY (S c d W3) W7:=by intro W0 r f;obtain⟨s,t,g,m,n,o⟩:=k;simp only[bf]at g;obtain⟨rfl,rfl,rfl⟩:=g;refine⟨_,_,J,m,n,λp q=>?_⟩;have⟨a,b,ha,h,g1⟩:=o p q;have i:=l a b ha O;have j:=aR WY _ h;exact⟨a,b,ha,(ey (f a j i)).trans h,(ey (f a j i)).trans g1⟩
def K8{WY:W}{W4:V}{W7:ag}(a:ba WY W4 W7){b:aD}(d:∀c,c<(WY:N)->¬b c):aI ba b WY W4 W7:=by obtain⟨i,j,W3,rfl,k,_,e⟩:=a.open;refine nX a λl m ha f=>?_;have⟨n,o,g,h,_⟩:=e 0 f;rw[g]at ha;simp only[a2,bN,bT]at ha;obtain⟨rfl,rfl⟩:=ha;exact d _ (aR WY _ h)
def qH{WU:bj}{WY:W}{a:N}{W4:V}{W7:ag}(b:aW WU WY a W4 W7){I5:aD}(d:∀c,I5 c->c<a):aI ba I5 WY W4 W7:=by
 have hp:=b.di;rcases bW b with⟨rfl,h⟩|⟨W2,i,rfl,_,_,j,_⟩;exact nX hp λe f ha=>by cases ha
 refine nX hp λe f ha _ g=>?_;simp only[a2,bN,bT]at ha;obtain⟨rfl,_⟩:=ha;exact absurd (d _ g) O
def qI{c:aD}{WY:W}{W2 d W3:N}{e:ar}(j:bb WY (S (A W2) d W3) e)(k:¬c W2)(l:∀a f,a<d->C WY ⟨W2,a,Z⟩=A f->aI ba c WY f (ah e a)):aI bb c WY (S (A W2) d W3) e:=by intro W0 m g;obtain⟨p,q,h,n,o⟩:=j;simp only[bf]at h;obtain⟨rfl,rfl,rfl⟩:=h;refine⟨_,_,J,n,λa i=>?_⟩;have⟨r,s,W5,ha,b,g1⟩:=o a i;simp only[a2,bN,bT]at ha;obtain⟨rfl,rfl⟩:=ha;exact⟨_,_,W5,J,(ey (g _ (aR WY _ b) k)).trans b,l a W5 i (by rw[bX]at b;exact b) W0 m g⟩
structure bS{d:Type}[Inhabited d](i:bj)(j:W->V->d->Prop)(k:aD)(l:W)(a:N)(e:V)(f:aP)(c:E d)(b:W):Prop where
 cell:C b a=A e
 free:aH b a=F
 own:b.ownsRow (a+1) i 1 e (L c) f
 len:L f=L c
 row:∀g,g<L c->aI j (λh=>k h\/h=a\/af e=A h) b (f.getD g undef) (c.getD g default)
 bw:B a l b
variable{WT:Type}[Inhabited WT]{WU:bj}{WV:W->V->WT->Prop}{WW:aD}{WX WY WZ W0:W}{W1 W2 W3:N}{W4 W5:V}{W6:aP}{W7:E WT}{W8:WT}
def bS.lt(a:bS WU WV WW WX W1 W4 W6 W7 WY):W1<WY:=aR _ _ a.cell
def bS.form(c:bS WU WV WW WX W1 W4 W6 W7 WY):∃a b W3,W4=S a b W3/\b=L W7/\(a=Z\/∃W2,a=A ⟨W2,0,Z⟩/\W1<W2/\W2<(WY:N)):=by rcases bW c.own with⟨rfl,d⟩|⟨W2,f,rfl,_,_,g,e⟩;exact⟨_,_,_,J,d.symm,.inl J⟩;exact⟨_,_,_,J,J,.inr ⟨W2,J,O,e⟩⟩
def bS.start(a:C WY W1=A (S Z 0 0))(b:aH WY W1=F)(c:B W1 WX WY):bS WU WV WW WX W1 (S Z 0 0) [] ([]:E WT) WY:=⟨a,b,World.ownsRow_nil _ _ _ _,J,λe d=>absurd d D,c⟩
def bS.next(a:bS WU WV WW WX W1 W4 W6 W7 WY)(b:B WY WY WZ):bS WU WV WW WX W1 W4 W6 W7 WZ:=⟨s b a.cell,aY b a.lt a.free,gd (row:=Z) a.own (dS b) (by cases (af W4)<;>simp),a.len,λd e=>(a.row d e).step b.size (λc f _=>b.block c f) (λc _ g=>g),a.bw.trans (b.mono (iv a.lt))⟩
def bS.push(d:bS WU WV WW WX W1 W4 W6 W7 WZ)(s:aI WV (λa=>WW a\/a=W1\/af W4=A a) WZ W5 W8)(u:W0.ownsRow (W1+1) WU 1 (S (A W2) (L W7+1) W3) (L W7+1) (W6++[W5]))(g:WZ.grownBy W0 (af W4))(l:af W4=A W2\/W2=WZ):bS WU WV WW WX W1 (S (A W2) (L W7+1) W3) (W6++[W5]) (W7++[W8]) (aj W0 W1 (S (A W2) (L W7+1) W3)):=by
 have j:∀a,af W4=A a->W1<a:=λa h=>Y ((bI d.own a h).1)
 have m:A W1≠af W4:=λc=>Y (j W1 c.symm)
 have v:=g.cell d.cell m;have x:W1<W2:=by rcases l with c|c;exact j W2 c;have:=d.lt;omega
 have o:∀a,a<(WZ:N)->¬(WW a\/a=W1\/af W4=A a)->(aj W0 W1 (S (A W2) (L W7+1) W3)).heap[a]? =WZ.heap[a]? :=λa i p=>by rw[Below.heap_setCell];exact g.block a i λc=>p (.inr (.inr c.symm));intro c;exact p (.inr (.inl (X c)))
 have q:(WZ:N)<=(aj W0 W1 (S (A W2) (L W7+1) W3):N):=by simp[aj];exact g.size
 have r:∀a,a<(WZ:N)->(WW a\/a=W1\/(S (A W2) (L W7+1) W3).ownBlock=A a)->(WW a\/a=W1\/af W4=A a):=λa i h=>by rcases h with c|c|c;exact .inl c;exact .inr (.inl c);simp only[af,a2]at c;rcases l with f|f;exact .inr (.inr (by rw[f,c]));omega
 refine⟨?_,?_,?_,by simp[d.len],λe w=>?_,?_⟩;exact bP _ _ _ (by rw[v];rfl);rw[bs];exact eS g d.lt m d.free;rw[bL,eu];exact gd u (bn W0 ⟨W1,0,Z⟩ _) (.inr (by simp[af];omega));rw[bL,eu]at w;by_cases i:e<L W7;have k:(W6++[W5]).getD e undef=W6.getD e undef:=by have:=d.len;simp[List.getD,List.getElem?_append,show e<L W6 by omega]
 have f:(W7++[W8]).getD e default=W7.getD e default:=by simp[List.getD,List.getElem?_append,i]
 rw[k,f];exact(d.row e i).step q o r;have c:e=L W7:=O
 subst c;have k:(W6++[W5]).getD (L W7) undef=W5:=by simp[List.getD,<-d.len]
 have f:(W7++[W8]).getD (L W7) default=W8:=by simp[List.getD]
 rw[k,f];exact s.step q o r;exact(d.bw.grown g (iv d.lt) (λa h=>iv (j a h))).setCell (p:=⟨W1,0,Z⟩) (aL _) _
def bS.at_(a:bS WU WV WW WX W1 (S (A W2) (L W7) W3) W6 W7 WY){i:N}(c:i<L W7):C WY ⟨W2,i,Z⟩=A (W6.getD i undef)/\WV WY (W6.getD i undef) (W7.getD i default):=by have⟨e,b,d⟩:=hb a.own i (W6.getD i undef) (by have:=a.len;simp[List.getD,show i<L W6 by omega]);simp only[af,a2]at b;subst b;exact⟨d,(a.row i c).now⟩
def bS.gS{WU:bj}{W6:aP}{b:ar}(c:bS WU ba WW WX W1 W4 W6 b WY)(d:L b<=1000000):bb WY W4 b:=by rcases bW c.own with⟨rfl,e⟩|⟨W2,f,rfl,_,_,_,_⟩;rw[dn.1 e];exact⟨Z,0,J,D,λg a=>absurd a D⟩;exact⟨_,f,J,d,λg a=>⟨W2,0,_,J,by rw[bX];exact(c.at_ a).1,(c.at_ a).2⟩⟩
def bS.days{WU:bj}{W6:aP}{b:aV}(c:bS WU bb WW WX W1 W4 W6 b WY)(d:L b<=1000000):bq WY W4 b:=by rcases bW c.own with⟨rfl,e⟩|⟨W2,f,rfl,_,_,_,_⟩;rw[dn.1 e];exact⟨Z,0,J,D,λg a=>absurd a D⟩;exact⟨_,f,J,d,λg a=>⟨W2,0,_,J,by rw[bX];exact(c.at_ a).1,(c.at_ a).2⟩⟩
end
def fv:(ab.info? 89).map (λa=>(a.zero,a.size,a.bytes))=A (A (ao #[(0:I),(0:I)]),2,16):=aT
def lI:(ab.info? 98).map (λa=>(a.zero,a.size,a.bytes))=A (A (ao #[S Z 0 0]),1,24):=aT
def s3:(ab.info? 95).map (λa=>(a.zero,a.size,a.bytes))=A (A (ao #[S Z 0 0]),1,24):=aT
def d2(d:C w a=A u):ax w a [u]:=by
 intro c h b;match c with
  |0=>simp at b;rw[<-b];exact d
  |c+1=>simp at b
def w1(a:ar)(b:N)(c:b<L a):(a.take (b+1)).flatten=(a.take b).flatten++ah a b:=by
 have d:ah a b=a[b]:=by simp[ah,c]
 rw[eR c,List.flatten_append,List.flatten_cons,List.flatten_nil,e',d]
def s4{b:ar}(c:cx b)(a:N)(d:a<=L b):(b.take a).flatten.length<=1000000*a:=by
 induction a with
  |zero=>simp
  |succ a e=>rw[w1 b a d,bL];have f:=c a;have g:=e O;omega
def s5{a:ar}(b:bb w u a):L a<=1000000:=by obtain⟨_,_,_,c,_⟩:=b;exact c
def w2(j:V)(b:ar)(d:W)(r:bb d j b)(k:cx b):ap ab 100 #[ao #[j]] d λR t=>∃l c m,R=aq (S l c m)/\aW 89 t d (S l c m) b.flatten/\B d d t:=by
 have⟨e,u,n,U,aE⟩:=c8 d j;obtain⟨l,c,m,rfl,Da,aF,v⟩:=(r.bw n).open;have w:=n.size;change H _ at u Da v k;clear U r;go_in;go_upto_region 1 with(fail)
 rw[u];go_wp2;go_loopw [3,5,9] (λX Y o wr=>∃(a:N) (x:V) (f:bz) (g h:N),x=Y/\o=a/\X=S f g h/\a<=c/\aW 89 wr e (S f g h) ((b.take a).flatten)/\B e e wr) (λ_ _ o _=>c-(aw o).toNat);exact⟨0,_,_,_,_,J,J,J,a3 _,aW.nil _ _ _,aS _ _⟩;obtain⟨a,x,f,g,h,rfl,rfl,rfl,ad,ae,i⟩:=hrel;have y:=Q ae;by_cases Ch:a<c
 ·obtain⟨aG,aI,z,D,G,rfl,K,hp⟩:=v a Ch;have K:=s i K;have ag:=Q (w1 b a c1);have ai:H (((b.take a).flatten).length+(ah b a).length<=8000000000000):=Q (bi (s4 k a (by rw[Da];exact ad)) (k a));have aN:=aJ a;have aO:(a:I)<c:=by omega
  have⟨ak,M,P,aP,aQ⟩:=d0 wr (S z D G);have p:=i.trans (P.mono i.size);have al:=Q (y.oo.bw P);have am:=Q (hp.bw p);have an:=p.size;have av:=Q p;change H _ at M;go_upto_region 5 with fail;rw[M];generalize wr.heap.size=aR at*;go_wp2_with (at_builtin;refine qG J _ _ 96 89 _ underlying96 fv J J ak e (S f g h) ((b.take a).flatten) (ah b a) (S z D G) J J am al ai.out an ?_);intro aT aU aV aX q aY ax;rw[<-ag]at q;have ay:=Q (av.oo.trans ax);change H _ at q;go_wp2;go_roundw;case rel=>exact⟨a+1,_,_,_,_,J,aK,J,O,q,ay⟩
  exact bY
 have aA:a=c:=O
 subst aA;have aC:H ((b.take a).flatten=b.flatten):=Q (by rw[cm ly]);have aD:=n.trans (i.mono w);go_wp2;go_ret;exact⟨_,_,_,J,by rw[<-aC];exact y.mono w,aD⟩
def dT(a:ag):ar:=a.map λb=>[b]
def K9(a:ag)(b:N)(c:b<L a):dT (a.take (b+1))=dT (a.take b)++[[al a b]]:=by rw[iq a b c];simp[dT]
def w3(d:C w a=A (aa ac i))(f:C w ⟨a,1,Z⟩=A (aa ac j)):ba w (S (A a) 1 1) [(i,j)]:=
 ⟨_,1,J,D,D,λh k=>by
  have l:h=0:=by simp at k;omega
  subst l;exact⟨a,0,J,by simpa[al]using d,by simpa[al]using f⟩⟩
def cP(a:W)(c:V):∃b,a.alloc (az #[c] 95)=b/\B a a b/\b.heap.size=(a:N)+1/\C b a=A c/\aH b a=F:=⟨_,J,aN _ _,D,aE,aE⟩
def aI.mono{b:Type}{c:W->V->b->Prop}{d G':aD}{e:b}(f:aI c d w u e)(i:∀a,G' a->d a):aI c G' w u e:=f.step (aL _) (λ_ _ _=>rfl) (λa _=>i a)
def aI.bw{a:Type}{b:W->V->a->Prop}{c:aD}{Kx:W}{d:a}(g:aI b c w u d)(f:B w w Kx):aI b c Kx u d:=g.step f.size (λi j _=>f.block i j) I2
def aI.set{c:Type}{d:W->V->c->Prop}{G G':aD}{e:c}(f:aI d G w u e)(b:bQ)(i:V)(hp:G b.block)(j:∀a,G' a->G a):aI d G' (aj w b i) u e:=f.step qq (λa _ k=>Below.heap_setCell _ _ _ _ (by simpa using λl:a=b.block=>k (l▸hp))) (λa _=>j a)
def aI.grown{b:Type}{c:W->V->b->Prop}{G d:aD}{e:b}{f:Option N}(h:aI c G w u e)(g:w.grownBy x f)(l:∀a,f=A a->G a)(m:∀a,d a->G a):aI c d x u e:=h.step g.size (λa n o=>g.block a n λp=>o (l a p.symm)) (λa _=>m a)
def jQ(a:W):bb a (S Z 0 0) []:=⟨Z,0,J,D,λc b=>absurd b D⟩
def m2(a:W):bq a (S Z 0 0) []:=⟨Z,0,J,D,λc b=>absurd b D⟩
def w4{g:aD}{h:aV}(p:bq w (S (A a) b c) h)(r:¬g a)(s:∀d k,d<b->C w ⟨a,d,Z⟩=A k->aI bb g w k (aC h d)):aI bq g w (S (A a) b c) h:=by intro t u l;obtain⟨y,z,m,v,x⟩:=p;simp only[bf]at m;obtain⟨rfl,rfl,rfl⟩:=m;refine⟨_,_,J,v,λd n=>?_⟩;have⟨D,G,o,ha,f,g1⟩:=x d n;simp only[a2,bN,bT]at ha;obtain⟨rfl,rfl⟩:=ha;exact⟨_,_,o,J,(ey (l _ (aR w _ f) r)).trans f,s d o n (by rw[bX]at f;exact f) t u l⟩
def bS.qc{h:bj}{i:aP}{d:ar}(c:bS h ba (λb=>b<a) w a u i d x)(l:L d<=1000000):aI bb (λb=>b<=a) x u d:=by rcases bW c.own with⟨rfl,m⟩|⟨s,t,rfl,_,_,v,_⟩;rw[dn.1 m];exact λn _ _=>jQ n;refine qI (c.gS l) O λo y f p=>?_;have⟨g,_⟩:=c.at_ f;rw[p]at g;cases g;refine(c.row o f).mono λb z=>?_;by_cases q:b=a;exact .inr (.inl q);exact .inl O
def bS.Wk{h:bj}{i:aP}{d:aV}(c:bS h bb (λb=>b<a) w a u i d x)(l:L d<=1000000):aI bq (λb=>b<=a) x u d:=by rcases bW c.own with⟨rfl,m⟩|⟨s,t,rfl,_,_,v,_⟩;rw[dn.1 m];exact λn _ _=>m2 n;refine w4 (c.days l) O λo y f p=>?_;have⟨g,_⟩:=c.at_ f;rw[p]at g;cases g;refine(c.row o f).mono λb z=>?_;by_cases q:b=a;exact .inr (.inl q);exact .inl O
def bS.qd{d:Type}[Inhabited d]{j k:bj}{l:W->V->d->Prop}{g:W}{m:aP}{n:E d}(h:bS j l (λc=>c<a) w a u m n x){i:ag}(q:aW k g b v i)(z:(x:N)<=b):aI ba (λc=>c<a\/c=a\/af u=A c) g v i:=by refine qH q λc t=>?_;have D:=h.lt;rcases t with f|f|f;omega;omega;have:=(bI h.own c f).2;omega
def bS.BA{d g:Type}[Inhabited d]{l:bj}{m:W->V->d->Prop}{h:W->V->g->Prop}{i:W}{n:aP}{o:E d}(j:bS l m (λc=>c<a) w a u n o x){k:g}(r:aI h (λc=>c<b) i v k)(D:(x:N)<=b):aI h (λc=>c<a\/c=a\/af u=A c) i v k:=by refine r.mono λc y=>?_;have G:=j.lt;rcases y with f|f|f;omega;omega;have:=(bI j.own c f).2;omega
def qJ(a:W)(f:ar)(g:bp)(b:W):Prop:=∃c d e,g=aq (ao #[S c d e])/\aI bb (λh=>h<(a:N)) b (S c d e) f/\B a a b
section
structure M(d:aD)(a b:W):Prop where
 os:b.os=a.os
 tape:b.tape=a.tape
 output:b.output=a.output
 size:(a:N)<=b
 block:∀c,c<(a:N)->¬d c->b.heap[c]? =a.heap[c]?
def M.refl(b:aD)(a:W):M b a a:=⟨J,J,J,aL _,λ_ _ _=>rfl⟩
def M.trans{I' O1 O2:aD}{d g h:W}(b:M O1 d g)(c:M O2 g h)(j:∀a,a<(d:N)->O1 a->I' a)(k:∀a,a<(d:N)->O2 a->I' a):M I' d h:=⟨c.os.trans b.os,c.tape.trans b.tape,c.output.trans b.output,a1 b.size c.size,λa e i=>(c.block a (cg e b.size) λf=>i (k a e f)).trans (b.block a e λf=>i (j a e f))⟩
def M.mono{d O':aD}{c e:W}(b:M d c e)(g:∀a,a<(c:N)->d a->O' a):M O' c e:=⟨b.os,b.tape,b.output,b.size,λa f h=>b.block a f λi=>h (g a f i)⟩
def M.bw{I':aD}{b c:W}(a:B b b c):M I' b c:=⟨a.os,a.tape,a.output,a.size,λd e _=>a.block d e⟩
def M.grown{I':aD}{c d:W}{e:Option N}(a:c.grownBy d e)(f:∀b,e=A b->I' b):M I' c d:=⟨a.os,a.tape,a.output,a.size,λb g h=>a.block b g λi=>h (f b i.symm)⟩
def M.bg{I':aD}{J0:N}{c d:W}(a:M I' c d)(g:J0<=c)(e:∀b,b<J0->¬I' b):B J0 c d:=⟨a.os,a.tape,a.output,a.size,λb f=>a.block b O (e b f)⟩
def M.cell{b:aD}{c d:W}(h:M b c d){a e:N}{f:V}(g:C c ⟨a,e,Z⟩=A f)(i:¬b a):C d ⟨a,e,Z⟩=A f:=(ey (h.block a (aR _ _ g) i)).trans g
def M.free{c:aD}{b d:W}(f:M c b d){a e:N}(g:aH b ⟨a,e,Z⟩=F)(h:a<b)(i:¬c a):aH d ⟨a,e,Z⟩=F:=(World.frozen?_of_block (f.block a h i)).trans g
def hc(a:W)(b:N)(d:Obj):M (λc=>c=b) a (a.putObj b d):=⟨J,J,J,D,λc _ e=>World.putObj_heap_other e⟩
def pa(W9:cb)(q:FuncId)(r:Array V)(s:aD){j:Type}(t:j->Array V)(m:E j)(n:W):Prop:=∀(o:N) (d:E j->aD->W->Prop) (f:W) (u:aD),B n n f->(∀c a e p,d c a e->M (λb=>(f:N)<=b/\¬a b) e p->d c a p)->(∀c a e,d c a e->∀b,a b->b<e.heap.size/\¬s b)->(∀c k a g,d c a g->(∃v,m=c++k::v)->YieldAt Fence.wide 0 W9 o (t k) g λl h=>l=aq (au T)/\∃i,d (c++[k]) i h/\M a g h/\∀b,i b->a b\/g.heap.size<=b)->d [] u f->ap W9 q (#[.func (.yield o) #[] #[]]++r) f λl h=>(∃w,l=aq w)/\∃i,d m i h
def K'{d:Type}(b e h:W)(i:E d->aD->W->Prop)(j:E d)(f:aD):bJ
 | .normal,_,c=>∃g,i j g c/\M (λa=>f a\/a=(b:N)+1) e c/\c.heap[(b:N)+1]? =h.heap[(b:N)+1]?/\∀a,g a->f a\/(e:N)<=a
 |_,_,_=>False
variable{W9:cb}
def nY{v:Type}{am:Operand}{G:Array Tmp}{w x:Code}{an:bJ}{r:a'}{a:W}{s:N}{H:Array V}{ar:aD}{K:v->Array V}{ad:E v}(aO:r.eval am= .func (.func s) #[] H)(aP:∀args a,(callFunc s args).run W9 a= .ok (.enter s args) a)(aQ:pa W9 s H ar K ad a)(aR:∀l,(K l).size=G.size)(o:E v->aD->W->Prop)(P:aD)(Q:∀f d i ae,o f d i->M (λb=>a.heap.size<=b/\¬d b) i ae->o f d ae)(av:∀f d i,o f d i->∀b,d b->b<i.heap.size/\¬ar b)(ax:o [] P a)(aT:∀(ay:N)(f:E v)(l:v)(d:aD)(j:W),o f d j->(∃aU,ad=f++l::aU)->a.heap.size+1<(j:N)->(∀b,d b->b≠a.heap.size+1)->w.wpIn (Fence.wide.inRound ay) 0 W9 (Exit.then (λaA h=>B j j h/\∀q,M (λb=>b=a.heap.size+1) h q->x.wpIn (Fence.wide.inRound ay) 0 W9 (K' a j q o (f++[l]) d) aA q) (λ_ _ _=>False)) {tmps:=(G.zip (K l)).foldl (λag (aW,aC)=>ag.setIfInBounds aW aC) r.tmps,defers:=[]} j)(aX:∀(d:aD)(j:W),o ad d j->j.heap[a.heap.size]? =A (.deferred (A []))->(∀b,d b->b≠a.heap.size)->an .normal {r with defers:={target:=.collected a.heap.size,args:=#[]}::r.defers} j):(Code.rangeFunc am G w x).wp W9 an r a:=by
 refine wpIn_wide (n:=0).1 (wpIn_rangeFunc ?_);intro ah aY;obtain⟨t,p⟩:∃t:LoopState->Option Code->Loop,t=λa0 a1=>{state:=a0,pending:=a1,fn:=ah,tmps:=r.tmps,params:=G,assign:=w,body:=x,defers:=a.heap.size}:=⟨_,J⟩
 obtain⟨h,y⟩:∃h,(a.alloc (.deferred (A []))).alloc (.loop (t .ready Z))=h:=⟨_,J⟩
 have a2:h.heap[a.heap.size+1]? =A (.loop (t .ready Z)):=by rw[<-y];have:=World.alloc_heap_new (a.alloc (.deferred (A []))) (.loop (t .ready Z));rwa [World.size_alloc]at this
 have a3:h.heap[a.heap.size]? =A (.deferred (A [])):=by rw[<-y];exact(Below.heap_alloc _ _ _ D).trans (World.alloc_heap_new a _)
 have aG:B a.heap.size a h:=by rw[<-y];exact((aS _ a).alloc (aL _) _).alloc D _
 have bn:h.heap.size=a.heap.size+1+1:=by rw[<-y];simp
 have a4:∀b,P b->b<a.heap.size:=λb c=>(av [] P a ax b c).1;have a5:=Q _ _ _ _ ax (M.bw aG);refine⟨a.heap.size+1,[{target:=.collected a.heap.size,args:=#[]}],h,{target:=.fn (.func s) H,args:=#[.func (.yield (a.heap.size+1)) #[] #[]]},h,s,#[.func (.yield (a.heap.size+1)) #[] #[]]++H,h,?_,?_,?_,?_,λg=>by simp[Fence.wide]at g,?_⟩;rw[<-y,p];exact run_enterLoop_outer _ _ _ _ _;·simp only[resolve,aO];simp[go_sem]
 intro bo _;trivial;·simp[invoke,go_sem,aP]
 refine callsIn_wide.2 ((aQ (a.heap.size+1) (λf d i=>o f d i/\i.heap[a.heap.size+1]? =A (.loop (t .ready Z))/\i.heap[a.heap.size]? =A (.deferred (A []))/\∀b,d b->b≠a.heap.size/\b≠a.heap.size+1) h P aG ?_ (λf d i g=>av f d i g.1) ?_ ⟨a5,a2,a3,λb c=>Y (a4 b c)⟩).mono ?_);rintro f d i ae ⟨z,m,c,n⟩ k;have R:=(bM.1 c).1;exact⟨Q _ _ _ _ z (k.mono λb _ c=>⟨Y c.1,c.2⟩),(k.block _ ((bM.1 m).1) λe=>Y e.1).trans m,(k.block _ R λe=>Y e.1).trans c,n⟩;rintro f l d j ⟨z,m,c,n⟩ a6;have aI:=(bM.1 m).1;have aJ:=run_yield (P:=W9) (args:=K l) m (by rw[p];exact aR l);rw[p]at aJ;refine⟨ah,_,w,x,aJ,roundIn_of_wpIn aY (wpIn_mono (aT (a.heap.size+1) f l d j z a6 aI λb c=>(n b c).2) ?_)⟩;intro e aA q hp;cases e with
  |normal=>
   obtain⟨a8,a9⟩:=hp;have R:=(a8.block _ aI).trans m;have ba:=(bM.1 R).1;refine⟨_,run_beginRound R (by rw[p]),wpIn_mono (a9 _ (hc q _ _)) ?_⟩;intro bb bq bc u;cases bb with
    |normal=>
     obtain⟨U,be,k,ai,ak⟩:=u;rw[World.putObj_heap_same ba]at ai;have aK:=(bM.1 ai).1;have bf:¬U (a.heap.size+1):=λg=>by rcases ak _ g with g|g;exact(n _ g).2 J;omega
     refine⟨_,_,(run_endRound (P:=W9) Z ai),J,U,⟨Q _ _ _ _ be ((hc bc _ _).mono λb _ c=>by subst c;exact⟨O,bf⟩),?_,?_,λb c=>?_⟩,?_,ak⟩;rw[World.putObj_heap_same aK];rw[p];rfl;rw[World.putObj_heap_other O];exact(k.block _ O λe=>by rcases e with e|e;exact(n _ e).1 J;omega).trans c;rcases ak b c with g|g;exact n b g;omega;refine⟨k.os,k.tape,k.output,X k.size,λb c bg=>?_⟩;by_cases al:b=a.heap.size+1;subst al;rw[World.putObj_heap_same aK,m,p];rfl;rw[World.putObj_heap_other al];exact k.block b c λe=>by rcases e with e|e;exact bg e;exact al e
    |ret=>exact u.elim
    |exit id=>exact u.elim
    |goto ag=>exact u.elim
    |panic bh=>exact u.elim
    |outgrown=>exact u.elim
  |ret=>exact hp.elim
  |exit id=>exact hp.elim
  |goto ag=>exact hp.elim
  |panic bh=>exact hp.elim
  |outgrown=>exact hp.elim
 rintro e q ⟨⟨aC,rfl⟩,U,z,m,c,n⟩;have aN:=run_endLoop (P:=W9) m (by rw[p];simp);rw[p]at aN;refine⟨Z,_,aN,aX U _ (Q _ _ _ _ z ((hc q _ _).mono λb _ c=>by subst c;exact⟨O,λg=>(n _ g).2 J⟩)) ?_ ?_⟩;exact(World.putObj_heap_other O).trans c;exact λb g=>(n b g).1
end
section
structure bU(a:aD)(b:W)where
 w:W
 aO:M a b w
instance(b:aD)(a:W):Nonempty (bU b a):=⟨⟨a,M.refl _ _⟩⟩
def dU(a:aD)(b:W)(c:W):Prop:=∃d:bU a b,c=d.w
def dU.mk{b:aD}{c a:W}(d:M b c a):dU b c a:=⟨⟨a,d⟩,J⟩
def bU.cell{G:aD}{b:W}{a c:N}{d:V}(f:C b ⟨a,c,Z⟩=A d)(g:¬G a)(e:bU G b):e.w.cell? ⟨a,c,Z⟩=A d:=e.aO.cell f g
def M.drew{b:aD}{c a:W}(d:M b c a):M b c a.drew:=d.trans (M.bw (I':=λ_=>False) (an a)) I2 (λ_ _ e=>e.elim)
def M.then{b:aD}{c a d:W}(e:M b c a)(f:B a a d):M b c d:=e.trans (M.bw (I':=λ_=>False) f) I2 (λ_ _ g=>g.elim)
structure i3(a:W)where
 w:W
 bw:B a a w
instance(a:W):Nonempty (i3 a):=⟨⟨a,aS _ _⟩⟩
def dp(a:W)(b:W):Prop:=∃c:i3 a,b=c.w
def dp.mk{a b:W}(c:B a a b):dp a b:=⟨⟨b,c⟩,J⟩
def i3.cell{a:W}{p:bQ}{b:V}(d:C a p=A b)(c:i3 a):c.w.cell? p=A b:=s c.bw d
@[go_sem] theorem WD{w0:World}{p:Addr}{v:Value}(z:i3 w0)(h:w0.cell? p=some v):z.w.cell? p=some v:=i3.cell h z
structure w5 where
 w:W
instance:Nonempty w5:=⟨⟨default⟩⟩
def pb(a:W):Prop:=∃b:w5,a=b.w
def w6(a:W):pb a:=⟨⟨a⟩,J⟩
def WE{W':cb}{a:W}(b:bQ)(c:Mode)(d:Fn)(e f:Array V):(store b (.func d e f) c).run W' a=stored W' a b (.func d e f) c:=run_store W' a b _ c J
def WF{W':cb}{a:W}(b:bQ)(c:Mode):(store b .nilFunc c).run W' a=stored W' a b .nilFunc c:=run_store W' a b _ c J
section
variable{W':cb}{Xa:Array bd}{Xb:Region.Mode}{Xc:W->Prop}
def s6(a:W)(b:V):Result Next->Prop
 | .ok (.value c) d=>d=a/\c=b
 |_=>False
def qK(W':cb)(b:bd)(c:a')(a:W)(d:V):Prop:=s6 a d ((execOp c.eval b).run W' a)
def nZ(W':cb)(a:bd)(b:a')(Xc:W->Prop)(next:a'->Prop):Prop:=∃c,(∀d,Xc d->qK W' a b d c)/\next (b.put a.dst c)
attribute [go_sem] nZ qK s6 dp pb dU WE WF
def qL{c:bd}{d:a'}{a:W}{e:V}(b:qK W' c d a e):(execOp d.eval c).run W' a= .ok (.value e) a:=by
 unfold qK at b;generalize(execOp d.eval c).run W' a=f at*;cases f with
  |ok g h=>cases g<;>simp only[s6]at b;obtain⟨rfl,rfl⟩:=b;rfl
  |halt i h=>simp only[s6]at b
inductive Mo
 |d
 |p (i:N) (t:Mo)
 |r (i:N) (t:Mo)
 |a (i:N) (t:Mo)
 |z (i:N) (t:Mo)
 |f (i:N) (t:Mo) (j:N) (u:Mo)
def Mo.len:Mo->N
 | .d=>0
 | .p _ b=>b.len+1
 | .r _ b=>b.len+1
 | .a _ b=>b.len+1
 | .z _ b=>b.len+1
 | .f _ b _ _=>b.len+1
def Mo.zs:Mo->br
 | .d=>[]
 | .p _ b=>b.zs
 | .r _ b=>b.zs
 | .a _ b=>b.zs
 | .z c b=>c::b.zs
 | .f _ b _ _=>b.zs
def Mo.mH:Mo->Bool
 | .d=>T
 | .p _ a=>a.mH
 | .z _ a=>a.mH
 |_=>F
def Mo.fq:Mo->Bool
 | .d=>T
 | .p _ b=>b.fq
 | .r _ b=>b.fq
 | .a _ b=>b.fq
 | .z _ b=>b.mH
 | .f _ b _ c=>b.fq&&c.fq
def Mo.w7:∀c:Mo,c.mH=T->c.fq=T
 | .d,_=>rfl
 | .p _ c,b=>w7 c b
 | .z _ _,b=>b
 | .r _ _,b=>by cases b
 | .a _ _,b=>by cases b
 | .f _ _ _ _,b=>by cases b
def n0(W':cb)(Xa:Array bd)(f:bJ)(Xc:W->Prop)(g:N)(c:a'->W->Prop)(b:a')(d:W):Prop:=∃a,Xa[g]? =A a/\if Region.wanted a (yielded Xa b.tmps)then a.wp W' b d (λh e=>Xc e/\c h e) f else c (b.put a.dst undef) d
def qM(W':cb)(Xa:Array bd)(Xc:W->Prop)(d:N)(c:a'->Prop)(b:a'):Prop:=∃a,Xa[d]? =A a/\if Region.wanted a (yielded Xa b.tmps)then nZ W' a b Xc c else c (b.put a.dst undef)
def cL(W':cb)(Xa:Array bd)(e:bJ)(Xc:W->Prop):Mo->a'->W->Prop
 | .d,b,c=>e .normal b c
 | .p h i,b,c=>qM W' Xa pb h (λg=>cL W' Xa e Xc i g c) b
 | .r h i,b,c=>qM W' Xa Xc h (λg=>cL W' Xa e Xc i g c) b
 | .a h i,b,c=>n0 W' Xa e Xc h (λg j=>cL W' Xa e Xc i g j) b c
 | .z h i,b,c=>n0 W' Xa e (λ_=>True) h (λg j=>cL W' Xa e Xc i g j) b c
 | .f h i k l,b,c=>n0 W' Xa e Xc h (λg j=>cL W' Xa e Xc i g j) b c/\n0 W' Xa e Xc k (λg j=>cL W' Xa e Xc l g j) b c
def gc{a:bJ}{b:a'}{c:W}(e:a .normal b c):cL W' Xa a Xc .d b c:=e
def La{e:bJ}{f:N}{b:bd}{g:Mo}{a:a'}{h:W} (c:∀d:a'->Prop,(∀a,cL W' Xa e Xc g a h->d a)->if Region.wanted b (yielded Xa a.tmps)then nZ W' b a pb d else d (a.put b.dst undef)) (i:Xa[f]? =A b:=by exact J):cL W' Xa e Xc (.p f g) a h:=⟨b,i,c _ (λ_ c=>c)⟩
def lJ{e:bJ}{f:N}{b:bd}{g:Mo}{a:a'}{h:W} (c:∀d:a'->Prop,(∀a,cL W' Xa e Xc g a h->d a)->if Region.wanted b (yielded Xa a.tmps)then nZ W' b a Xc d else d (a.put b.dst undef)) (i:Xa[f]? =A b:=by exact J):cL W' Xa e Xc (.r f g) a h:=⟨b,i,c _ (λ_ c=>c)⟩
def qN{d:bJ}{e:N}{c:bd}{f:a'->W->Prop}{a:a'}{b:W}(h:Xa[e]? =A c)(i:Region.wanted c (yielded Xa a.tmps)=T) (j:∀g:a'->W->Prop,H (∀a b,Xc b->f a b->g a b)->c.wp W' a b g d):n0 W' Xa d Xc e f a b:=⟨c,h,by rw[am i];exact j _ (λ_ _ k l=>⟨k,l⟩)⟩
def aU{d:bJ}{f:N}{e:bd}{g:Mo}{b:a'}{c:W} (i:∀h:a'->W->Prop,H (∀b c,Xc c->cL W' Xa d Xc g b c->h b c)->e.wp W' b c h d) (j:Xa[f]? =A e:=by exact J) (k:Region.wanted e (yielded Xa b.tmps)=T:=by rfl):cL W' Xa d Xc (.a f g) b c:=qN j k i
def b4{d:bJ}{f:N}{e:bd}{g:Mo}{a:a'}{b:W} (h:∀c:a'->W->Prop,H (∀a b,cL W' Xa d Xc g a b->c a b)->e.wp W' a b c d) (i:Xa[f]? =A e:=by exact J) (j:Region.wanted e (yielded Xa a.tmps)=T:=by rfl):cL W' Xa d Xc (.z f g) a b:=qN i j λc k=>h c (λa b l=>k a b trivial l)
def gN{c:bJ}{h i:N}{e g:bd}{j k:Mo}{a:a'}{b:W} (l:∀d:a'->W->Prop,H (∀a b,Xc b->cL W' Xa c Xc j a b->d a b)->e.wp W' a b d c) (m:∀d:a'->W->Prop,H (∀a b,Xc b->cL W' Xa c Xc k a b->d a b)->g.wp W' a b d c) (n:Xa[h]? =A e:=by exact J) (o:Region.wanted e (yielded Xa a.tmps)=T:=by rfl) (p:Xa[i]? =A g:=by exact J) (q:Region.wanted g (yielded Xa a.tmps)=T:=by rfl):cL W' Xa c Xc (.f h j i k) a b:=⟨qN n o l,qN p q m⟩
def qO{d:bJ}{e:N}{b:bd}{f:Mo}{c:a'}{g:W} (h:cL W' Xa d Xc f (c.put b.dst undef) g) (i:Xa[e]? =A b:=by exact J) (j:Region.wanted b (yielded Xa c.tmps)=F:=by rfl):cL W' Xa d Xc (.a e f) c g:=⟨b,i,by rw[ak (by rw[j];simp)];exact h⟩
def mS{c:bJ}{d:Mo}{e:a'}{f:W}{g:Prop}(a:g)(i:H g->cL W' Xa c Xc d e f:=by intro a;first|(refine La λh b=>?_;go_simp;exact b _ a.oo)|(refine lJ λh b=>?_;go_simp;exact b _ a.oo)|(refine b4 λh b=>?_;go_simp;exact b _ _ a.oo)):cL W' Xa c Xc d e f:=i a
def pc(Xb:Region.Mode)(Xa:Array bd)(b:N)(c:br):N->N->Bool
 |0,_=>F
 |e+1,d=>(List.range Xa.size).any λa=>decide (d<a)&&Region.waitsFor Xb Xa a d&&(decide (a=b)||(!c.contains a&&pc Xb Xa b c e a))
def hd(Xb:Region.Mode)(Xa:Array bd):br->Bool
 |b::a::c=>Region.waitsFor Xb Xa a b&&hd Xb Xa (a::c)
 |_=>T
def he(Xb:Region.Mode)(Xa:Array bd)(a:Array Bool):Prop:=a.size=Xa.size/\∀b c,Xa[b]? =A c->a.getD b F=T->∀d∈c.after,Region.binds Xb d=T->a.getD d.on F=T
def he.set{a:Array Bool}{b:N}(e:he Xb Xa a)(n:b∈Region.ready Xb Xa a):he Xb Xa (a.setIfInBounds b T):=by
 have⟨_,o,f,p⟩:=mem_ready.1 n;have q:∀d,a.getD d F=T->(a.setIfInBounds b T).getD d F=T:=λd r=>by
  by_cases c:b=d;subst c;have s:b<a.size:=by rw[e.1];exact(bM.1 f).1
  simp[s];rw[getD_set_ne F c];exact r
 refine⟨by simp[e.1],λg h i j c k l=>q _ ?_⟩;by_cases m:b=g;subst m;have:h=o:=Option.some.inj (i.symm.trans f);subst this;exact p c k l;exact e.2 g h i (by rw[getD_set_ne F m]at j;exact j) c k l
def w8{a:Array Bool}{b c:N}(d:he Xb Xa a)(e:Region.waitsFor Xb Xa b c=T)(f:a.getD b F=T):a.getD c F=T:=by obtain⟨g,h,i,j,k,rfl⟩:=Region.waitsFor_spec e;exact d.2 b g h f i j k
def w9{a:Array Bool}{b c:N}(d:Region.waitsFor Xb Xa b c=T)(e:b∈Region.ready Xb Xa a):a.getD c F=T:=by obtain⟨f,g,h,i,j,rfl⟩:=Region.waitsFor_spec d;have⟨_,k,l,m⟩:=mem_ready.1 e;have:f=k:=Option.some.inj (g.symm.trans l);subst this;exact m h i j
def s7{e:N}{l:br}{a:Array Bool}(i:he Xb Xa a):∀(f g:N),pc Xb Xa e l f g=T->a.getD g F=F->a.getD e F=F/\e∉Region.ready Xb Xa a
 |0,_,c,_=>by simp[pc]at c
 |f+1,g,c,d=>by
  unfold pc at c;have⟨h,_,b⟩:=List.any_eq_true.1 c;simp only[cr,Bool.or_eq_true,ez]at b;obtain⟨⟨_,j⟩,b⟩:=b;have k:a.getD h F=F:=by
   cases m:a.getD h F with
    |false=>rfl
    |true=>rw[w8 i j m]at d;cases d
  rcases b with rfl|⟨_,b⟩;exact⟨k,λn=>by rw[w9 j n]at d;cases d⟩;exact s7 i f h b k
def s8{a:Array Bool}(i:he Xb Xa a):∀(f:N)(b:br),hd Xb Xa (f::b)=T->a.getD f F=F->∀c∈b,a.getD c F=F/\c∉Region.ready Xb Xa a
 |_,[],_,_=>D
 |f,g::b,d,e=>by
  simp only[hd,cr]at d;have j:a.getD g F=F:=by
   cases k:a.getD g F with
    |false=>rfl
    |true=>rw[w8 i d.1 k]at e;cases e
  intro c h;rcases cK.1 h with rfl|h;exact⟨j,λl=>by rw[w9 d.1 l]at e;cases e⟩;exact s8 i g b d.2 j c h
def kJ(W':cb)(Xb:Region.Mode)(Xa:Array bd)(c:bJ)(Xc:W->Prop)(f:br):N->Array Bool->a'->W->Prop
 |0,a,d,b=>Region.ready Xb Xa a=[]/\c .normal d b
 |fuel+1,a,d,b=>(Region.ready Xb Xa a=[]->c .normal d b)/\∀e∈Region.ready Xb Xa a,wpOp W' Xa c e (λh g=>(e∉f->Xc b->Xc g)/\kJ W' Xb Xa c Xc f fuel (a.setIfInBounds e T) h g) d b
def s9{b:bJ}{KE:br}:∀(fuel:N)(c:Array Bool)(d:a')(e:W),kJ W' Xb Xa b Xc KE fuel c d e->wpAny W' Xb Xa b fuel c d e
 |0,_,_,_,a=>a
 |fuel+1,_,_,_,a=>⟨a.1,λf g=>wpOp_mono (λh i j=>s9 fuel _ h i j.2) (a.2 f g)⟩
def qP{s:bJ}{Jj:W->Prop}{y:br}{d:N}{l:bd}{t:V}(z:Xa[d]? =A l)(H:∀(a:N)(K:bd) o p,Xa[a]? =A K->K.op≠.select o p)(X:∀u e Y t c,s (.panic u) (e.put Y t) c->s (.panic u) e c)(ad:∀(a:N)(b:Array Bool)(c q:W),he Xb Xa b->b.getD d T=F->a∈Region.ready Xb Xa b->Jj c->(a∉y->Xc c->Xc q)->Jj q):∀(fuel:N)(b:Array Bool)(e:a')(c:W),he Xb Xa b->(∀a i,Xa[a]? =A i->a≠d->b.getD a T=F->(∀f∈i.after,Region.binds Xb f=T->f.on≠d)->l.apart Xa i=T)->d∈Region.ready Xb Xa b->YieldsIf W' Xa Jj l t e->Jj c->kJ W' Xb Xa s Xc y fuel (b.setIfInBounds d T) (e.put l.dst t) c->kJ W' Xb Xa s Xc y (fuel+1) b e c:=by
 intro fuel;induction fuel with
  |zero=>intro b e c _ _ g v w r;refine⟨λj=>(by rw[j]at g;cases g),λa m=>?_⟩;by_cases h:a=d;subst h;exact v.wpOp z w ⟨λ_ j=>j,r⟩;have:=ready_mono m h;rw[r.1]at this;cases this
  |succ fuel ae=>
   intro b e c M O g v w r;refine⟨λj=>(by rw[j]at g;cases g),λa m=>?_⟩;by_cases h:a=d;subst h;exact v.wpOp z w ⟨λ_ j=>j,r⟩;have k:=r.2 a (ready_mono m h);have⟨P,i,D,ag⟩:=mem_ready.1 m;have ah:∀f∈i.after,Region.binds Xb f=T->f.on≠d:=λf ai ak al=>by have k:=ag f ai ak;have Q:=(mem_ready.1 g).1;rw[al]at k;rcases Nat.lt_or_ge d b.size with G|G;simp[G]at Q k;rw[Q]at k;cases k;simp[Array.getElem?_eq_none G]at k
   have am:∀n ok,Xa[n]? =A ok->n≠d->(b.setIfInBounds a T).getD n T=F->(∀f∈ok.after,Region.binds Xb f=T->f.on≠d)->l.apart Xa ok=T:=λn ok an ar R av=>by refine O n ok an ar ?_ av;by_cases U:a=n;subst U;exact P;rw[getD_set_ne T U]at R;exact R
   refine wpOp_mono (λax q x=>⟨x.2.1,ae (b.setIfInBounds a T) ax q (M.set m) am (ready_mono g (Ne.symm h)) x.1 (ad a b c q M (mem_ready.1 g).1 m w x.2.1) ?_⟩) (wpOp_putIf D (O a i D h P ah) (λo p=>H d l o p z) (λo p=>H a i o p D) (λu e c=>X u e _ _ c) v k);rw[Array.setIfInBounds_comm _ _ h];exact x.2.2
def dg(Xb:Region.Mode)(Xa:Array bd)(e:br):Mo->Array Bool->Bool
 | .d,c=>(Region.ready Xb Xa c).isEmpty
 | .p b g,c=>(Region.ready Xb Xa c).contains b&&Region.free Xb Xa c b&&dg Xb Xa e g (c.setIfInBounds b T)
 | .r b g,c=>(Region.ready Xb Xa c).contains b&&Region.free Xb Xa c b&&(e.isEmpty||pc Xb Xa (e.headD 0) e Xa.size b)&&dg Xb Xa e g (c.setIfInBounds b T)
 | .a b g,c=>decide (Region.ready Xb Xa c=[b])&& !e.contains b&&dg Xb Xa e g (c.setIfInBounds b T)
 | .z b g,c=>decide (Region.ready Xb Xa c=[b])&&e.contains b&&dg Xb Xa e g (c.setIfInBounds b T)
 | .f b g h i,c=>(decide (Region.ready Xb Xa c=[b,h])||decide (Region.ready Xb Xa c=[h,b]))&& !e.contains b&& !e.contains h&&decide (g.len=i.len)&&dg Xb Xa e g (c.setIfInBounds b T)&&dg Xb Xa e i (c.setIfInBounds h T)
def qQ{e:bJ}{f:br}{h:W->Prop}{c k:N}{l:Array Bool}{m:a'->W->Prop}{i:a'}{g:W}(p:c∉f->∀a,h a->Xc a)(n:∀d a,(h a\/a=g)->m d a->kJ W' Xb Xa e Xc f k (l.setIfInBounds c T) d a)(b:n0 W' Xa e h c m i g):wpOp W' Xa e c (λd a=>(c∉f->Xc g->Xc a)/\kJ W' Xb Xa e Xc f k (l.setIfInBounds c T) d a) i g:=by obtain⟨q,r,b⟩:=b;unfold wpOp;simp only[r];by_cases o:Region.wanted q (yielded Xa i.tmps)=T;rw[am o]at b⊢;exact .inl (Oper.wp_mono (λd a j=>⟨λs _=>p s a j.1,n d a (.inl j.1) j.2⟩) b);rw[ak o]at b⊢;exact⟨λ_ b=>b,n _ _ (.inr J) b⟩
def lK{H:bJ}{x:br}(v:Region.noSelect Xa=T)(O:hd Xb Xa x=T)(w:∀av j aE ah c,H (.panic av) (j.put aE ah) c->H (.panic av) j c):∀(e:Mo)(h:Array Bool)(j:a')(c:W),he Xb Xa h->e.fq=T->dg Xb Xa x e h=T->(e.mH=F->Xc c)->cL W' Xa H Xc e j c->kJ W' Xb Xa H Xc x e.len h j c
 | .d,_,_,_,_,_,k,_,b=>⟨by simpa[dg]using k,b⟩
 | .p o e,h,j,c,m,q,k,K,b=>by
  simp only[dg,cr]at k;obtain⟨⟨g,Y⟩,P⟩:=k;obtain⟨ai,y,b⟩:=b;have Q:o∈Region.ready Xb Xa h:=X g
  have ad:∀i,cL W' Xa H Xc e i c->kJ W' Xb Xa H Xc x e.len (h.setIfInBounds o T) i c:=λi s=>lK v O w e _ i c (m.set Q) q P K s;by_cases t:Region.wanted ai (yielded Xa j.tmps)=T;rw[am t]at b;obtain⟨ah,R,al⟩:=b;exact qP (Jj:=λ_=>True) y (Region.noSelect_spec v) w (λ_ _ _ _ _ _ _ _ _=>trivial) e.len h j c m (Region.free_spec y Y) Q (.inl ⟨t,λl _=>qL (R l (w6 l))⟩) trivial (ad _ al);rw[ak t]at b;exact qP (Jj:=λ_=>True) y (Region.noSelect_spec v) w (λ_ _ _ _ _ _ _ _ _=>trivial) e.len h j c m (Region.free_spec y Y) Q (.inr ⟨X t,J⟩) trivial (ad _ b)
 | .r o e,h,j,c,m,q,k,K,b=>by
  simp only[dg,cr]at k;obtain⟨⟨⟨g,Y⟩,n⟩,P⟩:=k;obtain⟨ai,y,b⟩:=b;have M:=K J;have Q:o∈Region.ready Xb Xa h:=X g
  have ad:∀i,cL W' Xa H Xc e i c->kJ W' Xb Xa H Xc x e.len (h.setIfInBounds o T) i c:=λi s=>lK v O w e _ i c (m.set Q) q P (λ_=>M) s;have ax:∀(u:N) (h:Array Bool) (c l:W),he Xb Xa h->h.getD o T=F->u∈Region.ready Xb Xa h->Xc c->(u∉x->Xc c->Xc l)->Xc l:=λu h c l ay aA G t aF=>aF (λag=>by
   rw[Bool.or_eq_true]at n;cases x with
    |nil=>cases ag
    |cons aG x=>rcases n with n|n;simp at n;have⟨aI,aJ⟩:=s7 ay _ _ n (getD_both aA);rcases cK.1 ag with rfl|ag;exact aJ G;exact(s8 ay aG x O aI u ag).2 G) t
  by_cases t:Region.wanted ai (yielded Xa j.tmps)=T;rw[am t]at b;obtain⟨ah,R,al⟩:=b;exact qP (Jj:=Xc) y (Region.noSelect_spec v) w ax e.len h j c m (Region.free_spec y Y) Q (.inl ⟨t,λl aK=>qL (R l aK)⟩) M (ad _ al);rw[ak t]at b;exact qP (Jj:=Xc) y (Region.noSelect_spec v) w ax e.len h j c m (Region.free_spec y Y) Q (.inr ⟨X t,J⟩) M (ad _ b)
 | .a o e,h,j,c,m,q,k,K,b=>by
  simp only[dg,cr,ez]at k;obtain⟨⟨g,n⟩,P⟩:=k;have M:=K J;refine⟨λR=>absurd (g.symm.trans R) D,λu G=>?_⟩;have:u=o:=by rw[g]at G;simpa using G
  subst this;exact qQ (λ_ _ b=>b) (λi l ae s=>lK v O w e _ i l (m.set (by rw[g];simp)) q P (λ_=>by rcases ae with b|rfl;exact b;exact M) s) b
 | .z o e,h,j,c,m,q,k,K,b=>by
  simp only[dg,cr,ez]at k;obtain⟨⟨g,n⟩,P⟩:=k;have aC:e.mH=T:=q;refine⟨λR=>absurd (g.symm.trans R) D,λu G=>?_⟩;have:u=o:=by rw[g]at G;simpa using G
  subst this;exact qQ (λU=>absurd (X n) U) (λi l _ s=>lK v O w e _ i l (m.set (by rw[g];simp)) (Mo.w7 e aC) P (λU=>by rw[aC]at U;cases U) s) b
 | .f o e u aL,h,j,c,m,q,k,K,b=>by
  simp only[dg,cr,Bool.or_eq_true,ez]at k;obtain⟨⟨⟨⟨⟨g,aA⟩,G⟩,aN⟩,aO⟩,aP⟩:=k;simp only[Mo.fq,cr]at q;have M:=K J;have ar:o∈Region.ready Xb Xa h:=by rcases g with g|g<;>rw[g]<;>simp
  have aQ:u∈Region.ready Xb Xa h:=by rcases g with g|g<;>rw[g]<;>simp
  refine⟨λU=>(by rw[U]at ar;cases ar),λaD n=>?_⟩;have n:aD=o\/aD=u:=by rcases g with g|g<;>rw[g]at n<;>simp at n<;>omega
  rcases n with rfl|rfl;exact qQ (λ_ _ b=>b) (λi l ae s=>lK v O w e _ i l (m.set ar) q.1 aO (λ_=>by rcases ae with b|rfl;exact b;exact M) s) b.1;exact qQ (λ_ _ b=>b) (λi l ae s=>by rw[aN];exact lK v O w aL _ i l (m.set aQ) q.2 aP (λ_=>by rcases ae with b|rfl;exact b;exact M) s) b.2
def fw{id:N}{e:bJ}{d:a'}{c:W}{a:E bd}(b:Mo)(Xc:W->Prop)(i:W'.follows .mixedOrders=T)(f:(Region.noSelect a.toArray&&decide (b.len=L a)&&hd .any a.toArray b.zs&&b.fq&&dg .any a.toArray b.zs b (Array.replicate (L a) F))=T)(j:∀g d k l c,e (.panic g) (d.put k l) c->e (.panic g) d c)(m:Xc c.drew)(n:cL W' a.toArray e Xc b d c.drew):(Code.region id a.toArray T).wp W' e d c:=by simp only[cr,ez]at f;obtain⟨⟨⟨⟨o,p⟩,q⟩,r⟩,s⟩:=f;refine wp_region_any i (s9 (Xc:=Xc) (KE:=b.zs) _ _ _ _ ?_);have:=lK (W':=W') (Xb:=.any) o q j b (Array.replicate (L a) F) d c.drew ⟨D,λu v _ h=>by rw[getD_replicate_false]at h;cases h⟩ r s (λ_=>m) n;rw[p]at this;simpa using this
end
end
section
attribute [local go_sem] Oper.semAt_some
def m3{a:cb}{c:FuncId}{b:Func}{d:Code}{args:Array V}{e:bp->W->Prop}(f:a.funcs[c]? =A b)(g:b.body=A d) (h:d.wp a (bodyPostM Fence.wide 0 a b e) {tmps:=args++Array.replicate (b.ntmps-args.size) undef,defers:=[]} w):ap a c args w e:=callsIn_wide.1 (callsIn_of_wp_marks f g trivial (wpIn_wide.2 h))
def Lb{d:cb}{e:Func}{f:bp->W->Prop}{g:Array V}(h:w.heap[a]? =A (.deferred (A []))) (i:(results e g).run d (w.putObj a (.deferred Z))= .ok u (w.putObj a (.deferred Z))) (k:f (aq u) (w.putObj a (.deferred Z))):bodyPostM Fence.wide 0 d e f .normal {tmps:=g,defers:=[{target:=.collected a,args:=#[]}]} w:=⟨D,.inl ⟨_,_,J,run_takeDeferred h,⟨_,i,k⟩⟩⟩
def kK{d:cb}{e:Func}{f:bp->W->Prop}{g:Array V}{Kl:V}(h:w.heap[a]? =A (.deferred (A []))) (i:(results e g).run d (w.putObj a (.deferred Z))= .ok Kl (w.putObj a (.deferred Z))) (j:f (aq Kl) (w.putObj a (.deferred Z))):bodyPostM Fence.wide 0 d e f .ret {tmps:=g,defers:=[{target:=.collected a,args:=#[]}]} w:=⟨D,.inl ⟨_,_,J,run_takeDeferred h,⟨_,i,j⟩⟩⟩
def w'(a:W)(c:N)(d:V)(e:bp)(b:W):Prop:=e=aq (.func (.func c) #[] #[aM (A (a:N))])/\C b a=A d/\B a a b
def xa(a:V)(b:W)(JH:∃Jq J0 Ju,a=S Jq J0 Ju):ap ab 35 #[ao #[a]] b (w' b 49 a):=vM
end
section
attribute [local go_sem] Oper.semAt_some
def ed(b:I)(c:ag):b7:=c.map λa=>(a.1,a.2,b)
def ee(a:I)(b:ar):b7:=(b.map (ed a)).flatten
def dq(b:aV):N->b7
 |0=>[]
 |a+1=>dq b a++ee a (aC b a)
def qR(a:Int×Int×Int):Array Value:=#[.agg #[.int .i64 a.1,.int .i64 a.2.1,.int .i64 a.2.2]]
def xb(c:I)(a:ar)(b:N)(d:b<L a):ee c (a.take (b+1))=ee c (a.take b)++ed c (ah a b):=by
 have e:ah a b=a[b]:=by simp[ah,d]
 rw[eR d,ee,ck,List.flatten_append];simp[ee,e]
def xc(c:I)(a:ag)(b:N)(d:b<L a):ed c (a.take (b+1))=ed c (a.take b)++[((al a b).1,(al a b).2,c)]:=by rw[iq a b d];simp[ed]
def Lc(b:aV)(c a:N)(e:c<=a):∃d,dq b a=dq b c++d:=by
 induction a with
  |zero=>rw[Nat.le_zero.1 e];exact⟨[],D⟩
  |succ a f=>by_cases g:c=a+1;subst g;exact⟨[],D⟩;have⟨d,h⟩:=f O;exact⟨d++ee a (aC b a),by rw[dq,h,ev]⟩
def Ld(b:I)(a:ar)(c:N)(d:c<L a):∃e,ee b a=ee b (a.take c)++(ed b (ah a c)++e):=by refine⟨ee b (a.drop (c+1)),?_⟩;rw[<-ev,<-xb b a c d,ee,ee,ee,<-List.flatten_append,<-ck,g']
def Le(b:I)(a:ag)(c:N)(d:c<L a):∃e,ed b a=ed b (a.take c)++(((al a c).1,(al a c).2,b)::e):=by
 refine⟨ed b (a.drop (c+1)),?_⟩;have f:ed b a=ed b (a.take (c+1))++ed b (a.drop (c+1)):=by rw[ed,ed,ed,<-ck,g']
 rw[f,xc b a c d];simp
def Lf(b:aV)(e a c d:N)(f:a<e)(g:c<(aC b a).length)(h:d<(ah (aC b a) c).length):∃i,dq b e=(dq b a++ee a ((aC b a).take c)++ed a ((ah (aC b a) c).take d))++(((al (ah (aC b a) c) d).1,(al (ah (aC b a) c) d).2,(a:I))::i):=by have⟨j,k⟩:=Lc b (a+1) e f;have⟨l,m⟩:=Ld a (aC b a) c g;have⟨n,o⟩:=Le a (ah (aC b a) c) d h;refine⟨n++l++j,?_⟩;rw[k,dq,m,o];simp[ev]
structure eA{a:Type}(b:E a->aD->W->Prop)(c d:N)(e f:W)(g:V)(h:E a)(wr:W):Prop where
 j:∃i,b h i wr
 bw:B c e wr
 cell:C wr d=A g
 size:(f:N)<=wr
variable{Xd:Type}{Xe:E Xd->aD->W->Prop}{Xf Xg:N}{Xh Xi:W}{Xj:V}{Xk:E Xd}{wr Xl:W}
def eA.next(b:eA Xe Xf Xg Xh Xi Xj Xk wr)(g:∀Xk a d e,Xe Xk a d->M (λf=>(Xi:N)<=f/\¬a f) d e->Xe Xk a e)(h:Xf<=wr)(c:B wr wr Xl):eA Xe Xf Xg Xh Xi Xj Xk Xl:=by have⟨a,i⟩:=b.j;exact⟨⟨a,g _ _ _ _ i (M.bw c)⟩,b.bw.trans (c.mono h),s c b.cell,a1 b.size c.size⟩
def eA.round{x:Xd}{b g:aD}(e:eA Xe Xf Xg Xh Xi Xj Xk wr)(h:Xe Xk b wr)(i:∀Xk b j,Xe Xk b j->∀a,b a->a<j.heap.size/\¬(a<Xf\/a=Xg))(k:Xf<=wr)(l:Xe (Xk++[x]) g Xl)(c:M b wr Xl):eA Xe Xf Xg Xh Xi Xj (Xk++[x]) Xl:=⟨⟨g,l⟩,e.bw.trans (c.bg k λa c f=>(i _ _ _ h a f).2 (.inl c)),c.cell e.cell (λf=>(i _ _ _ h Xg f).2 (.inr J)),a1 e.size c.size⟩
def xd(Xg:N)(Xh v:W)(Xj:V)(b:aV)(av:bq Xh Xj b)(ad:B Xh Xh v)(ax:C v Xg=A Xj):pa ab 49 #[aM (A Xg)] (λay=>ay<(Xh:N)\/ay=Xg) qR (dq b (L b)) v:=by
 intro a5 Xe Xi a6 w x aA aD aE;obtain⟨aF,f,k,rfl,aG,bx,aI⟩:=av.open;have ae:(Xh:N)<=v:=ad.size;have ag:eA Xe Xh Xg Xh Xi (S aF f k) [] Xi:=⟨⟨a6,aE⟩,ad.trans (w.mono ae),s w ax,aL _⟩
 have y:(Xh:N)<=Xi:=a1 ae w.size;have aK:=Q aD;have a8:=ag.cell;rw[aG]at aK⊢;change H _ at x aA ag aI aG;clear aD aE ad w ax av ae;go_in;go_wp2_with fail;clear a8;go_loopw [12] (λg wr=>∃(a:N),g=a/\a<=f/\eA Xe Xh Xg Xh Xi (S aF f k) (dq b a) wr) (λg _=>f-(aw g).toNat);exact⟨0,J,a3 _,ag⟩;obtain⟨a,rfl,bz,d⟩:=hrel;obtain⟨aN,rfl⟩:=K wr;have a9:=Q d;by_cases q:a<f
 ·obtain⟨r,t,ba,l,bb,rfl,h,ai⟩:=aI a q;have h:=s d.bw h;have bA:=aJ a;have bB:(a:I)<f:=by omega
  have⟨bC,aO,aP,bc,z⟩:=c8 aN (S ba l bb);have be:=Q (d.next x (a1 y d.size) aP);have⟨_,_,_,u,D,bD,aQ⟩:=ai.open;simp only[bf]at u;obtain⟨rfl,rfl,rfl⟩:=u;change H _ at aO aQ D;clear d aP bc ai;go_upto_region 3 with fail;rw[aO];generalize aN=bE at*;clear h;go_wp2_with fail;clear z;go_loopw [20] (λg wr=>∃(c:N),g=c/\c<=l/\eA Xe Xh Xg Xh Xi (S (A ⟨r,t,Z⟩) f k) (dq b a++ee a ((aC b a).take c)) wr) (λg _=>l-(aw g).toNat);exact⟨0,J,a3 _,by rw[show ee (a:I) ((aC b a).take 0)=[]from J,e'];exact be⟩;obtain⟨c,rfl,ai,d⟩:=hrel;obtain⟨ak,rfl⟩:=K wr;have bg:=Q d;by_cases m:c<l
  ·obtain⟨bF,bG,bh,n,bi,rfl,h,hp⟩:=aQ c m;have h:=s d.bw h;have bH:=aJ c;have bI:(c:I)<l:=by omega
   have⟨bJ,aR,aS,bk,z⟩:=d0 ak (S bh n bi);have bl:=Q (d.next x (a1 y d.size) aS);have⟨_,_,_,u,G,bK,aT⟩:=hp.open;simp only[bf]at u;obtain⟨rfl,rfl,rfl⟩:=u;change H _ at aR aT G;clear d aS bk hp;go_upto_region 6 with fail;rw[aR];generalize ak=bL at*;clear h;go_wp2_with fail;clear z;go_loopw [27] (λg wr=>∃(e:N),g=e/\e<=n/\eA Xe Xh Xg Xh Xi (S (A ⟨r,t,Z⟩) f k) (dq b a++ee a ((aC b a).take c)++ed a ((ah (aC b a) c).take e)) wr) (λg _=>n-(aw g).toNat);exact⟨0,J,a3 _,by rw[show ed (a:I) ((ah (aC b a) c).take 0)=[]from J,e'];exact bl⟩;obtain⟨e,rfl,bM,d⟩:=hrel;obtain⟨am,rfl⟩:=K wr;have bm:=Q d;by_cases o:e<n
   ·obtain⟨bN,bO,rfl,h,f1⟩:=aT e o;have h:=s d.bw h;have f1:=s d.bw f1;have bP:=aJ e;have bR:(e:I)<n:=by omega
    have⟨bn,aU⟩:=Lf b f a c e q (by rw[D];exact m) (by rw[G];exact o);have aW:=xc a (ah (aC b a) c) e (by rw[G];exact o);have⟨aX,aY,a0,bo,z,bS⟩:=eU am (al (ah (aC b a) c) e).1 (al (ah (aC b a) c) e).2;have P:=d.next x (a1 y d.size) a0;have⟨a2,an⟩:=P.j;have R:=aK _ _ a2 aX an ⟨bn,aU⟩;have br:H (∀U X,Xe (dq b a++ee a ((aC b a).take c)++ed a ((ah (aC b a) c).take e)++[((al (ah (aC b a) c) e).1,(al (ah (aC b a) c) e).2,(a:I))]) U X->M a2 aX X->eA Xe Xh Xg Xh Xi (S (A ⟨r,t,Z⟩) f k) (dq b a++ee a ((aC b a).take c)++ed a ((ah (aC b a) c).take (e+1))) X):=Q (λU X i Y=>by rw[aW,<-ev];exact P.round an aA (a1 y P.size) i Y);obtain⟨bT,bU,bV,bW,R,a4⟩:=R;have bs:=Q a4;simp only[qR]at R;generalize(al (ah (aC b a) c) e).1=bX at*;generalize(al (ah (aC b a) c) e).2=bY at*;change H _ at aY;clear d a0 bo P an aU aW a4;go_upto_region 9 with fail;rw[aY];generalize am=bZ at*;clear h f1;refine wpIn_wide (n:=0).1 ?_;gi_wp2;refine⟨J,bs.mono ?_⟩;rintro p bt ⟨rfl,U,i,Y,bu⟩;have bv:=Q (br.oo U bt i Y);clear R i Y bu;gi_wp2;go_wp2;go_roundw;case rel=>exact⟨e+1,by go_num,kL o,bv⟩
    simp only[aw];first|exact dZ o|exact ea o O
   have p:e=n:=O
   subst p;have ar:H (eA Xe Xh Xg Xh Xi (S (A ⟨r,t,Z⟩) f k) (dq b a++ee a ((aC b a).take (c+1))) am):=Q (by rw[xb a (aC b a) c (by rw[D];exact m),<-ev];have i:=bm.oo;rw[cm (l:=ah (aC b a) c) (by rw[G];exact aL _)]at i;exact i);clear d;go_wp2;go_roundw;case rel=>exact⟨c+1,by go_num,kL m,ar⟩
   simp only[aw];first|exact dZ m|exact ea m O
  have p:c=l:=O
  subst p;have ar:H (eA Xe Xh Xg Xh Xi (S (A ⟨r,t,Z⟩) f k) (dq b (a+1)) ak):=Q (by have i:=bg.oo;rw[cm (by rw[D];exact aL _)]at i;exact i);clear d;go_wp2;go_roundw;case rel=>exact⟨a+1,by go_num,kL q,ar⟩
  simp only[aw];first|exact dZ q|exact ea q O
 have p:a=f:=O
 subst p;clear d;go_wp2;go_end0;exact⟨⟨_,J⟩,a9.j⟩
end
section
open Go.RowKit Go.Shelf
attribute [local go_sem] Oper.semAt_some
def c3{f:bj}{g:aP}{h:aD}(l:w.ownsRow c f a u b g)(q:M h w x)(s:∀j,af u=A j->¬h j):x.ownsRow c f a u b g:=by obtain⟨t,d⟩:=l;refine⟨t,?_⟩;rcases d with d|⟨e,v,y,rfl,z,k,D⟩;exact .inl d;exact .inr ⟨e,v,y,J,z,(q.block e (bM.1 k).1 (s e J)).trans k,D⟩
def aW.aO{a:bj}{IX:N}{b:ag}{I':aD}(e:aW a w IX u b)(g:M I' w x)(i:∀d,af u=A d->¬I' d):aW a x IX u b:=c3 e g i
def Lg{s:Fence}{t:Nat}{u:Array Oper}{v:List Oper}{i:Oper}{j:Act}{w:Exit->Act->World->Prop}(z:i.guard=none)(o p:Operand)(k c:TypeId)(q:Value)(D:prog.underlying k=some (.slice c))(G:(prog.info? c).map (λe=>(e.zero,e.size,e.bytes))=some (some q,2,16))(H:q.cells.size=2)(K:i.op= .call {callee:=.builtin .append,args:=#[o,p],argTypes:=#[k,k]})(a:World)(l:Nat)(f:Value)(b:List (Int×Int))(m n:Int)(M:j.eval o=f)(P:j.eval p= .slice (some (a:Nat)) 1 1)(Q:aW c a l f b)(an:b.length+1<=1000000000000)(ar:l<=(a:Nat))(R:∀d x g,aW c g l (.slice (some ⟨d,0,none⟩) (b.length+1) x) (b++[(m,n)])->a.grownBy g f.ownBlock->(f.ownBlock=some d\/(a:Nat)<=d)->wpListIn s t prog u w v (j.put i.dst (.slice (some ⟨d,0,none⟩) (b.length+1) x)) g):wpListIn s t prog u w (i::v) j (a.alloc (.cells #[m,n] c)):=by have⟨e,U,X,Y,ad⟩:=ew G;refine wpListIn_append_own_at _ z o p k K l c e q 2 16 D U X Y ad H av f b.length (be b) M (World.ownsRow.alloc Q _) ⟨a,0,none⟩ 1 1 [m,n] P J (wI a [m,n] _) kA eQ O aF ?_;intro ax g y h _ ae;rcases bW y with⟨_,ay⟩|⟨d,ag,rfl,_⟩;omega;refine R d ag g ?_ ⟨h.os,h.tape,h.output,by have:=h.size;simp at this;omega,λah ai ak=>?_⟩ (by rcases ae with r|r;exact .inl r.symm;exact .inr (by simp[Value.ownBlock]at r;omega));unfold aW;rw[bL,sZ];exact y;have:=h.block ah aF ak;rw[this];exact Below.heap_alloc _ _ _ ai
def s':(ab.info? 224).map (λa=>(a.zero,a.size,a.bytes))=A (A (ao #[(0:I),(0:I)]),2,16):=aT
def dL(b:I)(c:b7):ag:=(c.filter λa=>a.1==b).map λa=>(a.2.2,a.2.1)
def xe(a:I)(d:b7)(b:I×a4):dL a (d++[b])=if b.1==a then dL a d++[(b.2.2,b.2.1)]else dL a d:=by unfold dL;rw[h1,ck];by_cases c:(b.1==a)=T;rw[am c];simp[c];rw[ak c];simp[c]
def xf(b:I)(a:b7):(dL b a).length<=L a:=by unfold dL;rw[de];exact List.length_filter_le _ _
structure i4(i j b:N)(k:W)(f:I)(g:N)(l:b7)(m:aD)(a:W):Prop where
 ex:∃c d e,C a b=A (S c d e)/\aW 224 a g (S c d e) (dL f l)/\m=λh=>h=b\/(S c d e).ownBlock=A h
 free:aH a b=F
 jR:C a j=A (aa ac f)
 bw:B i k a
 size:g<=(a:N)
def i4.aO{IX:N}{k:W}{l:b7}{I':aD}(g:i4 a b c w i d l I' x)(f:M (λh=>IX<=h/\¬I' h) x k)(H:a<=IX)(K:b<IX)(u:a<=x):i4 a b c w i d l I' k:=by have⟨v,y,z,o,D,G⟩:=g.ex;subst G;refine⟨⟨v,y,z,f.cell o (λe=>e.2 (.inl J)),D.aO f (λh p e=>e.2 (.inr p)),J⟩,f.free g.free (aR _ _ o) (λe=>e.2 (.inl J)),f.cell g.jR (λe=>Y e.1),g.bw.trans (f.bg u λh p e=>Y e.1),a1 g.size f.size⟩
def i4.own{n:b7}{j:aD}(o:i4 a b c w i d n j x)(y:a<=c)(z:c≠e)(D:e<d)(G:a<=d):∀f,j f->f<(x:N)/\¬(f<a\/f=e):=by have⟨H,K,M,q,r,s⟩:=o.ex;subst s;intro f h;rcases h with rfl|h;exact⟨aR _ _ q,O⟩;have:=r.lt f h;exact⟨this.2,O⟩
def i4.push{r v:N}{D s:W}{c:I}{p:b7}{m:bz}{n o:N}(G:i4 a b d w c e p (λf=>f=d\/(S m n o).ownBlock=A f) x)(z:M (λf=>f=g) x D)(U:C x d=A (S m n o))(an:aW 224 x e (S m n o) (dL c p))(aF:d<e)(aG:g=e+1)(ar:g<x)(H:∀f,(f=d\/(S m n o).ownBlock=A f)->f≠g)(av:(i==c)=T)(ad:aW 224 s e (S (A r) ((dL c p).length+1) v) (dL c p++[(k,j)]))(K:D.grownBy s (S m n o).ownBlock)(aC:(S m n o).ownBlock=A r\/D<=r)(aD:a<=x)(aI:b<d)(aJ:a<=b):∃ae,i4 a b d w c e (p++[(i,j,k)]) ae (aj s d (S (A r) ((dL c p).length+1) v))/\M (λf=>(f=d\/(S m n o).ownBlock=A f)\/f=g) x (aj s d (S (A r) ((dL c p).length+1) v))/\(aj s d (S (A r) ((dL c p).length+1) v)).heap[g]? =D.heap[g]?/\∀f,ae f->(f=d\/(S m n o).ownBlock=A f)\/(x:N)<=f:=by
 have ag:=aR _ _ U;have R:∀f,(S m n o).ownBlock=A f->e<=f:=λf h=>(an.lt f h).1;have ah:A d≠(S m n o).ownBlock:=λh=>Y (R d h.symm)
 have aE:=K.cell (z.cell U (H d (.inl J))) ah;have aK:=(ad.lt r J).1;have O:M (λf=>(f=d\/(S m n o).ownBlock=A f)\/f=g) x (aj s d (S (A r) ((dL c p).length+1) v)):=(z.trans (I':=λf=>(f=d\/(S m n o).ownBlock=A f)\/f=g) (M.grown (I':=λf=>(S m n o).ownBlock=A f) K λf h=>h) (λf _ h=>.inr h) (λf _ h=>.inl (.inr h))).trans (M.grown (I':=λf=>f=d) (bn s ⟨d,0,Z⟩ _) λf h=>X h.symm) (λf _ h=>h) (λf _ h=>.inl (.inl h));refine⟨λf=>f=d\/(S (A r) ((dL c p).length+1) v).ownBlock=A f,⟨⟨_,_,_,bP _ _ _ (by rw[aE];rfl),?_,J⟩,?_,?_,?_,?_⟩,O,?_,λf ak=>?_⟩;rw[xe,am av];exact ad.kept (bn s ⟨d,0,Z⟩ _) (.inr sx);rw[bs];exact eS K (cg ag z.size) ah (z.free G.free ag (H d (.inl J)));exact O.cell G.jR (λh=>by rcases h with(h|h)|h;omega;have:=R _ h;omega;omega);exact G.bw.trans (O.bg aD λf ak h=>by rcases h with(h|h)|h;omega;have:=R _ h;omega;omega);exact a1 G.size O.size;rw[Below.heap_setCell _ _ _ _ (by simp;exact λh=>H d (.inl J) h.symm)];exact K.block g (cg ar z.size) (λh=>H g (.inr h.symm) J);rcases ak with h|h;exact .inl (.inl h);simp only[af,a2]at h;subst h;rcases aC with h|h;exact .inl (.inr h);exact .inr (Y z.size)
def xg(a:W)(c d e:I):∃b,a.alloc (az #[c,d,e] 91)=b/\B a a b/\b.heap.size=(a:N)+1/\C b a=A (aa ac c)/\C b ⟨a,1,Z⟩=A (aa ac d)/\C b ⟨a,2,Z⟩=A (aa ac e):=⟨_,J,aN _ _,D,aE,aE,aE⟩
def ta(a:W)(g:I)(b:aV)(h:bp)(c:W):Prop:=∃d e f,h=aq (S d e f)/\aW 224 c a (S d e f) (dL g (dq b (L b)))/\B a a c
def xh(a:W)(c:I):∃b,a.alloc (az #[c] 3)=b/\B a a b/\b.heap.size=(a:N)+1/\C b a=A (aa ac c):=⟨_,J,aN _ _,D,aE⟩
def Lh(a:W)(c:V):∃b,a.alloc (az #[c] 178)=b/\B a a b/\b.heap.size=(a:N)+1/\C b a=A c/\aH b a=F:=⟨_,J,aN _ _,D,aE,aE⟩
def tb(ad:V)(m:aV)(b:I)(e:W)(ae:bq e ad m)(aI:(dq m (L m)).length<=100000000000):ap ab 105 #[ao #[ad],b] e (ta e b m):=by
 have⟨be,aJ,bf,aK,aN⟩:=ec e ad;have⟨bh,aP,aQ,ag,bk⟩:=xh be b;have⟨ah,aS,ai,ak,al,am⟩:=Lh bh (S Z 0 0);have aU:=q bf (q aQ ai);have aN:=s (q aQ ai) aN;have an:=s ai bk;obtain⟨aX,a0,a2,rfl,_,_,_⟩:=ae.open;have bl:=Q (xa (S aX a0 a2) ah ⟨_,_,_,J⟩);rw[aK]at an ag;rw[ag]at al am ak;have bm:=Q ak;change H _ at aJ aP aS aU ae aI an al am;refine m3 func105 J ?_;simp only[ntmps105,List.size_toArray,dx,et,Nat.reduceAdd,Nat.reduceSub,Array.replicate_succ,Array.replicate_zero,List.push_toArray,List.append_toArray,List.nil_append,List.cons_append];go_upto_region 1 with(fail)
 rw[aJ,aP];go_upto_region 2 with(fail)
 rw[aS];clear aK ag ak;generalize w:(e:N)+1=n at*;generalize x:n+1=g at*;change H _ at w x;go_wp2_with fail;refine mU bl λd ⟨a3,y⟩=>?_;have bO:=bm.symm;have ar:=q aU y;have bn:=aR _ _ a3;have a4:i4 e n g e b d [] (λa=>a=g\/(S Z 0 0).ownBlock=A a) d:=⟨⟨Z,0,0,(s y al),aW.nil _ _ _,J⟩,(aY y O am),(s y an),ar,aL _⟩
 have bo:=Q (xd ah e d (S aX a0 a2) m ae ar a3);have av:=ar.size;change H _ at a4;go_wp2_with fail;generalize ah=bP at*;refine nY J (enters_of func49 aT J) bo (λ_=>rfl) (i4 e n g e b d) _ (λh o br bs f i=>f.aO i av (bi w.oo x.oo) (f.bw.size)) (λh o br f=>f.own (bi w.oo x.oo) O bn av) a4 ?round ?done;case round=>
  intro bR h bt o p f bu bv k;obtain⟨bS,bx⟩:=bu;have ax:(dL b h).length+1<=1000000000000:=by have a5:=xf b h;have bz:=aI.oo;rw[bx,bL]at bz;omega
  have bA:n<g:=Y x.oo
  obtain⟨j,r,t⟩:=bt;have⟨bT,a6,ay,bU,a8,a9,ba⟩:=xg p j r t;have⟨z,D,G,K,P,u⟩:=f.ex;subst u;have R:=Q f;have bB:=Q (xe b h (j,r,t));have bC:=f.size;replace ax:=Q ax;change H _ at a6 ay k;simp only[qR,List.zip_toArray,List.zip_cons_cons,List.zip_nil_left];gi_wp2;rw[a6];refine⟨ay,λaA U=>?_⟩;have aC:(p:N)≠(d:N)+1:=O
  have a8:=U.cell a8 aC;have a9:=U.cell a9 aC;have ba:=U.cell ba aC;have l:=(M.bw ay).trans U (O1:=λ_=>False) (λ_ _ c=>c.elim) I2;have bb:=l.cell K (k g (.inl J));have bD:=l.free R.free (aR _ _ K) (k g (.inl J));have bW:=l.cell R.jR O;have bE:=Q (P.aO l (λa i=>k a (.inr i)));have aD:=Q l;have aE:=Q P;have bF:H ((d:N)<=aA.heap.size):=Q (a1 bC l.size);change H _ at K;by_cases bc:j=b
  ·have aF:(j==b)=T:=by simpa using bc
   gi_wp2_with (gi_at_builtin;refine Lg J _ _ 178 224 _ underlying178 s' J J aA d (S z D G) (dL b h) t r J J bE ax bF.out ?_);intro bX bY bZ a5 aG bG;have bH:=Q (R.oo.push aD K aE O J bv k aF a5 aG bG O bA (Y w.oo));have b0:=aG.cell bb (λc=>Y ((aE.lt g c.symm).1));have b2:=eS aG (aR _ _ bb) (λc=>Y ((aE.lt g c.symm).1)) bD;gi_wp2;exact bH
  have aF:(j==b)=F:=X bc
  have bI:H (dL b (h++[(j,r,t)])=dL b h):=Q (by rw[bB];simp[aF]);have v:=R.aO (IX:=(d:N)) (aD.mono λa _ c=>⟨O,λu=>k a u c⟩) O O O;have bJ:H (i4 e n g e b d (h++[(j,r,t)]) (λa=>a=g\/(S z D G).ownBlock=A a) aA):=Q ⟨by rw[bI];exact v.ex,v.free,v.jR,v.bw,v.size⟩;gi_wp2;exact⟨_,bJ,aD.mono λa _ c=>.inr c,J,λa i=>.inl i⟩
 case done=>intro o p f bK bM;have⟨z,D,G,b3,P,u⟩:=f.ex;subst u;have bN:=Q (f.bw.trans (M.bg (I':=λa=>a=(d:N)) ((hc p d (.deferred Z)).mono λa _ c=>c) f.bw.size λa i c=>O));go_wp2_with fail;exact Lb bK (results_tmp J _ _ _) ⟨z,D,G,J,((P.aO (I':=λa=>a=(d:N)) (hc p d (.deferred Z)) (λa i c=>bM a (.inr i) c)).mono av),bN⟩
end
section
section
variable{Xm:Type}{Xn:W->V->Xm->Prop}{Xo Xp:W}{Xq:V}{Xr:E Xm}
def hT(Xn:W->V->Xm->Prop):Prop:=∀(Xo Xp:W)(Xq:V)(b:Xm),Xn Xo Xq b->(Xo:N)<=Xp->(∀a,a<(Xo:N)->Xp.heap[a]? =Xo.heap[a]?)->Xn Xp Xq b
def hT.bw(c:hT Xn){a:Xm}(d:Xn Xo Xq a)(b:B Xo Xo Xp):Xn Xp Xq a:=c Xo Xp Xq a d b.size b.block
variable[Inhabited Xm]
def fa(Xn:W->V->Xm->Prop)(Xo:W)(Xq:V)(Xr:E Xm):Prop:=∃(c:bz) (a:N),Xq=S c (L Xr) a/\L Xr<=a/\a<=9223372036854775807/\∀b,b<L Xr->∃d e f,c=A ⟨d,e,Z⟩/\C Xo ⟨d,e+b,Z⟩=A f/\Xn Xo f (Xr.getD b default)
def fa.dj(d:hT Xn):hT (fa Xn):=by rintro Xo Xp Xq Xr ⟨e,f,rfl,g,h,i⟩ j a;refine⟨e,f,J,g,h,λk l=>?_⟩;have⟨b,m,n,ha,c,o⟩:=i k l;exact⟨b,m,n,ha,(ey (a b (aR Xo _ c))).trans c,d Xo Xp _ _ o j a⟩
def fa.nil(Xn:W->V->Xm->Prop)(Xo:W):fa Xn Xo (S Z 0 0) []:=⟨Z,0,J,D,D,λb a=>absurd a D⟩
def fa.open(h:fa Xn Xo Xq Xr):∃(b:bz)(c a:N),Xq=S b c a/\L Xr=c/\c<=a/\a<=9223372036854775807/\∀d,d<c->∃e f g,b=A ⟨e,f,Z⟩/\C Xo ⟨e,f+d,Z⟩=A g/\Xn Xo g (Xr.getD d default):=by obtain⟨b,a,rfl,i,j,k⟩:=h;exact⟨b,_,a,J,J,i,j,k⟩
def cc(Xs:bj)(Xn:W->V->Xm->Prop)(Xt:aD)(Xu:N)(Xo:W)(Xq:V)(Xv:aP)(Xr:E Xm):Prop:=Xo.ownsRow Xu Xs 1 Xq (L Xr) Xv/\∀a,a<L Xr->aI Xn (λb=>Xt b\/af Xq=A b) Xo (Xv.getD a undef) (Xr.getD a default)
variable{Xs:bj}{Xt:aD}{Xu:N}{Xv:aP}
def cc.nil(Xs:bj)(Xn:W->V->Xm->Prop)(Xt:aD)(Xu:N)(Xo:W):cc Xs Xn Xt Xu Xo (S Z 0 0) [] []:=⟨World.ownsRow_nil _ _ _ _,λb a=>absurd a D⟩
def cc.len(a:cc Xs Xn Xt Xu Xo Xq Xv Xr):L Xv=L Xr:=by have:=a.1.1;rw[Nat.mul_one]at this;exact this
def cc.bw(a:cc Xs Xn Xt Xu Xo Xq Xv Xr)(b:B Xo Xo Xp):cc Xs Xn Xt Xu Xp Xq Xv Xr:=⟨gd (row:=Z) a.1 (dS b) (by cases (af Xq)<;>simp),λc d=>(a.2 c d).bw b⟩
def cc.form(d:cc Xs Xn Xt Xu Xo Xq Xv Xr):∃b c e,Xq=S b c e/\c=L Xr/\(b=Z\/∃a,b=A ⟨a,0,Z⟩/\Xu<=a/\a<(Xo:N)):=by rcases bW d.1 with⟨rfl,f⟩|⟨a,i,rfl,_,_,g,h⟩;exact⟨_,_,_,J,f.symm,.inl J⟩;exact⟨_,_,_,J,J,.inr ⟨a,J,g,h⟩⟩
def cc.aO{I':aD}(c:cc Xs Xn Xt Xu Xo Xq Xv Xr)(b:M I' Xo Xp)(d:∀a,a<(Xo:N)->I' a->Xt a/\af Xq≠A a):cc Xs Xn Xt Xu Xp Xq Xv Xr:=⟨c3 c.1 b (λa b f=>by have:=bI c.1 a b;exact(d a this.2 f).2 b),λg h=>(c.2 g h).step b.size (λa e i=>b.block a e λj=>i (.inl (d a e j).1)) I2⟩
def cc.push{f:W}{g c:N}{h:V}{j:Xm}(l:cc Xs Xn Xt Xu f Xq Xv Xr)(r:aI Xn (λa=>Xt a\/af Xq=A a) f h j)(s:Xp.ownsRow Xu Xs 1 (S (A g) (L Xr+1) c) (L Xr+1) (Xv++[h]))(m:f.grownBy Xp (af Xq))(u:af Xq=A g\/g=f):cc Xs Xn Xt Xu Xp (S (A g) (L Xr+1) c) (Xv++[h]) (Xr++[j]):=by
 have p:∀a,a<(f:N)->¬(Xt a\/af Xq=A a)->Xp.heap[a]? =f.heap[a]? :=λa k v=>m.block a k λd=>v (.inr d.symm);have q:∀a,a<(f:N)->(Xt a\/(S (A g) (L Xr+1) c).ownBlock=A a)->(Xt a\/af Xq=A a):=λa k w=>by rcases w with d|d;exact .inl d;simp only[af,a2]at d;rcases u with i|i;exact .inr (by rw[i,d]);omega
 refine⟨by rw[bL,eu];exact s,λe x=>?_⟩;rw[bL,eu]at x;by_cases k:e<L Xr;have o:(Xv++[h]).getD e undef=Xv.getD e undef:=by have:=l.len;simp[List.getD,List.getElem?_append,show e<L Xv by omega]
 have i:(Xr++[j]).getD e default=Xr.getD e default:=by simp[List.getD,List.getElem?_append,k]
 rw[o,i];exact(l.2 e k).step m.size p q;have d:e=L Xr:=O
 subst d;have o:(Xv++[h]).getD (L Xr) undef=h:=by simp[List.getD,<-l.len]
 have i:(Xr++[j]).getD (L Xr) default=j:=by simp[List.getD]
 rw[o,i];exact r.step m.size p q
def cc.sl(b:cc Xs Xn Xt Xu Xo Xq Xv Xr):fa Xn Xo Xq Xr:=by rcases bW b.1 with⟨rfl,d⟩|⟨e,f,rfl,g,h,_,_⟩;rw[dn.1 d];exact fa.nil Xn Xo;refine⟨_,f,J,g,h,λa i=>⟨e,0,Xv.getD a undef,J,?_,(b.2 a i).now⟩⟩;have⟨k,c,j⟩:=hb b.1 a (Xv.getD a undef) (by have:=b.len;simp[List.getD,show a<L Xv by omega]);simp only[af,a2]at c;subst c;rw[bX];exact j
def cc.off(c:cc Xs Xn Xt Xu Xo Xq Xv Xr)(m:∀a,Xt a->a<Xu):aI (fa Xn) Xt Xo Xq Xr:=by
 intro e n f;have o:∀a,af Xq=A a->e.heap[a]? =Xo.heap[a]? :=λa p=>by have:=bI c.1 a p;exact f a this.2 λb=>Y (m a b)
 obtain⟨q,g,rfl,h,i,u⟩:=c.sl;rcases bW c.1 with⟨b,v⟩|⟨j,w,b,_,_,_,_⟩<;>simp only[bf]at b;exact⟨q,g,J,h,i,λd k=>O⟩;obtain⟨rfl,_,rfl⟩:=b;refine⟨_,g,J,h,i,λd k=>?_⟩;have⟨x,l,r⟩:=hb c.1 d (Xv.getD d undef) (by have:=c.len;simp[List.getD,show d<L Xv by omega]);simp only[af,a2]at l;subst l;exact⟨j,0,_,J,by rw[bX];exact(ey (o j J)).trans r,c.2 d k e n λa s t=>f a s λb=>t (.inl b)⟩
def cc.adF(Xt:aD)(b:cc Xs Xn Xt Xu Xo Xq Xv Xr)(c:∀a,Xt a->a<Xu):aI (fa Xn) Xt Xo Xq Xr:=cc.off b c
end
def ch(Xo:W)(Xq:V)(a:bp)(Xp:W):Prop:=a=aq Xq/\B Xo Xo Xp
def m4(_:W)(Xq:V)(a:ByteArray):Prop:=Xq=a7 a
def m4.dj:hT m4:=λ_ _ _ _ a _ _=>a
instance:Inhabited ByteArray:=⟨ByteArray.empty⟩
def bO:W->V->bD->Prop:=fa m4
def m5:W->V->Zaa->Prop:=fa bO
def bO.dj:hT bO:=fa.dj m4.dj
def m5.dj:hT m5:=fa.dj bO.dj
def aG(Xr:bD)(a:N):ByteArray:=Xr.getD a default
def cZ(Xr:Zaa)(a:N):bD:=Xr.getD a default
def bO.open{Xo:W}{Xq:V}{Xr:bD}(g:bO Xo Xq Xr):∃(d:bz)(a b:N),Xq=S d a b/\L Xr=a/\a<=b/\b<=9223372036854775807/\∀c,c<a->∃e f,d=A ⟨e,f,Z⟩/\C Xo ⟨e,f+c,Z⟩=A (a7 (aG Xr c)):=by obtain⟨d,a,b,rfl,h,i,j,k⟩:=fa.open g;refine⟨d,a,b,J,h,i,j,λc l=>?_⟩;obtain⟨e,f,n,ha,m,rfl⟩:=k c l;exact⟨e,f,ha,m⟩
def n1{Xm:Type}[Inhabited Xm]{Xn:World->Value->Xm->Prop}{Xt:Nat->Prop}{o:Array Oper}{p:List Oper}{d:Oper}{e:Act}{q:Exit->Act->World->Prop}(x:d.guard=none)(h i:Operand)(f Xs:TypeId)(j:Value)(bytes:Nat) (y:prog.underlying f=some (.slice Xs)) (z:(prog.info? Xs).map (λk=>(k.zero,k.size,k.bytes))=some (some j,1,bytes)) (D:j.cells.size=1) (G:bytes<=128) (H:d.op= .call {callee:=.builtin .append,args:=#[h,i],argTypes:=#[f,f]}) (a:World) (Xu:Nat) (Xq:Value) (Xv:List Value) (Xr:List Xm) (c:Value) (r:Xm) (l:Nat) (K:e.eval h=Xq) (M:e.eval i= .slice (some l) 1 1) (m:a.cell? l=some c) (n:c.oneCell'=true) (s:cc Xs Xn Xt Xu a Xq Xv Xr) (O:aI Xn (λt=>Xt t\/Xq.ownBlock=some t) a c r) (P:Xr.length+1<=1000000000000) (Q:Xu<=(a:Nat)) (R:∀b g Xp,cc Xs Xn Xt Xu Xp (.slice (some ⟨b,0,none⟩) (Xr.length+1) g) (Xv++[c]) (Xr++[r])->a.grownBy Xp Xq.ownBlock->Below Xu a Xp->Xu<=b->b<Xp.heap.size->(Xq.ownBlock=some b\/b=a)->wpList prog o q p (e.put d.dst (.slice (some ⟨b,0,none⟩) (Xr.length+1) g)) Xp):wpList prog o q (d::p) e a:=fr x h i f Xs j 1 bytes y z D (by decide) G H a Xu Xq Xr.length Xv [c] l K M (d2 m) J (by intro ae u;simp at u;subst u;exact n) s.1 P Q λb g Xp n v m w U X=>R b g Xp (s.push O n v w) v m U X w
def d3(a:ByteArray):Bool:= !a.data.toList.isEmpty&&a.data.toList.all λb=>decide (33<=b.toNat/\b.toNat<=126)
def kM:ByteArray:=⟨#[32]⟩
def gO:ByteArray:=⟨#[10]⟩
def fb(a:ByteArray):ByteArray×ByteArray×Bool:=(⟨(Lib.cut a.data.toList gO.data.toList).1.toArray⟩,⟨(Lib.cut a.data.toList gO.data.toList).2.1.toArray⟩,(Lib.cut a.data.toList gO.data.toList).2.2)
def i5(a:ByteArray):bD:=Lib.splitB kM 0 (Lib.countB a kM) a
def fc:N->ByteArray->Option Zaa
 |0,a=>if a.size=0 then A []else Z
 |b+1,a=>if a.size=0 then A []else if(fb a).2.2 then if(i5 (fb a).1).all d3 then(fc b (fb a).2.1).map (i5 (fb a).1::·)else Z else Z
def xi(a:ByteArray):(fb a).1.size<=a.size/\((fb a).2.2=T->(fb a).1.size+(fb a).2.1.size+1=a.size):=by rcases Lib.indexB_cases a gO with b|⟨g,b,h⟩;have⟨c,d,e⟩:=Lib.cutB_miss a gO b;unfold fb;rw[c,d,e];exact⟨aL _,λf=>by cases f⟩;have⟨c,d,e⟩:=Lib.cutB_hit a gO g b;have f:gO.size=1:=J;unfold fb;rw[c,d,e];simp only[ByteArray.size_extract];omega
def Li(f:ByteArray):∀(c:N)(b:ByteArray),∀d∈Lib.splitB f 0 c b,d.size<=b.size:=by
 intro c;induction c with
  |zero=>intro b d a;rw[Lib.splitB_zero]at a;simp at a;subst a;exact aL _
  |succ c g=>intro b d a;rcases Lib.indexB_cases b f with e|⟨h,e,i⟩;rw[Lib.splitB_miss _ _ _ _ e]at a;simp at a;subst a;exact aL _;rw[Lib.splitB_hit _ _ _ _ h e]at a;rcases cK.1 a with rfl|a;simp only[ByteArray.size_extract];omega;have:=g _ d a;simp only[ByteArray.size_extract]at this;omega
def tc(a:ByteArray):(i5 a).length=Lib.countB a kM+1/\(i5 a).length<=a.size+1/\∀b∈i5 a,b.size<=a.size:=by have c:=Lib.splitB_all kM (by decide) 0 _ a J;have d:=Lib.countB_le kM (by decide) a.size a (aL _);exact⟨c,by unfold i5;omega,Li kM _ a⟩
def xj:∀(h:N)(b:ByteArray)(f:Zaa),fc h b=A f->L f<=b.size/\∀d∈f,d≠[]/\L d<=b.size/\∀c∈d,c.size<=b.size/\d3 c=T:=by
 intro h;induction h with
  |zero=>intro b f a;rw[fc]at a;split at a;cases a;exact⟨D,λd e=>(by cases e)⟩;cases a
  |succ h k=>intro b f a;rw[fc]at a;split at a;cases a;exact⟨D,λd e=>(by cases e)⟩;split at a;rename_i l;split at a;rename_i ha;obtain⟨r,m,rfl⟩:=Option.map_eq_some_iff.1 a;have s:=(xi b).2 l;have⟨t,n⟩:=k _ _ m;have⟨i,u,o⟩:=tc (fb b).1;refine⟨by rw[dx];omega,λd e=>?_⟩;rcases cK.1 e with rfl|e;refine⟨λp=>(by rw[p]at i;cases i),O,λc g=>⟨Y (o c g),d4.1 ha c g⟩⟩;have⟨q,v,j⟩:=n d e;exact⟨q,O,λc g=>⟨Y ((j c g).1),(j c g).2⟩⟩;cases a;cases a
end
def Lj(c:ByteArray)(d:UInt8->Bool):c.data.toList.all d=T↔∀a (b:a<c.size),d (c[a]'b)=T:=by rw[d4];constructor;intro b a e;exact b _ (by show c.data[a]∈_;simp);intro b g f;obtain⟨a,e,rfl⟩:=gP f;exact b a (X e)
def xk(a:ByteArray):d3 a=T↔a.size≠0/\∀b (c:b<a.size),33<=(a[b]'c).toNat/\(a[b]'c).toNat<=126:=by
 unfold d3;rw[cr,Lj];simp only[ez];have d:(!a.data.toList.isEmpty)=T↔a.size≠0:=by rw[Bool.not_eq_true',<-Bool.not_eq_true,List.isEmpty_iff_length_eq_zero];rw[<-Lib.size_eq]
 rw[d]
def Lk{a:ByteArray}(b:¬(a.size≠0/\∀c (b:c<a.size),33<=(a[c]'b).toNat/\(a[c]'b).toNat<=126)):d3 a=F:=by rw[<-Bool.not_eq_true,xk];exact b
def Ll{a:ByteArray}(b:a.size=0):a=ByteArray.empty:=ByteArray.ext (Array.eq_empty_of_size_eq_zero b)
def n2(a:ByteArray):a.toList.isEmpty=decide (a.size=0):=by rw[<-decide_eq_emptyBytes a,decide_eq_decide];exact⟨λb=>(by rw[b];rfl),Ll⟩
def Lm(a:ByteArray)(j:W)(w:a.size<=1000000):ap ab 76 #[a7 a] j (ch j (au (d3 a))):=by
 have o:=Q (xk a);have m:=Q (@Lk a);go_in;go_wp2;go_loopw [6] (λf wr=>∃(b:N),wr=j/\b<=a.size/\f=b/\∀d (c:d<a.size),d<b->33<=(a[d]'c).toNat/\(a[d]'c).toNat<=126) (λf _=>a.size-(aw f).toNat);exact⟨0,J,a3 _,J,λd _ h=>absurd h (fx _)⟩;obtain⟨b,rfl,p,rfl,g⟩:=hrel;by_cases e:b<a.size
 ·have x:=p;have y:=aJ b;have z:(b:I)<(a.size:I):=by omega
  have n:∀d (c:d<a.size),d<b+1->(33<=(a[b]'e).toNat/\(a[b]'e).toNat<=126)->33<=(a[d]'c).toNat/\(a[d]'c).toNat<=126:=λd c h k=>by by_cases q:d=b;subst q;exact k;exact g d c O
  have l:¬(33<=(a[b]'e).toNat/\(a[b]'e).toNat<=126)->d3 a=F:=λk=>m λc=>k (c.2 b e);change H _ at n l;clear g;by_cases D:(a[b]'e).toNat<33
  ·have r:decide (((a[b]'e).toNat:I)<33)=T:=by simp;omega
   have B6:=Q (l.oo O);exact mP
  have r:decide (((a[b]'e).toNat:I)<33)=F:=aF
  by_cases G:126<(a[b]'e).toNat
  ·have s:decide ((126:I)<((a[b]'e).toNat:I))=T:=by simp;omega
   have B6:=Q (l.oo O);exact mP
  have s:decide ((126:I)<((a[b]'e).toNat:I))=F:=aF
  have t:=Q (bh (33<=(a[b]'e).toNat/\(a[b]'e).toNat<=126));go_wp2;go_roundw;case rel=>exact⟨b+1,trivial,O,aK,λd c h=>n d c h t⟩
  simp only[aw];omega
 have u:b=a.size:=O
 subst u;by_cases i:a.size=0
 ·have B6:=Q (m.oo λc=>c.1 i);have v:(!a.toList.isEmpty)=F:=by rw[n2,dD i];rfl
  clear g;exact mP
 have B6:=Q (o.oo.2 ⟨i,λf c=>g f c c⟩);have v:(!a.toList.isEmpty)=T:=by rw[n2,c9 i];rfl
 clear g;exact mP
def i6(a:ByteArray)(b:N):I:=((a.data.toList.getD b 0).toNat:I)
def xl(a:ByteArray)(b:N)(c:b<a.size):i6 a b=((a[b]'c).toNat:I):=by unfold i6;rw[fU,e7 (by rw[<-Lib.size_eq];exact c)];rfl
def iw(a:ByteArray):N->I
 |0=>0
 |b+1=>if 100000000000000000<=iw a b then 1000000000000000000 else iw a b*10+(i6 a b-48)
def n3(b:ByteArray)(c:N):Prop:=∀a,a<c->48<=i6 b a/\i6 b a<=57
instance(a:ByteArray)(b:N):Decidable (n3 a b):=Nat.decidableBallLT b λc _=>48<=i6 a c/\i6 a c<=57
def xm(b:ByteArray)(a:N)(c:n3 b a):0<=iw b a/\iw b a<=1000000000000000000:=by
 induction a with
  |zero=>rw[iw];omega
  |succ a d=>have f:=d λe g=>c e O;have h:=c a O;rw[iw];split<;>omega
def c'(a:ByteArray):I×Bool:=if a.size=0\/(i6 a 0=48/\1<a.size)then(0,F)else if n3 a a.size then(iw a a.size,T)else(0,F)
def xn(a:ByteArray)(p:W)(aA:a.size<=1000000):ap ab 110 #[a7 a] p (ch p (aZ #[aa ac (c' a).1,au (c' a).2])):=by
 have b:c' a=if a.size=0\/(i6 a 0=48/\1<a.size)then(0,F)else if n3 a a.size then(iw a a.size,T)else(0,F):=J;have⟨R,x⟩:=K (c' a);rw[<-x]at b⊢;clear x;by_cases f:a.size=0
 ·rw[am (.inl f)]at b;have y:a.toList.isEmpty=T:=by rw[n2,dD f]
  have g:=Q b;clear b;clear f;go_in;go_wp2;go_ret2;rw[g];exact⟨J,aS _ _⟩
 have y:a.toList.isEmpty=F:=by rw[n2,c9 f]
 have hp:0<a.size:=O
 have aC:(0:I)<(a.size:I):=O
 have l:=xl a 0 hp;obtain⟨z,D⟩:∃z:N,z=(a[0]'hp).toNat:=⟨_,J⟩
 by_cases h:i6 a 0=48/\1<a.size
 ·rw[am (.inr h)]at b;have e:(((a[0]'hp).toNat:I)==48)=T:=by rw[<-l,h.1];rfl
  have q:decide ((1:I)<(a.size:I))=T:=aF
  have G:decide (1<a.size)=T:=aF
  have g:=Q b;clear b;clear f h l D;go_in;go_wp2;go_ret2;rw[g];exact⟨J,aS _ _⟩
 rw[ak (λd=>by rcases d with d|d;exact f d;exact h d)]at b;have g:=Q b;have U:=Q (λJN (d:JN<a.size)=>xl a JN d);have m:∀(n:Prop),((((a[0]'hp).toNat:I)==48)=T->decide ((1:I)<(a.size:I))=F->n)->((((a[0]'hp).toNat:I)==48)=F->n)->n:=λn ad ae=>by cases e:((((a[0]'hp).toNat:I)==48));exact ae e;refine ad e ?_;rw[beq_iff_eq,<-l]at e;simp;omega
 clear f h D b l;go_in;go_upto_region 1 with fail;go_cut [17] (λag ah=>ag=au F/\ah=p);case first=>
  refine m _ (λe q=>?_) λe=>?_;·clear m;go_wp2;go_meet;exact⟨J,J⟩
  clear m;go_wp2;go_meet;exact⟨J,J⟩
 obtain⟨rfl,rfl⟩:=hcut;clear m y;go_wp2;go_loopw [4,20] (λai s wr=>∃(JN:N),wr=wc/\JN<=a.size/\s=(JN:I)/\ai=(iw a JN)/\n3 a JN) (λ_ s _=>a.size-(aw s).toNat);exact⟨0,J,a3 _,J,J,λt M=>absurd M (fx _)⟩;obtain⟨JN,rfl,al,rfl,rfl,k⟩:=hrel;by_cases c:JN<a.size
 ·have aD:=al;have aE:=aJ JN;have aG:(JN:I)<(a.size:I):=by omega
  have u:=U JN c;have an:=xm a JN k;have⟨i,j⟩:=K (iw a JN);have v:iw a (JN+1)=if 100000000000000000<=i then 1000000000000000000 else i*10+(i6 a JN-48):=by rw[j];rfl
  rw[u]at v;rw[<-j]at an⊢;have w:¬(48<=(a[JN]'c).toNat/\(a[JN]'c).toNat<=57)->R=(0,F):=λar=>by rw[g,ak (λd=>ar (Y (d JN c)))]
  have av:=Q k;have P:=Q v;change H _ at w u;clear k j v;by_cases h:(a[JN]'c).toNat<48
  ·have e:decide (((a[JN]'c).toNat:I)<48)=T:=by simp;omega
   have B6:=Q (w.oo O);exact sT
  have e:decide (((a[JN]'c).toNat:I)<48)=F:=aF
  by_cases aI:57<(a[JN]'c).toNat
  ·have q:decide ((57:I)<((a[JN]'c).toNat:I))=T:=by simp;omega
   have B6:=Q (w.oo O);exact sT
  have q:decide ((57:I)<((a[JN]'c).toNat:I))=F:=aF
  have H7:=Q (show n3 a (JN+1)from λt M=>by by_cases ax:t=JN;subst ax;rw[u];omega;exact av t O);by_cases o:100000000000000000<=i
  ·have G:decide (100000000000000000<=i)=T:=by simpa using o
   have Da:=Q (P.oo.trans (am o));exact ws
  have G:decide (100000000000000000<=i)=F:=X o
  have Da:=Q (P.oo.trans (ak o));exact ws
 have ay:JN=a.size:=O
 subst ay;have B6:=Q (g.oo.trans (am k));have⟨i,j⟩:=K (iw a a.size);rw[<-j]at B6⊢;clear k j;exact sT
def td(b:bp):Prop:=∃(a:I)(c:Bool),b=aq (aZ #[a,au c])/\0<=a
def td.of(a:Bool)(c:0<=i):td (aq (aZ #[i,au a])):=⟨i,a,J,c⟩
def Ln(a:ByteArray)(j:W)(ai:a.size<=1000000):ap ab 16 #[a7 a] j λk v=>td k/\j=v:=by
 by_cases h:a.size=0
 ·have w:((a.size:I)==0)=T:=by simp[h]
  have x:(a.size==0)=T:=by simp[h]
  clear h;go_in;exact o3
 have w:((a.size:I)==0)=F:=lz.2 O;have x:(a.size==0)=F:=lz.2 h;have hp:0<a.size:=O
 have ak:(0:I)<(a.size:I):=O
 clear h;go_in;go_upto_region 1 with fail;go_cut [19] (λy z=>(∃l,y=au l)/\z=j);case first=>
  cases p:((((a[0]'hp).toNat:I)==48));·go_wp2;go_meet;exact⟨⟨_,J⟩,J⟩
  go_wp2;go_meet;exact⟨⟨_,J⟩,J⟩
 case rest=>
 obtain⟨⟨l,rfl⟩,rfl⟩:=hcut;cases l with
  |true=>exact o3
  |false=>
 go_wp2;go_loopw [4] (λf wr=>∃(b:N),wr=wc/\b<=a.size/\f=b/\∀c (e:c<a.size),c<b->48<=(a[c]'e).toNat/\(a[c]'e).toNat<=57) (λf _=>a.size-(aw f).toNat);exact⟨0,J,a3 _,J,λc _ q=>absurd q (fx _)⟩;obtain⟨b,rfl,r,rfl,i⟩:=hrel;change H _ at i;by_cases d:b<a.size
 ·have D:=aJ b;have G:(b:I)<(a.size:I):=by omega
  by_cases al:(a[b]'d).toNat<48
  ·have p:decide (((a[b]'d).toNat:I)<48)=T:=by simp;omega
   exact o3
  have p:decide (((a[b]'d).toNat:I)<48)=F:=aF
  by_cases am:57<(a[b]'d).toNat
  ·have M:decide ((57:I)<((a[b]'d).toNat:I))=T:=by simp;omega
   exact o3
  have M:decide ((57:I)<((a[b]'d).toNat:I))=F:=aF
  have P:=Q (λc (e:c<a.size) (q:c<b+1)=>show 48<=(a[c]'e).toNat/\(a[c]'e).toNat<=57 by by_cases k:c=b;subst k;omega;exact i c e O);go_wp2;go_roundw;case rel=>exact⟨b+1,trivial,O,aK,P⟩
  simp only[aw];omega
 have s:b=a.size:=O
 by_cases t:18<a.size
 ·have R:decide ((18:I)<(a.size:I))=T:=by simp;omega
  have U:decide (18<a.size)=T:=X t
  subst s;exact o3
 have R:decide ((18:I)<(a.size:I))=F:=aF
 have U:decide (18<a.size)=F:=X t
 have Y:=Q (λc (e:c<a.size)=>i c e O);subst s;clear i;go_wp2_with fail;obtain⟨ad,rfl⟩:=K wr;go_loopw [5,6] (λae f wr=>∃(b:N) (g:I),wr=ad/\b<=a.size/\f=b/\ae=g/\0<=g/\g+1<=((10^b:N):I)) (λ_ f _=>a.size-(aw f).toNat);exact⟨0,0,J,a3 _,J,J,av,av⟩;obtain⟨b,g,rfl,r,rfl,rfl,ag,m⟩:=hrel;by_cases d:b<a.size
 ·have an:=Y b d;have hp:=Nat.pow_le_pow_right (show 0<10 by decide) (bh (b<=17));rw[show 10^17=100000000000000000 from J]at hp;have n:10^(b+1)=10^b*10:=Nat.pow_succ ..;have⟨ar,u⟩:=K (10^b);have⟨ax,o⟩:=K (10^(b+1));rw[<-u]at m hp n;rw[<-o]at n;have ay:g<=100000000000000000:=by omega
  have ah:=Q (show 10*g+(((a[b]'d).toNat:I)-48)+1<=((10^(b+1):N):I) by rw[<-o];omega);have D:=aJ b;have G:(b:I)<(a.size:I):=O
  have aA:=r;clear m hp n u o;go_wp2;go_roundw;case rel=>exact⟨b+1,_,trivial,O,aK,J,O,ah⟩
  simp only[aw];omega
 clear m;go_wp2;go_ret2;exact⟨.of _ ag,J⟩
def dy(b:bD):E I×Bool:=if b.all λa=>(c' a).2 then(b.map λa=>(c' a).1,T)else([],F)
def xo(a:W)(b:E I×Bool)(g:bp)(c:W):Prop:=∃d e f,g=aq (aZ #[S d e f,au b.2])/\ay c a (S d e f) b.1/\B a a c
def Lo{c:ad}(d:ay w a u c):∃f g b,u=S f g b:=by rcases bW d with⟨rfl,_⟩|⟨j,b,rfl,_⟩<;>exact⟨_,_,_,J⟩
def Lp(Y:V)(b:bD)(e:W)(ad:bO e Y b)(aU:L b<=1000000)(ae:∀c∈b,c.size<=1000000):ap ab 112 #[Y,.func (.func 110) #[] #[]] e (xo e (dy b)):=by
 obtain⟨ag,l⟩:=K (dy b);rw[<-l];obtain⟨bf,d,bg,rfl,m,_,_,ah⟩:=ad.open;have ai:∀a,a<d->(c' (aG b a)).2=F->ag=([],F):=λa g i=>by rw[l,dy,ak];intro w;have:=d4.1 w (aG b a) (by rw[show aG b a=b[a] by simp[aG,m,g]];exact dY _);rw[i]at this;cases this
 have al:(∀a,a<d->(c' (aG b a)).2=T)->ag=(b.map λc=>(c' c).1,T):=λw=>by rw[l,dy,am];rw[d4];intro bh i;obtain⟨a,g,rfl⟩:=gP i;have:=w a O;rwa [show aG b a=b[a] by simp[aG,g]]at this
 have aV:=Q (λ(a:N) (g:a<d) (aW:W)=>xn (aG b a) aW (ae _ (by rw[show aG b a=b[a] by simp[aG,m,g]];exact dY _)));have an:∀a,a<d->(b.take (a+1)).map (λc=>(c' c).1)=(b.take a).map (λc=>(c' c).1)++[(c' (aG b a)).1]:=λa g=>by rw[eR (by omega:a<L b),ck,show aG b a=b[a] by simp[aG,m,g]];rfl
 have ar:(b.take d).map (λc=>(c' c).1)=b.map λc=>(c' c).1:=by rw[cm O]
 have av:∀a,a<d->((b.take a).map (λc=>(c' c).1)).length=a:=λa g=>qk
 have bi:d<=1000000:=O
 obtain⟨aX,ax,aA,aC,IC⟩:=ew hR;change H _ at ah ai al an ar av;clear ad l aU ae;go_in;go_wp2_with (at_make;refine wpList_make_own _ J _ _ 22 J e 3 aX (0:I) 1 underlying22 ax aA aC _ _ _ d J J J jJ eQ (aL _) ?_);intro aY aD aE;have f:ay aY e (S (A (e:N)) 0 d) ((b.take 0).map λc=>(c' c).1):=aD;have aF:=(aS e e).grown aE (aL _) D;clear aD aE ax aA aC IC m;go_wp2;go_loopw [6,16] (λa0 x wr=>∃(a:N) (n:V),n=a0/\x=(a:I)/\a<=d/\ay wr e n ((b.take a).map λc=>(c' c).1)/\(∀h,h<a->(c' (aG b h)).2=T)/\B e e wr) (λ_ x _=>d-(aw x).toNat);exact⟨0,_,J,J,a3 _,f,λh aI=>absurd aI (fx _),aF⟩;clear f aF;obtain⟨a,n,rfl,rfl,g,f,o,j⟩:=hrel;obtain⟨a1,rfl⟩:=K wr;by_cases Ch:a<d
 ·obtain⟨bk,bl,rfl,p⟩:=ah a Ch;have p:=s j p;have q:=aV a Ch a1;have k:=an a Ch;have r:=ai a Ch;have t:=av a Ch;obtain⟨aN,y⟩:=K (aG b a);rw[<-y]at p q k r;obtain⟨a2,z⟩:=K ((c' aN).1);obtain⟨aO,u⟩:=K ((c' aN).2);have aP:aO=T->∀h,h<a+1->(c' (aG b h)).2=T:=λi h aI=>by by_cases a4:h=a;subst a4;rw[<-y,<-u];exact i;exact o h O
  rw[<-z,<-u]at q;rw[<-z]at k;rw[<-u]at r;obtain⟨a5,aQ⟩:=K ((b.take a).map λc=>(c' c).1);rw[<-aQ]at f k t;have bm:=aJ a;have bn:(a:I)<d:=O
  have a6:=Q q;have G:=Q f;have v:=Q j;replace t:=Q t;change H _ at k r aP;clear o j f q y z u aQ;go_wp2_with fail;refine mU a6 λa8 M=>?_;have P:=v.trans (M.mono v.size);have aR:=Q P;have R:=G.bw M;have a9:=P.size;clear M p P;cases aO with
   |false=>have U:=Q (r dk);clear R;go_wp2;go_ret2;rw[U];exact⟨_,_,_,J,ay.nil _ _,aR⟩
   |true=>
    have ba:=Q (aP.oo dk);go_wp2_with (at_builtin;refine hP J _ _ J a8 e n a5 a2 J J R (by rw[t];omega) a9 ?_);intro bo bq X bb aT;rw[<-k]at X;have bc:=Q (aR.oo.trans (aT.mono (aL _)));change H _ at X;clear bb aT R;go_wp2;go_roundw;case rel=>exact⟨a+1,_,J,aK,O,X,ba,bc⟩
    exact bY
 have be:a=d:=O
 subst be;have U:=Q (al.oo o);rw[ar]at f;obtain⟨br,bs,bt,rfl⟩:=Lo f;have v:=Q j;have G:=Q f;clear o j f;go_wp2;go_ret2;rw[U];exact⟨_,_,_,J,G,v⟩
def te(c:V)(a:bD)(b:W)(d:bO b c a)(h:L a<=1000000)(i:∀j∈a,j.size<=1000000):ap ab 82 #[c] b (xo b (dy a)):=by have k:=Q (Lp c a b d h i);obtain⟨m,l,n,rfl,_⟩:=d.open;clear d;go_in;go_wp2_with fail;refine mF k λo p l q ⟨e,f⟩=>?_;have g:=Q (U e f);clear e f;go_wp2;go_ret2;exact⟨_,_,_,J,g.1,g.2⟩
def pd(a:W)(h:N)(i:bp)(c:W):Prop:=∃d e f g b,i=aq (aZ #[S d e f,au g])/\ay c a (S d e f) b/\(g=T->L b=h)/\(∀j∈b,0<=j)/\B a a c
def tf(t:V)(j:bD)(c:W)(u:bO c t j)(am:L j<=1000000)(v:∀an∈j,an.size<=1000000):ap ab 10 #[t] c (pd c (L j)):=by
 obtain⟨aE,d,aF,rfl,w,_,_,x⟩:=u.open;have ar:=Q (λ(av:W) (k:N) (aI:k<d)=>Ln (aG j k) av (v _ (by unfold aG;rw[fU,e7 O];exact dY _)));have aL:d<=1000000:=O
 rw[w];change H _ at x;clear u v am w;go_in;go_wp2;go_loopw [4,5] (λy k wr=>∃(a:N) (o:V) (e:ad),o=y/\k=a/\a<=d/\ay wr c o e/\L e=a/\(∀i∈e,0<=i)/\B c c wr) (λ_ k _=>d-(aw k).toNat);exact⟨0,_,[],J,J,a3 _,ay.nil _ _,J,λi b=>(by cases b),aS _ _⟩;obtain⟨a,y,e,rfl,rfl,aN,g,p,b,l⟩:=hrel;obtain⟨m,rfl⟩:=K wr;have z:=Q p;have ax:=Q b;obtain⟨D,G,M,rfl⟩:=gM g;by_cases Ch:a<d
 ·have aO:=aJ a;have aP:(a:I)<d:=by omega
  obtain⟨aQ,aR,rfl,n⟩:=x a Ch;have n:=s l n;have P:=Q (ar.oo m a Ch);obtain⟨aT,R⟩:=K (aG j a);rw[<-R]at n P;have q:=Q l;have aA:=Q g;clear R l g p b;go_wp2_with fail;refine P.mono ?_;rintro f aU ⟨⟨r,ok,rfl,X⟩,rfl⟩;cases ok with
   |false=>have h:=Q (show pd c d (aq (aZ #[S Z 0 0,au F])) m from⟨_,_,_,_,[],J,ay.nil _ _,λf=>f',λi b=>(by cases b),q⟩);go_wp2;go_ret2;exact h
   |true=>
    have g:=aA.oo;have ae:L e+1<=17592186044416:=Y z.oo
    have ag:=q.size;clear n;go_wp2_with (at_builtin;refine hP J _ _ J m c (S D G M) e r J J g ae ag ?_);intro o aV ah aC ai;have ak:∀i∈e++[r],0<=i:=λi b=>by rcases eh.1 b with f|f;exact ax i f;rw[List.mem_singleton.1 f];exact X
    have al:(e++[r]).length=a+1:=by rw[bL,eu,z]
    have h:=Q (U ah (U al (U ak (q.oo.trans ai))));clear ah aC ai ak al g ae ag X;go_wp2;go_roundw;case rel=>exact⟨a+1,_,_,J,aK,O,h.1,h.2.1,h.2.2.1,h.2.2.2⟩
    exact bY
 have aD:a=d:=O
 have h:=Q (show pd c d (aq (aZ #[S D G M,au T])) m from⟨_,_,_,_,e,J,g,λ_=>O,b,l⟩);subst aD;clear g p b l;go_wp2;go_ret2;exact h
def xp:(ab.info? 37).map (λa=>(a.zero,a.size,a.bytes))=A (A (S Z 0 0),1,24):=aT
def Lq(b:W)(c:Option Zaa)(i:bp)(d:W):Prop:=∃e f g a,i=aq (aZ #[S e f g,(a:I)])/\B b b d/\((∃h,c=A h/\a=0/\m5 d (S e f g) h)\/(c=Z/\a=2))
def xq:V->N
 |a7 a=>a.size
 |_=>0
def xr{f:aD}{g:bD}(k:bO w (S (A ⟨a,b,Z⟩) c d) g)(o:¬f a):aI bO f w (S (A ⟨a,b,Z⟩) c d) g:=by intro D G p;obtain⟨q,r,e,s,t,u⟩:=k;refine⟨q,r,e,s,t,λv x=>?_⟩;simp only[bf]at e;obtain⟨rfl,rfl,rfl⟩:=e;have⟨H,K,y,ha,j,z⟩:=u v x;simp only[a2,bN,bT]at ha;obtain⟨rfl,rfl⟩:=ha;exact⟨_,_,y,J,(ey (p _ (aR w _ j) o)).trans j,z⟩
def hU(a:W):Prop:=∃b:I,C a ⟨0,0,Z⟩=A (aa ac b)
def hU.bw{Kx:W}(b:hU w)(c:B w w Kx):hU Kx:=by obtain⟨d,e⟩:=b;exact⟨d,s c e⟩
def Lr(h:ByteArray)(l:W)(r:hU l)(b8:h.size<=1000000):ap ab 50 #[a7 h] l (Lq l (fc h.size h)):=by
 obtain⟨z,aR⟩:=K (fc h.size h);rw[<-aR];have bf:=Q (λ(p:W) (aT:B l l p)=>r.bw aT);change H _ at aR;clear r;go_in;go_wp2;go_loopw [0,4] (λaU bM wr=>∃(c:ByteArray) (f:N) (G:V) (aV:aP) (m:Zaa),aU=a7 c/\G=bM/\c.size<=f/\c.size<=h.size/\L m+c.size<=h.size/\z=(fc f c).map (m++·)/\cc 37 bO (λ_=>False) l wr G aV m/\B l l wr) (λaU _ _=>xq aU);exact⟨h,h.size,_,[],[],J,J,aL _,aL _,D,by rw[aR];cases fc h.size h<;>rfl,cc.nil _ _ _ _ _,aS _ _⟩;obtain⟨c,f,G,aV,m,rfl,rfl,b9,b',ca,n,M,i⟩:=hrel;obtain⟨ag,rfl⟩:=K wr;by_cases v:c.size=0
 ·have bN:(!c.toList.isEmpty)=F:=by rw[n2,dD v];rfl
  have P:fc f c=A []:=by cases f<;>simp[fc,v]
  have bg:z=A m:=by rw[n,P];simp
  obtain⟨cd,d,ce,rfl,_⟩:=M.form;have w:=Q (U bg (U M.sl i));clear n bg M i P v;go_wp2;go_ret2;exact⟨_,_,_,0,J,w.2.2,.inl ⟨m,w.1,J,w.2.1⟩⟩
 have bN:(!c.toList.isEmpty)=T:=by rw[n2,c9 v];rfl
 obtain⟨f,rfl⟩:∃bP,f=bP+1:=⟨f-1,O⟩
 have P:fc (f+1) c=if(fb c).2.2 then if(i5 (fb c).1).all d3 then(fc f (fb c).2.1).map (i5 (fb c).1::·)else Z else Z:=by rw[fc,ak v]
 rw[P]at n;obtain⟨ah,ai⟩:=xi c;have aW:H (∀p,hU p->ap ab 74 #[a7 c,a7 ⟨#[10]⟩] p λg al=>g=aq (aZ #[a7 (fb c).1,a7 (fb c).2.1,au (fb c).2.2])/\∃d,al=p.drewN d):=λp aT=>by obtain⟨j,r⟩:=aT;exact strings_Cut c gO j p O r
 obtain⟨⟨t,aX,bR⟩,hcut⟩:=K (fb c);rw[<-hcut]at aW n ah ai;simp only at n ah ai;have bS:=Q (aW.oo ag (bf ag i));have an:=Q i;have bh:=Q M;have aY:=Q (U ah ai);change H _ at n;clear P i M hcut aW ah ai v;go_wp2_with fail;refine bS.mono ?_;rintro g k ⟨rfl,bT,bk⟩;have ar:B ag ag k:=by rw[bk];exact eb (aS _ _) bT
 have R:=an.trans (ar.mono an.size);clear bk;cases bR with
  |false=>have w:=Q (U (show z=Z by rw[n];rfl) R);clear ar R;go_wp2;go_ret2;exact⟨_,_,_,2,J,w.2,.inr ⟨w.1,J⟩⟩
  |true=>
 have cf:=aY.2 dk;have bl:H (ap ab 75 #[a7 t,a7 ⟨#[32]⟩] k λg al=>∃d,g=aq (S (A k.heap.size) d d)/\d=(i5 t).length/\al=k.alloc (az ((i5 t).map a7).toArray 9)):=by obtain⟨j,r⟩:=bf k R;refine(strings_Split t kM j k O r av).mono ?_;rintro g al ⟨rfl,bU⟩;exact⟨_,J,(tc t).1.symm,bU⟩
 have ay:=Q (tc t);obtain⟨e,bm⟩:=K (i5 t);rw[<-bm]at bl n ay;have X:=Q (U ar R);clear bm ar R;go_wp2_with fail;refine bl.mono ?_;rintro g ad ⟨d,rfl,bn,a0⟩;have aA:=ax.new k (e.map a7) 9;rw[<-a0]at aA;have a1:B k k ad:=by rw[a0];exact aN _ _
 have bo:bO ad (S (A k.heap.size) d d) e:=⟨_,d,by rw[bn],O,Y ay.2.1,λa o=>⟨_,_,_,J,aA (0+a) _ (by rw[bX,List.getElem?_map,e7 o];rfl),by simp[m4,List.getD,o]⟩⟩
 have a2:∀a,a<d->C ad ⟨k.heap.size,0+a,Z⟩=A (a7 (aG e a)):=λa o=>aA (0+a) _ (by rw[bX,List.getElem?_map,e7 O];simp[aG,show a<L e by omega]);have a4:∀a,a<d->aG e a∈e:=λa o=>by rw[show aG e a=e[a] by simp[aG,show a<L e by omega]];exact dY _
 have bV:=Q (λ(a:N) (o:a<d) (p:W)=>Lm (aG e a) p (Y (ay.2.2 _ (a4 a o))));have bq:∀a,a<d->d3 (aG e a)=F->z=Z:=λa o ae=>by rw[n,am trivial,ak];rfl;intro a5;have:=d4.1 a5 _ (a4 a o);rw[ae]at this;cases this
 have br:(∀a,a<d->d3 (aG e a)=T)->z=(fc f aX).map ((m++[e])++·):=λa5=>by rw[n,am trivial,am];cases fc f aX<;>simp;rw[d4];intro cg ae;obtain⟨a,o,rfl⟩:=gP ae;have:=a5 a O;rwa [show aG e a=e[a] by simp[aG,o]]at this
 have bs:=X.2.trans (a1.mono X.2.size);have ch:d<=1000000:=bi ay.2.1 aY.1
 have x:=Q (U (X.oo.1.trans (a1.mono X.oo.1.size)) (U bs (U bo X.oo.1.size)));obtain⟨aC,aD⟩:=K k.heap.size;rw[<-aD]at a2 x;rw[<-aD];change H _ at a2 bq br;change H _ at aD;clear a0 aA a1 bo a4 bs bn;go_wp2;go_loopw [25] (λa wr=>∃(b:N),a=(b:I)/\b<=d/\(∀j,j<b->d3 (aG e j)=T)/\B ad ad wr) (λa _=>d-(aw a).toNat);exact⟨0,J,a3 _,λb bt=>absurd bt (fx _),aS _ _⟩;obtain⟨b,rfl,bt,aF,i⟩:=hrel;obtain⟨y,rfl⟩:=K wr;by_cases Ch:b<d
 ·have a6:=s i (a2 b Ch);rw[bX]at a6;have a8:=Q (bV.oo b Ch y);have aO:=bq b Ch;obtain⟨bW,a9⟩:=K (aG e b);rw[<-a9]at a6 a8 aO;obtain⟨bu,ba⟩:=K (d3 bW);rw[<-ba]at a8 aO;have bv:bu=T->∀j,j<b+1->d3 (aG e j)=T:=λae j r=>by by_cases g:j=b;subst g;rw[<-a9,<-ba];exact ae;exact aF j O
  have ci:=aJ b;have cj:(b:I)<(d:I):=O
  have bx:=Q i;change H _ at aO bv;clear aF i a9 ba;go_wp2_with fail;refine a8.mono ?_;rintro g ck ⟨rfl,bz⟩;have bA:=Q (bx.oo.trans (bz.mono bx.size));clear bz a6;cases bu with
   |true=>
    have bZ:=Q (bv.oo dk);go_wp2;go_roundw;case rel=>exact⟨b+1,aK,O,bZ,bA⟩
    exact bY
   |false=>have b0:=Q (aO dk);go_wp2;go_ret2;exact⟨_,_,_,2,J,x.2.1.trans (bA.mono x.2.1.size),.inr ⟨b0,J⟩⟩
 have b2:b=d:=O
 subst b2;have bB:=br aF;have bC:=q x.1 i;obtain⟨u,bb,bc,bD⟩:∃u,y.alloc (az #[S (A aC) b b] 37)=u/\B y y u/\C u y=A (S (A aC) b b):=⟨_,J,aN _ _,aE⟩
 have aQ:=q bC bc;have bE:=bh.bw aQ;have bF:aI bO (λb3=>False\/af G=A b3) u (S (A aC) b b) e:=xr (bO.dj.bw (bO.dj.bw x.2.2.1 i) bc) (by rintro(g|g);exact g;have cl:=(bI bh.1 _ g).2;have cm:=x.2.2.2;have cn:=aD.oo;omega);have be:=Q (U (an.oo.trans (aQ.mono an.oo.size)) (U (aQ.size) bB));have bG:l.heap.size<=u.heap.size:=be.1.size;have b4:L m+1<=1000000000000:=O
 replace bb:=Q bb;have co:=aY.2 dk;clear aF bB i bC bc aQ;go_wp2_with (at_builtin;rw[bb];refine n1 J _ _ 34 37 (S Z 0 0) 24 underlying34 xp J av J u l G aV m (S (A aC) b b) e y J J bD J bE bF b4 bG ?_);intro cp cq cr bH b5 bJ b6 b7 _;have bK:=Q (U bH (be.oo.1.trans bJ));clear bH b5 bJ b6 b7 bD bE bF bG;go_wp2;go_roundw;exact⟨aX,f,_,_,m++[e],J,J,O,O,by rw[bL,eu];omega,be.2.2,bK.1,bK.2⟩;simp only[xq];omega
def m6(a:W)(u0 u1 u2 u3 u4 u5 u6:V):∃b,a.alloc (az #[u0,u1,u2,u3,u4,u5,u6] 378)=b/\B a a b/\b.heap.size=(a:N)+1/\C b a=A u0/\C b ⟨a,1,Z⟩=A u1/\C b ⟨a,2,Z⟩=A u2/\C b ⟨a,3,Z⟩=A u3/\C b ⟨a,4,Z⟩=A u4/\C b ⟨a,5,Z⟩=A u5/\C b ⟨a,6,Z⟩=A u6:=⟨_,J,aN _ _,D,aE,aE,aE,aE,aE,aE,aE⟩
def dM(a b c d e f g:I):V:=ao #[a,b,c,d,e,f,g]
def kD(c d a b e:I):Bool:=(d==c)&&decide (0<=a)&&decide (a<b)&&decide (b<e)
def jS(d e a b f c:I):Bool:=decide (0<=a)&&decide (a<f)&&decide (0<=b)&&decide (b<=if(d==e)=T then c-1 else c)
def jT(c d a b e f:I):Bool:= !(decide (d<c)||((c==d)&&decide (b<=a)))&&(decide (0<=a)&&decide (a<e)&&decide (0<=b)&&decide (b<f))
def jL(c d a b e f:I):Bool:=decide (c<d)&&decide (0<=a)&&decide (a<=e)&&decide (0<=b)&&decide (b<=f)
def Ls(g c d a b e Js:I)(f:W):ap ab 295 #[dM g c d a b e Js] f (ir f (kD c d a b e)):=by
 have⟨i,R,z,h,j,k,l,m,n,o,p⟩:=m6 f g c d a b e (Js:I);unfold dM;change H _ at R z;clear h;rcases(df (d==c)).symm with B9|B9
 ·go_in;go_upto_region 1 with(fail)
  rw[R];go_wp2;go_ret;exact⟨cz (λJs=>aq (au Js)) (by simp[kD,B9]),z⟩
 rcases(df (decide (0<=a))).symm with Cg|Cg
 ·go_in;go_upto_region 1 with(fail)
  rw[R];go_wp2;go_ret;exact⟨cz (λJs=>aq (au Js)) (by simp[kD,B9,Cg]),z⟩
 rcases(df (decide (a<b))).symm with Cp|Cp
 ·go_in;go_upto_region 1 with(fail)
  rw[R];go_wp2;go_ret;exact⟨cz (λJs=>aq (au Js)) (by simp[kD,B9,Cg,Cp]),z⟩
 rcases(df (decide (b<e))).symm with Cw|Cw
 ·exact v'
 exact v'
def Lt(g c d a b e Js:I)(f:W):ap ab 301 #[dM g c d a b e Js] f (ir f (jL c d a b e Js)):=by
 have⟨i,R,z,h,j,k,l,m,n,o,p⟩:=m6 f g c d a b e (Js:I);unfold dM;change H _ at R z;clear h;rcases(df (decide (c<d))).symm with B9|B9
 ·go_in;go_upto_region 1 with(fail)
  rw[R];go_wp2;go_ret;exact⟨cz (λJs=>aq (au Js)) (by simp[jL,B9]),z⟩
 rcases(df (decide (0<=a))).symm with Cg|Cg
 ·go_in;go_upto_region 1 with(fail)
  rw[R];go_wp2;go_ret;exact⟨cz (λJs=>aq (au Js)) (by simp[jL,B9,Cg]),z⟩
 rcases(df (decide (a<=e))).symm with Cp|Cp
 ·go_in;go_upto_region 1 with(fail)
  rw[R];go_wp2;go_ret;exact⟨cz (λJs=>aq (au Js)) (by simp[jL,B9,Cg,Cp]),z⟩
 rcases(df (decide (0<=b))).symm with Cw|Cw
 ·go_in;go_upto_region 1 with(fail)
  rw[R];go_wp2;go_ret;exact⟨cz (λJs=>aq (au Js)) (by simp[jL,B9,Cg,Cp,Cw]),z⟩
 rcases(df (decide (b<=Js))).symm with HQ|HQ
 ·exact v9
 exact v9
def Lu(i d e a b c Js:I)(g:W)(k:0<=Js/\Js<=1000000):ap ab 297 #[dM i d e a b c Js] g (ir g (jS d e a b c Js)):=by
 have⟨l,R,z,j,m,n,o,p,q,r,s⟩:=m6 g i d e a b c (Js:I);unfold dM;change H _ at R z;clear j;rcases df (d==e)with h|h
 ·have f:jS d e a b c Js=(decide (0<=a)&&decide (a<c)&&decide (0<=b)&&decide (b<=Js-1)):=by unfold jS;rw[am h]
  rw[f];clear f;rcases(df (decide (0<=a))).symm with B9|B9
  ·exact wC
  rcases(df (decide (a<c))).symm with Cg|Cg
  ·exact wB
  rcases(df (decide (0<=b))).symm with Cp|Cp
  ·exact wA
  rcases(df (decide (b<=Js-1))).symm with Cw|Cw
  ·exact qD
  exact qD
 have f:jS d e a b c Js=(decide (0<=a)&&decide (a<c)&&decide (0<=b)&&decide (b<=Js)):=by unfold jS;rw[ak (by rw[h];simp)]
 rw[f];clear f;rcases(df (decide (0<=a))).symm with B9|B9
 ·exact wC
 rcases(df (decide (a<c))).symm with Cg|Cg
 ·exact wB
 rcases(df (decide (0<=b))).symm with Cp|Cp
 ·exact wA
 rcases(df (decide (b<=Js))).symm with Cw|Cw
 ·exact qD
 exact qD
def Lv(f a b I7 FL Jq Js:I)(e:W):ap ab 299 #[dM f a b I7 FL Jq Js] e (ir e (jT a b I7 FL Jq Js)):=by
 have⟨m,R,z,h,n,o,p,q,r,s,t⟩:=m6 e f a b I7 FL Jq (Js:I);unfold dM;change H _ at R z;clear h;have c:(decide (b<a)||((a==b)&&decide (FL<=I7)))=T\/(decide (b<a)=F/\((a==b)=F\/((a==b)=T/\decide (FL<=I7)=F))):=by cases decide (b<a)<;>cases(a==b)<;>cases decide (FL<=I7)<;>simp
 rcases c with c|⟨f1,c⟩
 ·have d:jT a b I7 FL Jq Js=F:=by unfold jT;rw[c];rfl
  rw[d];clear d;rcases df (decide (b<a))with f1|f1
  ·clear c;go_in;go_upto_region 1 with(fail)
   rw[R];go_wp2;go_ret;exact⟨J,z⟩
  rw[f1,Bool.false_or,cr]at c;obtain⟨g,i⟩:=c;go_in;go_upto_region 1 with(fail)
  rw[R];go_wp2;go_ret;exact⟨J,z⟩
 have d:jT a b I7 FL Jq Js=(decide (0<=I7)&&decide (I7<Jq)&&decide (0<=FL)&&decide (FL<Js)):=by unfold jT;rcases c with j|⟨k,l⟩;rw[f1,j];simp;rw[f1,k,l];simp
 rw[d];clear d;rcases c with g|⟨g,i⟩
 ·exact vS
 exact vS
abbrev Pc:=I×I×I×Bool
def cQ(a:E Pc)(b:N):Pc:=a.getD b (0,0,0,F)
def so(a b c d e:Pc):Array V:=#[a.1,a.2.1,a.2.2.1,au a.2.2.2,b.1,b.2.1,b.2.2.1,au b.2.2.2,c.1,c.2.1,c.2.2.1,au c.2.2.2,d.1,d.2.1,d.2.2.1,au d.2.2.2,e.1,e.2.1,e.2.2.1,au e.2.2.2]
def bE(a:E Pc):Array V:=so (cQ a 0) (cQ a 1) (cQ a 2) (cQ a 3) (cQ a 4)
def jU(a:E Pc):(bE a).all (·.oneCell')=T:=by simp[bE,so,Value.oneCell']
def lL(a:W)(b c:E Pc)(d:bp)(e:W):Prop:=d=aq (aZ #[ao (bE b),ao (bE c)])/\B a a e
def bK:(ab.info? 333).map (·.size)=A 20:=aT
def xs(b:W)(a:N)(c:Array V):b.grownBy (b.setRow a c) (A a):=⟨J,J,J,by simp[World.setRow],λd _ e=>by have:¬a=d:=λf=>e (by rw[f]);simp[World.setRow,Array.getElem?_modify,this]⟩
def xt(b:W)(a:N)(f c:Array V)(d:bj)(e:N×N)(g:b.heap[a]? =A (az f d e)):(b.setRow a c).heap[a]? =A (az c d e):=by simp[World.setRow,Array.getElem?_modify,g]
def eB{i:Array bd}{j:E bd}{d:bd}{e:a'}{k:bJ}(o:d.guard=Z)(l m:Operand)(a:bj)(p:d.op= .store a l m)(f:W)(c:N)(b g:Array V)(hp:e.eval l=aM (A c))(q:e.eval m=ao b)(n:f.heap[c]? =A (az g a (0,0)))(r:(ab.info? a).map (·.size)=A b.size)(s:g.size=b.size)(t:b.all (·.oneCell')=T)(u:∀h,f.grownBy h (A c)->h.heap[c]? =A (az b a (0,0))->wpList ab i k j (e.put d.dst undef) h):wpList ab i k (d::j) e f:=by refine wpList_plain o λw v=>?_;unfold Oper.wp execOp;simp only[p,hp,q,Instr.storeAt,Instr.sureAddr,Sem.run_bind,Sem.run_pure,Result.andThen_ok,run_storeVar_row f c a a g b n r s t];exact v _ _ (u _ (xs _ _ _) (xt _ _ _ _ _ _ n))
def m7{g:Array bd}{h:E bd}{b:bd}{e:a'}{i:bJ}(k:b.guard=Z)(j:Operand)(a:bj)(l:b.op= .load a j)(c:W)(f:N)(d:Array V)(Jy:TypeDesc)(JH:Jy.isRow=T)(hp:e.eval j=aM (A f))(m:c.heap[f]? =A (az d a (0,0)))(n:ab.underlying a=A Jy)(o:(ab.info? a).map (·.size)=A d.size)(p:wpList ab g i h (e.put b.dst (ao d)) c):wpList ab g i (b::h) e c:=by refine wpList_plain k λr q=>?_;unfold Oper.wp execOp;simp only[l,hp,Instr.loadAt,Instr.sureAddr,Sem.run_bind,Sem.run_pure,Result.andThen_ok,run_loadVar_row c f a a d (0,0) Jy m n mL o];exact q _ _ p
def bu:Array V:=bE []
def gQ(a:W)(c:Array V):∃b,a.alloc (az c 333)=b/\B a a b/\b.heap.size=(a:N)+1/\b.heap[(a:N)]? =A (az c 333 (0,0)):=⟨_,J,aN _ _,D,heap_alloc_last a _⟩
def m8{c:cb}{i:Func}{j k:Tmp}{a:bj}{Jy:TypeDesc}(o:i.results= #[.cell j a,.cell k a])(l:c.underlying a=A Jy)(JH:Jy.isRow=T)(f:Array V)(b:W)(g h:N)(d e:Array V)(p:(c.info? a).map (·.size)=A d.size)(q:(c.info? a).map (·.size)=A e.size)(m:f.getD j undef=aM (A g))(n:f.getD k undef=aM (A h))(r:b.heap[g]? =A (az d a (0,0)))(s:b.heap[h]? =A (az e a (0,0))):(results i f).run c b= .ok (aZ #[ao d,ao e]) b:=by rw[Array.getD_eq_getD_getElem?]at m n;simp[results,o,m,n,asAddr,Sem.run_bind,Result.andThen,run_loadVar_row b g a a d (0,0) Jy r l mL p,run_loadVar_row b h a a e (0,0) Jy s l mL q]
def n4(a b c d:I):E Pc:=[(a,0,b,F),(a,b,c+1,T),(a,c+1,d,F)]
def Lw(v g w h c e x:I)(a:W)(ae:0<=c/\c<e)(ha:e<=1000000):ap ab 296 #[dM v g w h c e x] a (lL a (n4 g h c e) []):=by
 have⟨ag,y,z,o,ah,i,ai,j,k,l,ak⟩:=m6 a v g w h c e x;have⟨al,G,M,P,am⟩:=gQ ag bu;have⟨R,U,p,an,r⟩:=gQ al bu;have f:=q M p;have u:=(p.block _ O).trans am;rw[P,o]at r;rw[o]at u;have i:=s f i;have j:=s f j;have k:=s f k;have l:=s f l;have ar:=Q (q z f);have av:H ((a:N)+1+1<(R:N)):=Q O;obtain⟨aJ,aK⟩:=ae;unfold dM;have ax:IntKind.i64.wrap (c+1)=c+1:=hf _ O;change H _ at y G U u r;clear z M p f o P an ah ai ak;go_in;go_upto_region 1 with(fail)
 rw[show(#[aa ac 0,(0:I),(0:I),au F,(0:I),(0:I),(0:I),au F,(0:I),(0:I),(0:I),au F,(0:I),(0:I),(0:I),au F,(0:I),(0:I),(0:I),au F]:Array V)=bu from J];rw[y,G,U];go_quiet (fail);clear ax;have⟨d,b⟩:=K (R.drewN nq);rw[<-b];have i:C d ⟨a,1,Z⟩=A (aa ac g):=by rw[b];exact i
 have j:C d ⟨a,3,Z⟩=A (aa ac h):=by rw[b];exact j
 have k:C d ⟨a,4,Z⟩=A (aa ac c):=by rw[b];exact k
 have l:C d ⟨a,5,Z⟩=A (aa ac e):=by rw[b];exact l
 have ay:H (d.heap[(a:N)+1]? =A (az bu 333 (0,0))):=Q (by rw[b];exact u);have aA:H (d.heap[(a:N)+1+1]? =A (az bu 333 (0,0))):=Q (by rw[b];exact r);have m:H (B a a d):=Q (by rw[b];exact eb ar _);have X:H ((a:N)+1+1<(d:N)):=Q (by rw[b];exact av.out);clear b;go_wp2_with (first
  |(refine eB J (.tmp 2) (.tmp 30) 333 J d ((a:N)+1) _ bu J J ay bK J g8 ?_;intro aC n aD)
  |(refine eB J (.tmp 3) (.tmp 31) 333 J aC ((a:N)+1+1) _ bu J J ((n.block _ X.out D).trans aA) bK J g8 ?_;intro aE Y aF))
 have aG:B a a aE:=(m.grown n m.size (λad t=>dX)).grown Y (m.grown n m.size (λad t=>dX)).size (λad t=>dX);have aI:=(Y.block ((a:N)+1) (bi n.size X.out) D).trans aD;refine b0 (m8 J underlying333 J _ _ ((a:N)+1) ((a:N)+1+1) (bE (n4 g h c e)) (bE []) bK bK J J aI aF) J ⟨J,aG⟩
def qT{e:bd}{c:a'}{g:a'->W->Prop}{m:bJ}(j k:Operand)(a:bj)(n:e.op= .store a j k)(o:e.dst=Z)(f:W)(d:N)(b h:Array V)(hp:c.eval j=aM (A d))(p:c.eval k=ao b)(l:f.heap[d]? =A (az h a (0,0)))(q:(ab.info? a).map (·.size)=A b.size)(r:h.size=b.size)(s:b.all (·.oneCell')=T)(t:∀i,f.grownBy i (A d)->i.heap[d]? =A (az b a (0,0))->g c i):Oper.wp ab e c f g m:=by unfold Oper.wp execOp;simp only[n,hp,p,Instr.storeAt,Instr.sureAddr,Sem.run_bind,Sem.run_pure,Result.andThen_ok,run_storeVar_row f d a a h b l q r s];show g (c.put e.dst undef) _;rw[o];exact t _ (xs _ _ _) (xt _ _ _ _ _ _ l)
def jV(a:W)(c d e:I)(f:Bool):∃b,a.alloc (az #[c,d,e,au f] 331)=b/\B a a b/\b.heap.size=(a:N)+1/\C b a=A (aa ac c)/\C b ⟨a,1,Z⟩=A (aa ac d)/\C b ⟨a,2,Z⟩=A (aa ac e)/\C b ⟨a,3,Z⟩=A (au f):=⟨_,J,aN _ _,D,aE,aE,aE,aE⟩
structure i7(c d e f g h i:I)(a b:W):Prop where
 c0:C b a=A (aa ac c)
 c1:C b ⟨a,1,Z⟩=A (aa ac d)
 c2:C b ⟨a,2,Z⟩=A (aa ac e)
 c3:C b ⟨a,3,Z⟩=A (aa ac f)
 c4:C b ⟨a,4,Z⟩=A (aa ac g)
 c5:C b ⟨a,5,Z⟩=A (aa ac h)
 c6:C b ⟨a,6,Z⟩=A (aa ac i)
 r:b.heap[(a:N)+1]? =A (az bu 333 (0,0))
 q:b.heap[(a:N)+1+1]? =A (az bu 333 (0,0))
 bw:B a a b
def i7.lt{a b c:I}(d:i7 i j k l a b c w x):(w:N)+1+1<(x:N):=(bM.1 d.q).1
def i7.next{c d e:I}{f:W}(a:i7 i j k l c d e w x)(b:B x x f):i7 i j k l c d e w f:=⟨s b a.c0,s b a.c1,s b a.c2,s b a.c3,s b a.c4,s b a.c5,s b a.c6,(b.block _ (Y a.lt)).trans a.r,(b.block _ a.lt).trans a.q,a.bw.trans (b.mono (Y a.lt))⟩
def i7.fin{n o p:I}{c b:W}{d e:Array V}(f:i7 i j k l n o p w x)(g:x.grownBy c (A ((w:N)+1)))(r:c.heap[(w:N)+1]? =A (az d 333 (0,0)))(h:c.grownBy b (A ((w:N)+1+1)))(s:b.heap[(w:N)+1+1]? =A (az e 333 (0,0))):b.heap[(w:N)+1]? =A (az d 333 (0,0))/\b.heap[(w:N)+1+1]? =A (az e 333 (0,0))/\B w w b:=by have H:=f.lt;have m:=f.bw.grown g O (λu t=>dX);exact⟨(h.block _ (Y g.size) D).trans r,s,m.grown h m.size (λu t=>dX)⟩
def i7.q5{d e f:I}{a:W}(b:i7 i j k l d e f w x)(h:x.grownBy a (A ((w:N)+1))):a.heap[(w:N)+1+1]? =A (az bu 333 (0,0)):=(h.block _ b.lt D).trans b.q
def n5(e f g h i j k:I)(c:W):∃b,(((c.alloc (az #[e,f,g,h,i,j,k] 378)).alloc (az bu 333)).alloc (az bu 333))=b/\i7 e f g h i j k c b/\b.heap.size=(c:N)+1+1+1:=by have⟨o,p,r,l,t,u,v,w,x,y,z⟩:=m6 c e f g h i j k;have⟨D,G,H,K,d⟩:=gQ o bu;have⟨b,M,m,P,n⟩:=gQ D bu;have a:=q H m;have d:=(m.block _ O).trans d;rw[K,l]at n;rw[l]at d;rw[p,G,M];exact⟨b,J,⟨s a t,s a u,s a v,s a w,s a x,s a y,s a z,d,n,q r a⟩,O⟩
def tg{l:Array Oper}{w:Exit->Act->World->Prop}{x y:Nat}{g h:Oper}{e:Act}{m O P Q R U X:Int}{b z n:World}(o:i7 m O P Q R U X b n)(Y:M (λc=>c=(b:Nat)+1\/c=(b:Nat)+1+1) z n)(p q s t:Operand)(ad:l[x]? =some g)(ae:l[y]? =some h)(ag:g.guard=none)(ah:h.guard=none)(ai:g.op= .store 333 p q)(ak:g.dst=none)(al:h.op= .store 333 s t)(am:h.dst=none)(i j:Array Value)(an:e.eval p= .pointer (some ⟨(b:Nat)+1,0,none⟩))(ar:e.eval q= .agg i)(av:e.eval s= .pointer (some ⟨(b:Nat)+1+1,0,none⟩))(ax:e.eval t= .agg j)(D:i.size=20)(G:j.size=20)(ay:i.all (·.oneCell')=true)(aA:j.all (·.oneCell')=true)(aC:∀k,k.heap[(b:Nat)+1]? =some (.cells i 333 (0,0))/\k.heap[(b:Nat)+1+1]? =some (.cells j 333 (0,0))/\Below (b:Nat) b k->w .normal e k):cL prog l w (dU (λc=>c=(b:Nat)+1\/c=(b:Nat)+1+1) z) (.a x (.a y .d)) e n:=by refine aU (λm u=>?_) ad (by unfold Region.wanted;rw[ag]);refine qT p q 333 ai ak _ ((b:Nat)+1) _ bu an ar o.r (by rw[D];exact bK) (by rw[D];rfl) ay ?_;intro aD v aE;have H:=Y.trans (M.grown (I':=λc=>c=(b:Nat)+1\/c=(b:Nat)+1+1) v (λc f=>by simp at f;exact .inl f.symm)) I2 I2;refine u.oo _ _ (dU.mk H) ?_;refine aU (λm u=>?_) ae (by unfold Region.wanted;rw[ah]);refine qT s t 333 al am aD ((b:Nat)+1+1) _ bu av ax (o.q5 v) (by rw[G];exact bK) (by rw[G];rfl) aA ?_;intro aI K aG;refine u.oo _ _ (dU.mk (H.trans (M.grown (I':=λc=>c=(b:Nat)+1\/c=(b:Nat)+1+1) K (λc f=>by simp at f;exact .inr f.symm)) I2 I2)) ?_;exact gc (aC _ (o.fin v aE K aG))
def lM(a d b e c f:I):E Pc:=[(a,0,b,F),(a,b+1,c,F)]
def lN(d a b c f e:I):E Pc:=[(a,0,c,F),(d,b,b+1,F),(a,c,e,F)]
def lO(a e b c d f:I):E Pc:=[(a,0,b,F),(a,b+1,c+1,F),(a,b,b+1,F),(a,c+1,d,F)]
def lP(a e b c d f:I):E Pc:=[(a,0,c,F),(a,b,b+1,F),(a,c,b,F),(a,b+1,d,F)]
def lQ(a d b c e f:I):E Pc:=[(a,0,b,F),(d,c,c+1,F),(a,b+1,c,F),(a,b,b+1,F),(a,c+1,e,F)]
def lR(a d b c e f:I):E Pc:=[(a,0,b,F),(d,c,c+1,F),(a,b+1,e,F)]
def lS(d a b c f e:I):E Pc:=[(a,0,c,F),(d,b,b+1,F),(a,c+1,e,F)]
def n6(a b c d f e:I):E Pc:=[(a,0,c,F),(b,d,e,F)]
def n7(a b c d e f:I):E Pc:=[(b,0,d,F),(a,c,e,F)]
def Lx(w g i c e j k:I)(b:W)(G:0<=c/\c<=1000000)(P:0<=e/\e<=1000000):ap ab 302 #[dM w g i c e j k] b (lL b (n6 g i c e j k) (n7 g i c e j k)):=by
 have⟨n,x,y,R⟩:=n5 w g i c e j k b;have z:=Q y;clear y;have⟨o,p,q,s,t,l,m,_,_,_⟩:=z.oo;obtain⟨ad,ae⟩:=G;obtain⟨ag,ah⟩:=P;unfold dM;change H _ at x R;go_in;go_upto_region 1 with(fail)
 rw[show(#[aa ac 0,(0:I),(0:I),au F,(0:I),(0:I),(0:I),au F,(0:I),(0:I),(0:I),au F,(0:I),(0:I),(0:I),au F,(0:I),(0:I),(0:I),au F]:Array V)=bu from J];rw[x.oo];go_quiet (fail);have⟨u,Cw⟩:=K (n.drewN nq);rw[<-Cw];have D:B n n u:=nK
 have v:=Q (z.oo.next D);clear o p q s t l m Cw D;have⟨o,p,q,s,t,l,m,_,_,_⟩:=v.oo;have ai:H ((b:N)+1+1<(u:N)):=Q v.oo.lt;go_upto_region 2 with fail;have ak:=bU.cell (G:=λf=>f=(b:N)+1\/f=(b:N)+1+1) l O;have al:=bU.cell (G:=λf=>f=(b:N)+1\/f=(b:N)+1+1) m O;clear o p q s t l m;refine fw ((.r 0 (.r 1 (.r 2 (.r 3 (.r 4 (.r 5 (.r 6 (.r 7 (.r 8 (.r 9 (.r 10 (.r 11 (.r 12 (.r 13 (.r 14 (.r 15 (.r 16 (.r 17 (.a 18 (.a 19 .d))))))))))))))))))))) (dU (λf=>f=(b:N)+1\/f=(b:N)+1+1) u) aT aT (λ_ _ Jy _ _ h=>fT) (dU.mk (M.refl _ _).drew) ?_;iterate 18 refine mS ?_
 refine tg (v.oo.next (an _)) (M.refl _ _).drew (.tmp 2) (.tmp 28) (.tmp 3) (.tmp 37) J J J J J J J J _ _ J J J J J J g8 g8 ?_;rintro am ⟨f1,X,Y⟩;go_wp2_with fail;refine b0 (m8 J underlying333 J _ _ ((b:N)+1) ((b:N)+1+1) (bE (n6 g i c e j k)) (bE (n7 g i c e j k)) bK bK J J f1 X) J ⟨J,Y⟩
structure Mv where
 k:I
 a:I
 b:I
 i:I
 j:I
def n8(f a b c d e g:I):Bool:=if f=0 then kD a b c d e else if f=1 then jS a b c d e g else if f=2 then jT a b c d e g else jL a b c d e g
def n9(g a b c d e f:I):E Pc×E Pc:=if g=0 then(n4 a c d e,[]) else if g=1 then(if a≠b then(lM a b c d e f,lN a b c d e f)else if c<d then(lO a b c d e f,[])else(lP a b c d e f,[])) else if g=2 then(if a=b then(lQ a b c d e f,[])else(lR a b c d e f,lS a b c d e f)) else(n6 a b c d e f,n7 a b c d e f)
def kN(d:N)(c:Mv):Bool:= !(decide (c.k<0)||decide (3<c.k)||decide (c.a<0)||decide ((d:I)<=c.a)||decide (c.b<0)||decide ((d:I)<=c.b))
def bA(a:ar)(b:I):I:=((ah a b.toNat).length:I)
def bV(d:ar)(c:Mv):Bool×E Pc×E Pc:=if kN (L d) c&&n8 c.k c.a c.b c.i c.j (bA d c.a) (bA d c.b)then(T,n9 c.k c.a c.b c.i c.j (bA d c.a) (bA d c.b))else(F,[],[])
def pe(b:ar)(a:Pc):Prop:=a.2.1<a.2.2.1->0<=a.1/\a.1<(L b:I)/\0<=a.2.1/\a.2.2.1<=bA b a.1
def jW(a:ar)(b:E Pc):Prop:=∀c,pe a (cQ b c)
def Ly(a:ar):pe a (0,0,0,F):=λb=>absurd b D
def gg{b:ar}{a:E Pc}(e:∀f∈a,pe b f):jW b a:=λc=>by
 unfold cQ
 by_cases d:c<L a
 ·simp only[fU,e7 d,Option.getD_some];exact e _ (dY d)
 ·simp only[fU,List.getElem?_eq_none (by omega:L a<=c),Option.getD_none];exact Ly b
def n'{d:Mv}:kN c d=T↔0<=d.k/\d.k<=3/\0<=d.a/\d.a<c/\0<=d.b/\d.b<c:=by unfold kN;simp only[Bool.not_eq_true',Bool.or_eq_false_iff,decide_eq_false_iff_not];omega
def hg(a:Pc):N:=(a.2.2.1-a.2.1).toNat
def i8(a:E Pc):N:=(a.map hg).sum
def ti{a:I}(d:kD i j k l a=T):j=i/\0<=k/\k<l/\l<a:=by simpa[kD,and_assoc]using d
def tj{c a:I}(d:jS i j k l c a=T):0<=k/\k<c/\0<=l/\(if i=j then l<=a-1 else l<=a):=by simp only[jS,cr,ez,beq_iff_eq]at d;split at d<;>rename_i f;rw[am f];omega;rw[ak f];omega
def tk{d e:I}(f:jT i j k l d e=T):(i=j->k<l)/\i<=j/\0<=k/\k<d/\0<=l/\l<e:=by simp only[jT,cr,Bool.not_eq_true',Bool.or_eq_false_iff,decide_eq_false_iff_not,ez,Bool.and_eq_false_iff,lz]at f;obtain⟨⟨n,a⟩,o⟩:=f;refine⟨λm=>?_,O,O,O,O,O⟩;rcases a with a|a;exact absurd m a;omega
def qU{a b:I}(e:jL i j k l a b=T):i<j/\0<=k/\k<=a/\0<=l/\l<=b:=by simpa[jL,and_assoc]using e
def tl(f:ar)(c:Mv):jW f (bV f c).2.1/\jW f (bV f c).2.2/\(bV f c).2.1.length<=5/\(bV f c).2.2.length<=5:=by
 unfold bV;split;rename_i v;rw[cr,n']at v;obtain⟨⟨M,O,w,x,y,z⟩,h⟩:=v;have d:∀i j m,0<=i->j<=bA f c.a->pe f (c.a,i,j,m):=λi j m q r _=>⟨w,x,q,r⟩
 have k:∀i j m,0<=i->j<=bA f c.b->pe f (c.b,i,j,m):=λi j m q r _=>⟨y,z,q,r⟩
 unfold n8 at h;simp only[n9];split at h;rename_i n;have⟨p,s,t,l⟩:=ti h;simp only[n,if_true];refine⟨gg ?_,gg D,by simp[n4],D⟩;intro g hp;simp only[n4,cK,List.not_mem_nil,or_false]at hp;rcases hp with rfl|rfl|rfl<;>refine d _ _ _ ?_ ?_<;>omega;split at h;rename_i o n;have⟨p,s,t,l⟩:=tj h;rw[ak o,am n];by_cases e:c.a=c.b;rw[ak (X e)];rw[am e]at l;rw[<-e]at l;split;refine⟨gg ?_,gg D,by simp[lO],D⟩;intro g hp;simp only[lO,cK,List.not_mem_nil,or_false]at hp;rcases hp with rfl|rfl|rfl|rfl<;>refine d _ _ _ ?_ ?_<;>omega;refine⟨gg ?_,gg D,by simp[lP],D⟩;intro g hp;simp only[lP,cK,List.not_mem_nil,or_false]at hp;rcases hp with rfl|rfl|rfl|rfl<;>refine d _ _ _ ?_ ?_<;>omega;rw[am e];rw[ak e]at l;refine⟨gg ?_,gg ?_,by simp[lM],by simp[lN]⟩;intro g hp;simp only[lM,cK,List.not_mem_nil,or_false]at hp;rcases hp with rfl|rfl<;>refine d _ _ _ ?_ ?_<;>omega;intro g hp;simp only[lN,cK,List.not_mem_nil,or_false]at hp;rcases hp with rfl|rfl|rfl;refine k _ _ _ ?_ ?_<;>omega;refine d _ _ _ ?_ ?_<;>omega;refine k _ _ _ ?_ ?_<;>omega;split at h;rename_i o u n;have⟨p,s,t,l,G,H⟩:=tk h;rw[ak o,ak u,am n];by_cases e:c.a=c.b;rw[am e];have:=p e;rw[<-e]at H;refine⟨gg ?_,gg D,by simp[lQ],D⟩;intro g hp;simp only[lQ,cK,List.not_mem_nil,or_false]at hp;rw[<-e]at hp;rcases hp with rfl|rfl|rfl|rfl|rfl<;>refine d _ _ _ ?_ ?_<;>omega;rw[ak e];refine⟨gg ?_,gg ?_,by simp[lR],by simp[lS]⟩;intro g hp;simp only[lR,cK,List.not_mem_nil,or_false]at hp;rcases hp with rfl|rfl|rfl;refine d _ _ _ ?_ ?_<;>omega;refine k _ _ _ ?_ ?_<;>omega;refine d _ _ _ ?_ ?_<;>omega;intro g hp;simp only[lS,cK,List.not_mem_nil,or_false]at hp;rcases hp with rfl|rfl|rfl;refine k _ _ _ ?_ ?_<;>omega;refine d _ _ _ ?_ ?_<;>omega;refine k _ _ _ ?_ ?_<;>omega;rename_i o u K;have⟨p,s,t,l,G⟩:=qU h;rw[ak o,ak u,ak K];refine⟨gg ?_,gg ?_,by simp[n6],by simp[n7]⟩;intro g hp;simp only[n6,cK,List.not_mem_nil,or_false]at hp;rcases hp with rfl|rfl;refine d _ _ _ ?_ ?_<;>omega;refine k _ _ _ ?_ ?_<;>omega;intro g hp;simp only[n7,cK,List.not_mem_nil,or_false]at hp;rcases hp with rfl|rfl;refine k _ _ _ ?_ ?_<;>omega;refine d _ _ _ ?_ ?_<;>omega;exact⟨gg D,gg D,D,D⟩
def Lz(e:ar)(c:Mv)(l:(bV e c).1=T):(c.a=c.b->i8 (bV e c).2.1<=(ah e c.a.toNat).length)/\(c.a≠c.b->i8 (bV e c).2.1+i8 (bV e c).2.2<=(ah e c.a.toNat).length+(ah e c.b.toNat).length):=by unfold bV at l⊢;split at l;rename_i m;rw[am m];rw[cr,n']at m;obtain⟨⟨t,u,v,w,x,y⟩,g⟩:=m;have z:bA e c.a=((ah e c.a.toNat).length:I):=J;have D:bA e c.b=((ah e c.b.toNat).length:I):=J;unfold n8 at g;simp only[n9];split at g;rename_i f;have⟨i,n,o,h⟩:=ti g;simp only[f,if_true];refine⟨λ_=>?_,λj=>absurd i.symm j⟩;simp only[i8,n4,hg,dE,List.map_nil,d5,List.sum_nil];omega;split at g;rename_i k f;have⟨i,n,o,h⟩:=tj g;rw[ak k,am f];by_cases d:c.a=c.b;rw[ak (X d)];rw[am d]at h;rw[<-d]at h;refine⟨λ_=>?_,λj=>absurd d j⟩;split<;>simp only[i8,lO,lP,hg,dE,List.map_nil,d5,List.sum_nil]<;>omega;rw[am d];rw[ak d]at h;refine⟨λf=>absurd f d,λ_=>?_⟩;simp only[i8,lM,lN,hg,dE,List.map_nil,d5,List.sum_nil];omega;split at g;rename_i k p f;have⟨i,n,o,h,q,r⟩:=tk g;rw[ak k,ak p,am f];by_cases d:c.a=c.b;rw[am d];have:=i d;rw[<-d]at r;refine⟨λ_=>?_,λj=>absurd d j⟩;simp only[i8,lQ,hg,dE,List.map_nil,d5,List.sum_nil];omega;rw[ak d];refine⟨λf=>absurd f d,λ_=>?_⟩;simp only[i8,lR,lS,hg,dE,List.map_nil,d5,List.sum_nil];omega;rename_i k p s;have⟨i,n,o,h,q⟩:=qU g;rw[ak k,ak p,ak s];refine⟨λf=>absurd f O,λ_=>?_⟩;simp only[i8,n6,n7,hg,dE,List.map_nil,d5,List.sum_nil];omega;simp at l
def ix(b:ar)(a:Pc):ag:=if a.2.1<a.2.2.1 then(if a.2.2.2 then(((ah b a.1.toNat).take a.2.2.1.toNat).drop a.2.1.toNat).reverse else((ah b a.1.toNat).take a.2.2.1.toNat).drop a.2.1.toNat)else[]
def fz(a:ar)(b:E Pc):N->ag
 |0=>[]
 |c+1=>fz a b c++ix a (cQ b c)
def gh(a:ar)(b:E Pc):ag:=fz a b 5
def LA(b:ar)(a:Pc)(c:0<=a.2.1):(ix b a).length<=hg a:=by unfold ix hg;split;split<;>simp only[List.length_reverse,ga,dd]<;>omega;simp
def xu(a:ar)(b:Pc):(ix a b).length<=(ah a b.1.toNat).length:=by unfold ix;split;split<;>simp only[List.length_reverse,ga,dd]<;>omega;simp
def LB{b:ar}(d:cx b)(c:E Pc)(a:N):(fz b c a).length<=1000000*a:=by
 induction a with
  |zero=>simp[fz]
  |succ a e=>rw[fz,bL];have:=xu b (cQ c a);have:=d (cQ c a).1.toNat;omega
def LC(a:br)(e:L a<=5):a.getD 0 0+a.getD 1 0+a.getD 2 0+a.getD 3 0+a.getD 4 0=a.sum:=by
 match a,e with
  |[],_=>rfl
  |[b],_=>simp
  |[b,c],_=>simp
  |[b,c,d],_=>simp;omega
  |[b,c,d,f],_=>simp;omega
  |[b,c,d,f,g],_=>simp;omega
def LD(a:E Pc)(b:N):hg (cQ a b)=(a.map hg).getD b 0:=by unfold cQ;by_cases c:b<L a;simp[e7 c];simp[List.getElem?_eq_none (by omega:L a<=b),hg]
def xv{c:ar}{a:E Pc}(e:jW c a)(f:L a<=5):(gh c a).length<=i8 a:=by
 have hp:∀b,(ix c (cQ a b)).length<=(a.map hg).getD b 0:=λb=>by rw[<-LD];by_cases d:(cQ a b).2.1<(cQ a b).2.2.1;exact LA c _ (e b d).2.2.1;unfold ix;rw[ak d];simp
 have g:=hp 0;have h:=hp 1;have i:=hp 2;have j:=hp 3;have k:=hp 4;have l:=LC (a.map hg) (X f);unfold i8;simp only[gh,fz,bL,et];omega
def gi(c:ai)(a:ag):N->I
 |0=>0
 |1=>0
 |b+2=>aB (gi c a (b+1)+bC c (aB ((al a b).1+1)) (aB ((al a (b+1)).1+1)))
def gj(c:ai)(a:ag):N->I
 |0=>0
 |1=>0
 |b+2=>aB (gj c a (b+1)+bC c (aB ((al a (b+1)).1+1)) (aB ((al a b).1+1)))
def fA(a:ag):N->I
 |0=>0
 |b+1=>aB (fA a b+(al a b).2)
def gl(a:ai)(b:ag)(c:N):ad:=(List.range c).map λd=>gi a b (d+1)
def gm(a:ai)(b:ag)(c:N):ad:=(List.range c).map λd=>gj a b (d+1)
def fB(a:ag)(b:N):ad:=(List.range (b+1)).map (fA a)
def LF(a:ai)(b:ag)(c:N):gl a b (c+1)=gl a b c++[gi a b (c+1)]:=by simp[gl,fu]
def LG(a:ai)(b:ag)(c:N):gm a b (c+1)=gm a b c++[gj a b (c+1)]:=by simp[gm,fu]
def LH(a:ag)(b:N):fB a (b+1)=fB a b++[fA a (b+1)]:=by simp[fB,fu]
def LI{c:ai}{d:ag}(f:b<a):ae (gl c d a) b=gi c d (b+1):=jN _ _ _ f
def LJ{c:ai}{d:ag}(f:b<a):ae (gm c d a) b=gj c d (b+1):=jN _ _ _ f
def xw{c:ag}(e:b<a+1):ae (fB c a) b=fA c b:=jN _ _ _ e
def pf(b:ai)(g:ar)(d:a4)(c:Pc):a4:=if c.2.1<c.2.2.1 then let a:=ah g c.1.toNat;let e:=c.2.1.toNat;let f:=(c.2.2.1-1).toNat;if c.2.2.2 then(aB ((al a e).1+1),aB (d.2+aB (aB (bC b d.1 (aB ((al a f).1+1))+gj b a (f+1))-gj b a (e+1))))else(aB ((al a f).1+1),aB (d.2+aB (aB (bC b d.1 (aB ((al a e).1+1))+gi b a (f+1))-gi b a (e+1)))) else d
def lT(a:ai)(b:ar)(c:E Pc):N->a4
 |0=>(0,0)
 |d+1=>pf a b (lT a b c d) (cQ c d)
def hV(a:ai)(b:ar)(c:E Pc):I:=aB ((lT a b c 5).2+bC a (lT a b c 5).1 0)
def oa(c:ar)(a:E Pc):N->I
 |0=>0
 |b+1=>if(cQ a b).2.1<(cQ a b).2.2.1 then aB (oa c a b+aB (fA (ah c (cQ a b).1.toNat) (cQ a b).2.2.1.toNat-fA (ah c (cQ a b).1.toNat) (cQ a b).2.1.toNat))else oa c a b
def pg(a:ar)(b:E Pc):I:=oa a b 5
def kO(c:ai)(d:ar)(e:Mv)(f g:E Pc):I:=if e.a=e.b then aB (hV c d f-b2 c (ah d e.a.toNat)) else aB (aB (hV c d f-b2 c (ah d e.a.toNat))+aB (hV c d g-b2 c (ah d e.b.toNat)))
def kP(c:ai)(a:ar)(d e:I)(b:E Pc):Bool:=decide (pg a b<=d)&&decide (hV c a b<=e)
def gn(f:ar)(a b c d:N):N->E Mv
 |0=>[]
 |e+1=>gn f a b c d e++(if(bV f ⟨a,b,c,d,e⟩).1 then[⟨a,b,c,d,e⟩]else[])
def fC(a:ar)(c d b:N):N->E Mv
 |0=>[]
 |e+1=>fC a c d b e++gn a c d b e ((ah a b).length+1)
def hh(a:ar)(c b:N):N->E Mv
 |0=>[]
 |d+1=>hh a c b d++fC a c b d ((ah a b).length+1)
def gR(a:ar)(b:N):N->E Mv
 |0=>[]
 |c+1=>gR a b c++hh a b c (L a)
def hW(a:ar):N->E Mv
 |0=>[]
 |b+1=>hW a b++gR a b (L a)
def kQ(a:ar):E Mv:=hW a 4
def hi(c:ai)(a:ar)(d e:I)(f:Mv×I)(b:Mv):Mv×I:=if decide (kO c a b (bV a b).2.1 (bV a b).2.2<f.2)&&kP c a d e (bV a b).2.1&&kP c a d e (bV a b).2.2 then(b,kO c a b (bV a b).2.1 (bV a b).2.2)else f
def i9(b:ai)(a:ar)(c d:I):Mv×I:=(kQ a).foldl (hi b a c d) (⟨0,0,0,0,0⟩,0)
def hj(c:ar)(d:Mv)(e:N):ag:=if(e:I)=d.a then gh c (bV c d).2.1 else if(e:I)=d.b then gh c (bV c d).2.2 else ah c e
def go(a:ar)(b:Mv):N->ar
 |0=>[]
 |c+1=>if 0<(hj a b c).length then go a b c++[hj a b c]else go a b c
def kR(a:ar)(b:Mv):ar:=if(bV a b).1 then go a b (L a) else[]
def dr(b:ai)(c d:I)(a:ar):N->ar
 |0=>a
 |e+1=>if(i9 b a c d).2<0 then dr b c d (kR a (i9 b a c d).1) e else a
def a6(a:ar):N:=(a.map L).sum
def LK{b:br}(c:a∈b):a<=b.sum:=by
 induction b with
  |nil=>cases c
  |cons f b e=>rcases cK.1 c with rfl|c;simp;have:=e c;simp;omega
def LL{b:ar}(c:a<L b):ah b a∈b:=by simp[ah,c]
def tm{Jj:ar}(a:N):(ah Jj a).length<=a6 Jj:=by by_cases b:a<L Jj;exact LK (List.mem_map_of_mem (LL b));simp[ah,List.getElem?_eq_none (by omega:L Jj<=a)]
def cx.of{a:ar}(b:a6 a<=1000000):cx a:=λc=>a1 (tm c) b
def eV(a:N->N):N->N
 |0=>0
 |b+1=>eV a b+a b
def tn{d e:N->N}(f:∀b,b<a->d b=e b):eV d a=eV e a:=by
 induction a with
  |zero=>rfl
  |succ a g=>rw[eV,eV,g (λb h=>f b O),f a O]
def LM(a:ar):a6 a=eV (λc=>(ah a c).length) (L a):=by
 have d:∀b,b<=L a->a6 (a.take b)=eV (λc=>(ah a c).length) b:=by
  intro b;induction b with
   |zero=>intro _;rfl
   |succ b e=>intro f;rw[eV,<-e O,eR O,a6,ck,List.sum_append];simp[a6,ah,show b<L a by omega]
 rw[<-d (L a) (aL _),List.take_length]
def tp{JB:N->N}{KB:N}(ha:b<a):eV (λd=>if d=b then KB else JB d) a+JB b=eV JB a+KB:=by
 induction a with
  |zero=>omega
  |succ a f=>
   rw[eV,eV];by_cases g:b=a;subst g;have:eV (λd=>if d=b then KB else JB d) b=eV JB b:=tn λd h=>by rw[ak O]
   simp only[if_true];omega;have:=f O;rw[ak O];omega
def LN(b:ar)(c:Mv)(a:N):a6 (go b c a)=eV (λd=>(hj b c d).length) a:=by
 induction a with
  |zero=>rfl
  |succ a e=>rw[go,eV];split;rw[a6,ck,List.sum_append,<-a6,e];simp;omega
def qV(b:ar)(c:Mv)(a:N):(go b c a).length<=a:=by
 induction a with
  |zero=>simp[go]
  |succ a d=>rw[go];split;simp;omega;omega
def LO(a:ar)(b:Mv):(kR a b).length<=L a:=by unfold kR;split;exact qV a b _;simp
def xx(c:ar)(d:Mv):a6 (kR c d)<=a6 c:=by
 unfold kR;split;rename_i g;have j:kN (L c) d=T:=by unfold bV at g;split at g;rename_i k;rw[cr]at k;exact k.1;simp at g
 rw[n']at j;obtain⟨_,_,x,y,z,D⟩:=j;have⟨r,s,t,u⟩:=tl c d;have⟨l,m⟩:=Lz c d g;have g1:=xv r t;have g2:=xv s u;rw[LN,LM];by_cases n:d.a=d.b;have l:=l n;have f:=tp (JB:=λe=>(ah c e).length) (KB:=(gh c (bV c d).2.1).length) (bh (d.a.toNat<L c));have:eV (λe=>(hj c d e).length) (L c)=eV (λe=>if e=d.a.toNat then(gh c (bV c d).2.1).length else(ah c e).length) (L c):=tn λe v=>by unfold hj;by_cases f:(e:I)=d.a;rw[am f,am O];rw[ak f,ak O,ak O]
 rw[this];omega;have m:=m n;have G:=tp (JB:=λe=>(ah c e).length) (KB:=(gh c (bV c d).2.2).length) (bh (d.b.toNat<L c));have h:=tp (JB:=λe=>if e=d.b.toNat then(gh c (bV c d).2.2).length else(ah c e).length) (KB:=(gh c (bV c d).2.1).length) (bh (d.a.toNat<L c));have:eV (λe=>(hj c d e).length) (L c)=eV (λe=>if e=d.a.toNat then(gh c (bV c d).2.1).length else if e=d.b.toNat then(gh c (bV c d).2.2).length else(ah c e).length) (L c):=tn λe v=>by
  unfold hj;by_cases f:(e:I)=d.a;rw[am f,am O];have h:¬e=d.a.toNat:=O
  rw[ak f,ak h];by_cases q:(e:I)=d.b;have i:e=d.b.toNat:=O
  rw[am q,am i];have i:¬e=d.b.toNat:=O
  rw[ak q,ak i]
 rw[this];have w:¬d.a.toNat=d.b.toNat:=O
 simp only[ak w]at h;omega;simp[a6]
def lU(b:ai)(c d:I)(a:ar)(e:N):a6 (dr b c d a e)<=a6 a/\(dr b c d a e).length<=L a:=by
 induction e generalizing a with
  |zero=>exact⟨aL _,aL _⟩
  |succ e f=>rw[dr];split;have g:=f (kR a (i9 b a c d).1);have h:=xx a (i9 b a c d).1;have i:=LO a (i9 b a c d).1;omega;exact⟨aL _,aL _⟩
def qW(a:Pc):Array V:=#[a.1,a.2.1,a.2.2.1,au a.2.2.2]
def tq(b:E Pc)(a:N)(d:a<5)(c:W):(Instr.index 333 (ao (bE b)) (a:I)).run ab c= .ok (ao (qW (cQ b a))) c:=by rcases a with _|_|_|_|_|a;kernel_rfl;kernel_rfl;kernel_rfl;kernel_rfl;kernel_rfl;omega
def fd(a:bz)(c b d:N):bz:=if c=b then a else a.map (·.add (b*d))
def xy{Jd:Program}{Kw:World}(d e:TypeId)(f:TypeInfo)(h:Jd.underlying d=some (.slice e))(i:Jd.info? e=some f)(g:Option Addr)(j b a c:Nat)(k:a<=c)(l:c<=b):(Instr.sliceAt d (.slice g j b) (some (.int .i64 (a:Int))) (some (.int .i64 (c:Int))) none).run Jd Kw= .ok (.slice (fd g b a f.size) (c-a) (b-a)) Kw:=by simp[Instr.sliceAt,Instr.slice,run_underlying h,Instr.sliceBounds,Instr.sliceBound,asIntOf,sizeOf,typeInfo,i,k,l,Sem.run_bind,Result.andThen,fd]
def xz{Jd:Program}{Kw:World}(d e:TypeId)(f:TypeInfo)(h:Jd.underlying d=some (.slice e))(i:Jd.info? e=some f)(g:Option Addr)(b c a:Nat)(j:a<=b):(Instr.sliceAt d (.slice g b c) (some (.int .i64 (a:Int))) none none).run Jd Kw= .ok (.slice (fd g c a f.size) (b-a) (c-a)) Kw:=by simp[Instr.sliceAt,Instr.slice,run_underlying h,Instr.sliceBounds,Instr.sliceBound,asIntOf,sizeOf,typeInfo,i,j,Sem.run_bind,Result.andThen,fd]
def qX{f:bz}(ha:f=A ⟨d,e,Z⟩)(l:b<a):fd f a b c=A ⟨d,e+b*c,Z⟩:=by subst ha;unfold fd;rw[ak O];unfold Addr.add;simp
def ba.cut{i:bz}{f:ag}(l:ba w (S i a b) f)(c d:N)(u:c<=d)(v:d<=a):ba w (S (fd i b c 2) (d-c) (b-c)) ((f.take d).drop c):=by
 obtain⟨x,y,j,g1,g2,o⟩:=l;simp only[bf]at j;obtain⟨rfl,rfl,rfl⟩:=j;have k:((f.take d).drop c).length=d-c:=by rw[ga,dd];omega
 refine⟨_,b-c,by rw[k],O,O,λe p=>?_⟩;rw[k]at p;have⟨q,g,ha,r,s⟩:=o (c+e) O;have t:al ((f.take d).drop c) e=al f (c+e):=by unfold al;simp only[fU,List.getElem?_drop,List.getElem?_take];rw[am O]
 rw[t];refine⟨q,g+c*2,qX ha O,?_,?_⟩;rw[show g+c*2+e*2=g+(c+e)*2 by omega];exact r;rw[show g+c*2+e*2+1=g+(c+e)*2+1 by omega];exact s
def aW.set{m:bj}{j:ag}(p:aW m w a (S (A b) c d) j)(f:N)(h i:I)(t:f<L j):aW m ((aj w ⟨b,f*2,Z⟩ h).setCell ⟨b,f*2+1,Z⟩ i) a (S (A b) c d) (j.set f (h,i)):=by
 obtain⟨R,u⟩:=p;refine⟨by rw[g7,b'];omega,?_⟩;rcases u with⟨v,_⟩|⟨U,Y,x,o,y,z,H,K,M,O⟩;simp at v;simp only[bf,a2,bN,bT]at o;obtain⟨rfl,rfl,rfl⟩:=o;refine .inr ⟨b,d,(x.setIfInBounds (f*2) h).setIfInBounds (f*2+1) i,D,y,?_,X H,K,X M,?_⟩;simp only[aj,Array.getElem?_modify];simp[z];have P:∀(g:ag) (e:N),e<L g->((be g).set (e*2) h).set (e*2+1) i=be (g.set e (h,i)):=by
  intro g;induction g with
   |nil=>intro e l;simp at l
   |cons ad g Q=>intro e l;rcases e with _|e;simp[be];have:=Q e (X l);simp only[be,List.flatMap_cons,List.set_cons_succ,List.cons_append,List.nil_append]at this⊢;rw[show(e+1)*2=e*2+1+1 by omega,show e*2+1+1+1=(e*2+1)+1+1 by omega];simp only[List.set_cons_succ];rw[this]
 rw[b'];simp only[Array.toList_setIfInBounds];rw[List.take_set,List.take_set,O,P j f t]
def fX(a:ag)(c:N):ag:=(List.range (L a)).map λb=>al a (if b<c\/L a<=b+c then (L a)-1-b else b)
def ob(a:ag)(b:N):(fX a b).length=L a:=by simp[fX]
def ph{c:ag}(f:b<L c):(fX c a)[b]? =A (al c (if b<a\/L c<=b+a then (L c)-1-b else b)):=by simp[fX,f]
def xA{b:ag}(c:a<L b):b[a]? =A (al b a):=by rw[jP c];exact e7 c
def LP(a:ag):fX a 0=a:=by apply List.ext_getElem?;intro c;by_cases b:c<L a;rw[ph b,xA b,ak O];rw[List.getElem?_eq_none (by rw[ob];omega),List.getElem?_eq_none O]
def LQ(a:ag)(c:N)(f:L a<=2*c+1):fX a c=a.reverse:=by apply List.ext_getElem?;intro b;by_cases d:b<L a;rw[ph d,List.getElem?_reverse d,xA (by omega:L a-1-b<L a)];by_cases e:b<c\/L a<=b+c;rw[am e];rw[ak e,show (L a)-1-b=b by omega];rw[List.getElem?_eq_none (by rw[ob];omega),List.getElem?_eq_none (by rw[List.length_reverse];omega)]
def LR(b:ag)(a:N)(h:2*a+1<L b):fX b (a+1)=((fX b a).set a (al b (L b-1-a))).set (L b-1-a) (al b a):=by apply List.ext_getElem?;intro c;by_cases e:c<L b;rw[ph e,List.getElem?_set,List.getElem?_set];simp only[b',ob];by_cases f:L b-1-a=c;rw[am f,am O,am O];rw[show (L b)-1-c=a by omega];rw[ak f];by_cases d:a=c;rw[am d,am O,am O,d];rw[ak d,ph e];by_cases g:c<a\/L b<=c+a;rw[am g,am O];rw[ak g,ak O];rw[List.getElem?_eq_none (by rw[ob];omega),List.getElem?_eq_none (by simp only[b',ob];omega)]
def xB{c:ag}(f:a<=b)(g:b+a<L c):al (fX c a) b=al c b:=by unfold al;rw[fU,ph O,ak O];rfl
def xC(a b:ag)(c:N)(d:a4):(a++b).set (L a+c) d=a++b.set c d:=by rw[List.set_append_right _ _ O,Nat.add_sub_cancel_left]
def xD(a b:ag)(c:N):al (a++b) (L a+c)=al b c:=by unfold al;rw[fU,i1 O,Nat.add_sub_cancel_left];rfl
def aW.si{k:bj}{f:ag}(l:aW k w a (S (A b) c d) f)(e h:N)(i j:I)(q:e<L f)(r:e*2=h):aW k ((aj w ⟨b,h,Z⟩ i).setCell ⟨b,h+1,Z⟩ j) a (S (A b) c d) (f.set e (i,j)):=r▸l.set e i j q
def aW.at_{n:bj}{e:ag}(h:aW n w a (S (A b) c d) e)(i:N)(o:i<L e):C w ⟨b,i*2,Z⟩=A (aa ac (al e i).1)/\C w ⟨b,i*2+1,Z⟩=A (aa ac (al e i).2)/\aH w ⟨b,i*2,Z⟩=F/\aH w ⟨b,i*2+1,Z⟩=F:=by have⟨u,v,j,_,_,p⟩:=h.di;simp only[bf]at j;obtain⟨rfl,rfl,rfl⟩:=j;have⟨x,y,ha,k,g1⟩:=p i o;simp only[a2,bN,bT]at ha;obtain⟨rfl,rfl⟩:=ha;rw[bX]at k g1;rcases h.2 with⟨q,_⟩|⟨z,D,G,l,H,m,_⟩;simp at q;simp only[bf,a2,bN,bT]at l;obtain⟨rfl,_,_⟩:=l;exact⟨k,g1,by simp[aH,m],by simp[aH,m]⟩
def LS(f m k n:N)(g b:ag)(o:W)(h:aW 89 o n (S (A f) m k) (g++b))(ad:(g++b).length<=1000000000000):ap ab 282 #[S (fd (A ⟨f,0,Z⟩) k (L g) 2) (L b) (k-L g)] o λv ae=>v=aq (aZ #[])/\aW 89 ae n (S (A f) m k) (g++b.reverse)/\o.grownBy ae (A f):=by
 have ah:b≠[]->L g<k:=λav=>by have⟨a1,a2,ax,ay,_,_⟩:=h.di;simp only[bf]at ax;have:=List.length_pos_iff.2 av;rw[bL]at ay;omega
 have⟨i,j⟩:=K (L b);have⟨e,l⟩:=K (L g);have a3:e+i<=1000000000000:=by rw[bL]at ad;omega
 rw[<-l,<-j];have aA:H (aW 89 o n (S (A f) m k) (g++fX b 0)):=Q (by rw[LP];exact h);have⟨aC,ha⟩:=K (fd (A ⟨f,0,Z⟩) k e 2);have aD:H (0<i->aC=A ⟨f,e*2,Z⟩):=Q (λa4=>by rw[ha,qX J (Y (ah (λv=>by rw[v]at j;simp at j;omega)))];simp);rw[<-ha];change H _ at j l;clear ha h ad ah;go_in;go_wp2;go_loopw [2,3] (λw aE wr=>∃a:N,w=aa ac a/\aE=aa ac ((i:I)-1-a)/\2*a<=i/\aW 89 wr n (S (A ⟨f,0,Z⟩) m k) (g++fX b a)/\o.grownBy wr (A f)) (λw _ _=>i-(aw w).toNat);case atStart=>exact⟨0,J,aK,O,aA.oo,World.grownBy.refl _ _⟩
 obtain⟨a,rfl,rfl,a5,q,ai⟩:=hrel;obtain⟨s,rfl⟩:=K wr;have aG:=Q ai;by_cases a6:2*a+1<i
 ·have ha:=aD O;subst ha;obtain⟨c,x⟩:∃c:N,c=i-1-a:=⟨_,J⟩
  have aI:(i:I)-1-(a:I)=c:=O
  rw[aI];have IN:(g++fX b a).length=e+i:=by rw[bL,ob,<-l,<-j]
  have⟨aL,g1,aN,aO⟩:=q.at_ (e+c) oY;have⟨aP,aQ,aR,aS⟩:=q.at_ (e+a) oY;have aU:al (g++fX b a) (e+a)=al b a:=by rw[l,xD,xB O (by rw[<-j];omega)]
  have aV:al (g++fX b a) (e+c)=al b c:=by rw[l,xD,xB O (by rw[<-j];omega)]
  have y:(e+a)*2=e*2+a*2:=O
  have t:(e+c)*2=e*2+c*2:=O
  rw[aU,y]at aP aQ;rw[aV,t]at aL g1;rw[y]at aR aS;rw[t]at aN aO;have D:=q.si (e+a) (e*2+a*2) (al b c).1 (al b c).2 oY y;have aX:((g++fX b a).set (e+a) ((al b c).1,(al b c).2)).set (e+c) ((al b a).1,(al b a).2)=g++fX b (a+1):=by rw[l,xC,xC,LR b a (by rw[<-j];omega),<-j,x]
  have ak:((g++fX b a).set (e+a) ((al b c).1,(al b c).2)).length=e+i:=by rw[b'];exact IN
  have am:=c2 (bn s ⟨f,e*2+a*2,Z⟩ (aa ac (al b c).1)) (bn _ ⟨f,e*2+a*2+1,Z⟩ (aa ac (al b c).2));have⟨aY,G⟩:=K ((aj s ⟨f,e*2+a*2,Z⟩ (aa ac (al b c).1)).setCell ⟨f,e*2+a*2+1,Z⟩ (aa ac (al b c).2));rw[<-G]at D am;have⟨M,P,R,X⟩:=D.at_ (e+c) (by rw[ak];omega);rw[t]at M P R X;have ar:=D.si (e+c) (e*2+c*2) (al b a).1 (al b a).2 (by rw[ak];omega) t;rw[aX]at ar;have u:=Q (U (ar.bw (an _)) (c2 (c2 ai (c2 am (c2 (bn aY ⟨f,e*2+c*2,Z⟩ (aa ac (al b a).1)) (bn _ ⟨f,e*2+c*2+1,Z⟩ (aa ac (al b a).2))))) (dS (an _))));have a0:=Q (U M (U P (U R X)));have a8:=aJ a;have a9:(a:I)<i:=O
  have ba:=aJ c;have bb:(c:I)<i:=O
  have bc:(a:I)<c:=O
  generalize(al b c).1=be at*;generalize(al b c).2=bg at*;generalize(al b a).1=bh at*;generalize(al b a).2=bi at*;change H _ at G x;go_wp2_with fail;refine fw ((.p 0 (.p 1 (.p 2 (.p 3 (.p 4 (.p 5 (.p 6 (.p 8 (.p 9 (.p 10 (.r 7 (.r 11 (.p 12 (.z 13 (.p 14 (.z 15 .d))))))))))))))))) (dp s) aT aT (λ_ _ Jy _ _ h=>fT) (.mk (an _)) ?_;iterate 14 refine mS ?_
  rw[<-G.out];refine mS ?_;have⟨M,P,R,X⟩:=a0.out;refine mS ?_;refine gc ?_;go_wp2;go_roundw;case rel=>exact⟨a+1,aK,cz (aa ac) (Y x.oo),O,u.1,u.2⟩
  simp[aw];omega
 have u:H (aW 89 s n (S (A f) m k) (g++b.reverse)):=Q (by rw[<-LQ b a (by rw[<-j];omega)];exact q);have bk:decide ((a:I)<i-1-(a:I))=F:=aF
 go_wp2;go_end0;exact⟨J,u,aG⟩
def xE{j:Oper}{k:Act}{q:Act->World->Prop}{K:Exit->Act->World->Prop}(m n:Operand)(f b:TypeId)(p:Value)(r:prog.underlying f=some (.slice b))(M:(prog.info? b).map (λc=>(c.zero,c.size,c.bytes))=some (some p,2,16))(P:p.cells.size=2)(s:j.op= .call {callee:=.builtin .append,args:=#[m,n],argTypes:=#[f,f]})(Kw:World)(IX:Nat)(d:Value)(a e:List (Int×Int))(u:Value)(v:k.eval m=d)(w:k.eval n=u)(x:ba Kw u e)(o:aW b Kw IX d a)(al:a.length+e.length<=8000000000000)(D3:IX<=(Kw:Nat))(h:∀g y i Kx,aW b Kx IX (.slice g y i) (a++e)->Kw.grownBy Kx d.ownBlock->Below IX Kw Kx->q (k.put j.dst (.slice g y i)) Kx):j.wp prog k Kw q K:=by
 obtain⟨c,z,Q,R,U⟩:=info_parts M;obtain⟨X,D,i,rfl,Co,_,Y⟩:=x.open;rcases Nat.eq_zero_or_pos D with l|l;subst l;have ad:e=[]:=List.length_eq_zero_iff.1 Co;subst ad;rw[List.append_nil]at h;have ae:=s2 (Jd:=prog) (Kw:=Kw) IX f j.type b c 2 r z d a.length (be a) o X i;obtain⟨g,G,H,rfl⟩:∃g G H,d= .slice g G H:=vq
 unfold Oper.wp;simp[execOp,s,resolve,invoke,builtin,v,w,ae,Result.andThen];exact h _ _ _ _ o (World.grownBy.refl Kw _) (Below.refl _ _);obtain⟨ag,ah,rfl,_,_⟩:=Y 0 l;refine wp_append_lies Kw m n f s IX b c p 2 16 r z Q R U P av d a.length (be a) v o ⟨ag,ah,none⟩ D i (be e) w (by rw[g7,Co];omega) (nW x) (o' e) l eQ O D3 _ rfl ?_;exact v6
def qY(a:W)(f:ag)(g:bp)(b:W):Prop:=∃c d e,g=aq (S c d e)/\aW 89 b a (S c d e) f/\B a a b
def oc(a:W)(c:E Pc):∃b,a.alloc (az (bE c) 333)=b/\B a a b/\b.heap.size=(a:N)+1/\b.heap[(a:N)]? =A (az (bE c) 333 (0,0)):=gQ a _
def LU(aU:V)(b:ar)(c:E Pc)(l:W)(h:bb l aU b)(U:cx b)(bq:jW b c):ap ab 267 #[ao #[aU],ao (bE c)] l (qY l (gh b c)):=by
 have⟨bY,br,bs,bt,bZ⟩:=c8 l aU;have⟨k,bu,aV,b0,aX⟩:=oc bY c;have aC:=q bs aV;have bv:=s aV bZ;rw[bt]at aX;obtain⟨cL,aY,b2,rfl,bx,cM,bB⟩:=(h.bw aC).open;have bC:(l:N)<=k:=aC.size;have b3:=Q (λa t i=>tq c a t i);have b5:=Q aC;change H _ at br bu bx bB U bq aX;clear aC;clear h bs aV bt b0;go_in;go_upto_region 1 with fail;rw[br,bu];generalize (l:N)+1=b6 at*;go_wp2_with (refine m7 J (.tmp 3) 333 J k b6 (bE c) _ J J aX underlying333 bK ?_);change H _ at bv;go_loopw [5,10] (λb7 j wr=>∃(a:N) (X:bz) (e ad:N),j=(a:I)/\b7=S X e ad/\a<=5/\aW 89 wr k (S X e ad) (fz b c a)/\B k k wr) (λ_ j _=>5-(aw j).toNat);exact⟨0,_,_,_,J,J,a3 _,aW.nil _ _ _,aS _ _⟩;obtain⟨a,X,e,ad,rfl,rfl,t,o,ae⟩:=hrel;obtain⟨ag,rfl⟩:=K wr;have bD:H (e=(fz b c a).length):=Q vE;have a0:=Q o;clear o;have b8:(k:N)<=ag:=ae.size;by_cases b9:a<5
 ·have aD:=b3 a b9;have m:H (fz b c (a+1)=fz b c a++ix b (cQ c a)):=Q J;have aE:=Q (bq.oo a);have bF:H ((fz b c a).length<=1000000*a):=Q (LB U c a);have bG:H ((ix b (cQ c a)).length<=1000000):=Q (a1 (xu b _) (U _));have⟨⟨aG,G,w,ai⟩,hp⟩:=K (cQ c a);rw[<-hp]at aD m aE bG;simp only[qW]at aD;have⟨x,a2,a4,b',ca,cc,cd,a5⟩:=jV ag aG G w ai;have bH:=ae.trans (a4.mono b8);have bI:=Q (a0.oo.bw a4);have cN:(a:I)<5:=by omega
  have y:=Q bH;change H _ at a2;clear bH;clear hp b' a4 ae;by_cases al:G<w
  ·have ce:=aE al;have bJ:ix b (aG,G,w,ai)=if ai then(((ah b aG.toNat).take w.toNat).drop G.toNat).reverse else((ah b aG.toNat).take w.toNat).drop G.toNat:=by unfold ix;rw[am al]
   rw[bJ]at m;clear bJ aE bG;obtain⟨a6,bM,a8,a9⟩:=ce;simp only[bA]at a6 bM a8 a9;obtain⟨j,rfl⟩:=dw a6;obtain⟨n,rfl⟩:=dw a8;obtain⟨u,rfl⟩:=dw (bh (0<=w));simp only[cW]at a9 m;have cf:j<aY:=Y bx.oo
   obtain⟨cg,ch,ba,aI,av,rfl,ci,hp⟩:=bB j cf;have bN:=s y ci;have aL:=hp.bw y;have⟨_,_,_,ax,cj,cO,_⟩:=aL.open;simp only[bf]at ax;obtain⟨rfl,rfl,rfl⟩:=ax;have ck:u<=aI:=O
   have bO:n<=u:=O
   have bc:=aL.cut n u bO ck;have cP:aI<=av:=by obtain⟨_,cR,f,g1,_,_⟩:=aL;simp only[bf]at f;omega
   have⟨be,aN,_⟩:=ew fv;have bg:be.size=2:=by have⟨cS,bP,_,cl,_⟩:=ew fv;rw[aN]at bP;cases bP;exact cl
   have bR:∀i,(Instr.sliceAt 96 (S ba aI av) (A (aa ac (n:I))) (A (aa ac (u:I))) Z).run ab i= .ok (S (fd ba av n 2) (u-n) (av-n)) i:=λi=>by have:=xy (Jd:=ab) (Kw:=i) 96 89 be underlying96 aN ba aI av n u bO O;rw[bg]at this;exact this
   have⟨g,ay⟩:=K (((ah b j).take u).drop n);rw[<-ay]at bc m;have cn:H (∀a,(S X e ad).ownBlock=A a->a<(ag:N)):=Q (λa t=>(a0.lt a t).2);have co:H (0<L g):=Q (by rw[ay,ga,dd];omega);have cp:H (L g<=1000000):=Q (by have:=U j;rw[ay,ga,dd];omega);have cq:H ((fz b c a).length+L g<=8000000000000):=Q (by have:=bF.oo;have:=U j;rw[ay,ga,dd];omega);have cr:=Q (bc.bw (an x));have cs:=Q (bI.oo.bw (an x));have ct:(k:N)<=x.drew:=y.size;have cu:H (C x l=A (S (A ⟨cg,ch,Z⟩) aY b2)):=Q (s y bv);have cT:=aJ j;have cU:(j:I)<aY:=O
   have cV:(n:I)<u:=O
   change H _ at bg ay aN bc aL bR bN cj;clear a6 bM a8 a9 al;go_upto_region 6 with fail;rw[a2];generalize ag=bi at*;go_wp2_with fail;have cv:=cu.oo;have cw:=bN.oo;have hcut:=bR.oo;have cy:=Q a5;clear a5 aD;refine fw ((.p 0 (.p 1 (.p 3 (.p 8 (.p 10 (.r 2 (.r 4 (.p 5 (.p 6 (.r 7 (.r 9 (.r 11 (.p 12 (.z 13 (.p 14 .d)))))))))))))))) (dp x) aT aT (λ_ _ Jy _ _ h=>fT) (.mk (an _)) ?_;iterate 13 refine mS ?_
   refine b4 λcX cz=>?_;refine xE (.tmp 20) (.tmp 32) 96 89 _ underlying96 fv J J x.drew k (S X e ad) (fz b c a) g _ J J cr cs cq ct ?_;intro cA D M bk P bl bm;refine cz _ _ ?_;clear cv cw ca cc cd;refine mS ?_;refine gc ?_;have⟨bS,R⟩:=K ((fz b c a++g).length);obtain⟨v,aO,ax,cY,cZ,c0,_⟩:∃v aO,(S cA D M)=S (A ⟨v,0,Z⟩) bS aO/\bS<=aO/\aO<=9223372036854775807/\(k:N)<=v/\v<(bk:N):=by rw[R];rcases bW P with⟨_,cB⟩|h;have:=co.oo;rw[bL]at cB;omega;exact h
   simp only[bf]at ax;obtain⟨rfl,rfl,rfl⟩:=ax;have a5:C bk ⟨bi,3,Z⟩=A (au ai):=bl.cell (cy) (λf=>Y (cn bi f.symm));have aP:=y.trans (((an x).mono y.size).trans bm);have aQ:e+L g=D:=by rw[R,bL,bD]
   have aA:D-e=L g:=O
   have bT:H ((fz b c a++g).length<=1000000000000):=Q (by have:=bF.oo;have:=cp.oo;rw[bL];omega);have c1:D<=1000000000000:=Y bT.oo
   cases ai with
    |false=>
     simp only[gL,if_false]at m;rw[<-m]at P;have cC:=Q P;have aR:=Q aP;have cD:=Q R;have cE:=Q aQ;have cF:=Q aA;clear P aP R aQ aA;clear bl bm;go_wp2;go_roundw;case rel=>exact⟨a+1,_,_,_,aK,J,O,cC,aR⟩
     simp[aw];omega
    |true=>
     simp only[if_true]at m;have cG:∀i,(Instr.sliceAt 96 (S (A ⟨v,0,Z⟩) D M) (A (aa ac (e:I))) Z Z).run ab i= .ok (S (fd (A ⟨v,0,Z⟩) M e 2) (L g) (M-e)) i:=λi=>by have:=xz (Jd:=ab) (Kw:=i) 96 89 be underlying96 aN (A ⟨v,0,Z⟩) D M e O;rw[bg,aA]at this;exact this
     have bn:=Q (LS v D M k (fz b c a) g bk P bT);rw[<-bD]at bn;have cH:L g<=1000000000000:=O
     have⟨c2,bU⟩:=K (L g);rw[<-bU]at bn cG cH;have aR:=Q aP;have cD:=Q R;have cE:=Q aQ;have cF:=Q aA;change H _ at bU;clear aP R aQ aA;clear bl bm P;go_wp2_with fail;refine mU bn λc3 ⟨bo,bV⟩=>?_;rw[<-m]at bo;have bX:=aR.grown bV aR.size (λa t=>dX);change H _ at bo bX;clear bV;go_wp2;go_roundw;case rel=>exact⟨a+1,_,_,_,aK,J,O,bo,bX⟩
     simp[aw];omega
  have cI:H (fz b c (a+1)=fz b c a):=Q (by rw[m];unfold ix;rw[ak al,e']);have c4:decide (w<=G)=T:=aF
  clear al aE;go_upto_region 5 with fail;rw[a2];generalize ag=bi at*;clear aD;go_wp2;go_roundw;case rel=>exact⟨a+1,_,_,_,aK,J,O,by rw[cI];exact bI,y⟩
  simp[aw];omega
 have cJ:a=5:=O
 subst cJ;have cK:=b5.trans (ae.mono bC);clear ae;go_wp2;go_ret;exact⟨_,_,_,J,a0.mono bC,cK⟩
def LV(a:W):aW 89 (a.alloc (az #[] 89)) a (S (A (a:N)) 0 0) []:=⟨lC,.inr ⟨(a:N),0,#[],J,aL _,heap_alloc_last a _,D,D,D,lC⟩⟩
def LW(b:bQ)(c d:N)(a:W):(binOp .eql 96 (S (A b) c d) (S Z 0 0)).run ab a= .ok (au F) a:=aT
def LX(b:N)(a:W):(binOp .eql 96 (S Z 0 b) (S Z 0 0)).run ab a= .ok (au T) a:=aT
def qZ(l:V)(c:ag)(a:W)(b:ba a l c)(x:L c<=1000000):ap ab 233 #[l] a (qY a c):=by
 obtain⟨n,e,f,rfl,o,_,p⟩:=b.open;have y:=Q b;cases n with
  |none=>
   have q:e=0:=by rcases Nat.eq_zero_or_pos e with b|b;exact b;have⟨_,_,g,_⟩:=p 0 b;cases g
   subst q;have g:c=[]:=dn.1 o;subst g;have r:=LX f;go_in;go_wp2;go_ret;exact⟨_,_,_,J,aW.nil _ _ _,aS _ _⟩
  |some m=>
   obtain⟨d,h,i,j⟩:∃d,a.alloc (az #[] 89)=d/\B a a d/\aW 89 d a (S (A (a:N)) 0 0) []:=⟨_,J,aN _ _,LV a⟩
   have s:=Q (b.bw i);have t:=i.size;have u:=Q i;replace j:=Q j;replace h:=Q h;have r:=LW m e f;go_in;go_wp2_with (at_builtin;rw[h];refine qG J _ _ 96 89 _ underlying96 fv J J d a (S (A (a:N)) 0 0) [] c (S (A m) e f) J J s j aF t ?_);intro z D G K k M v;try rw[List.nil_append]at k
   have w:=u.trans v;change H _ at k;go_wp2;go_ret;exact⟨_,_,_,J,k,w⟩
def xF(ar:V)(d:ag)(b:W)(ax:ba b ar d)(a9:L d<=1000000):ap ab 252 #[ar] b (qJ b (dT d)):=by
 have⟨bb,ay,aA,aC,bc,be⟩:=cP b (S Z 0 0);have⟨l,aD,o,bf,u,v⟩:=cP bb (S Z 0 0);rw[aC]at u v;have w:=q aA o;have aE:=s o bc;have aF:=aY o O be;obtain⟨bP,j,bR,rfl,Da,_,aG⟩:=ax.open;have bg:H (bS 98 ba (·<(b:N)+1) l ((b:N)+1) (S Z 0 0) [] (dT (d.take 0)) l):=Q (bS.start u v (aS _ _));have bh:=Q w;have bi:=Q w;have bl:j<=1000000:=O
 have bU:(b:N)<(b:N)+1:=fD _;have bV:(b:N)+1<=(l:N):=O
 change H _ at ay aD Da aG;clear ax a9 aA o w u v;go_in;go_upto_region 1 with(fail)
 rw[ay];go_upto_region 2 with(fail)
 rw[aD];clear aC bf;change H _ at aE aF;generalize i:(b:N)+1=e at*;change H _ at i;go_wp2;go_loopw [5,8] (λbm x wr=>∃(a:N) (aN y:V) (z:aP),aN=bm/\x=(a:I)/\a<=j/\bS 98 ba (·<e) l e y z (dT (d.take a)) wr) (λ_ x _=>j-(aw x).toNat);exact⟨0,_,_,_,J,J,a3 _,bg⟩;obtain⟨a,aN,y,z,rfl,rfl,bn,c⟩:=hrel;obtain⟨m,rfl⟩:=K wr;obtain⟨f,g,h,rfl,bo,bq⟩:=c.form;have bW:=Q c;have br:H ((dT (d.take a)).length=a):=Q (by rw[dT,de,dd,Da];omega);change H _ at bo bq;have aO:=c.cell;have bs:=c.free;by_cases Ch:a<j
 ·obtain⟨aQ,bt,rfl,G,f1⟩:=aG a Ch;have M:B b b m:=bh.trans (c.bw.mono (Y i.oo));have G:=s M G;have f1:=s M f1;have aR:=K9 d a c1;have bX:=aJ a;have bZ:(a:I)<j:=by omega
  generalize al d a=bu at*;obtain⟨p,r⟩:=bu;have⟨k,aT,P,bv,bx,bz⟩:=eU m p r;have⟨bA,R,aU,aV,u0,u1⟩:=eU k p r;have⟨t,X,ad,bB,ae⟩:=d0 bA (S (A (k:N)) 1 1);have n:=c.next (q P (q aU ad));rw[aV]at ae;have aW:ba t (S (A (k:N)) 1 1) [(p,r)]:=(w3 u0 u1).bw ad;have aX:aI ba (λa=>a<e\/a=e\/(S f g h).ownBlock=A a) t (S (A (k:N)) 1 1) [(p,r)]:=nX aW (λaQ bt ha _ bC=>by simp only[a2,bN,bT]at ha;have ah:=c.lt;have b2:=c.bw.size;rcases bC with ai|ai|ai;omega;omega;have b3:=(bI c.own aQ ai).2;omega);have a0:=Q n;have bD:=Q (d2 ae);have bE:=Q n.cell;have bF:=Q n.free;have bG:H (e+1<=(t:N)):=Q n.lt;have bH:=s P aO;replace X:=Q X;replace R:=Q R;change H _ at aX aR aT;clear c M n aW P aU ad aV bB u0 u1 ae bv aO bs;go_upto_region 5 with fail;rw[aT];generalize m=b4 at*;clear G f1;go_wp2_with (at_builtin;rw[R,X];refine fr J _ _ 93 98 (ao #[S Z 0 0]) 1 24 underlying93 lI J av av J t (e+1) (S f g h) (dT (d.take a)).length z [S (A (k:N)) 1 1] ((k:N)+1) J J bD J eP a0.own (by rw[br];omega) bG.out ?_);intro b5 b6 a1 ah a4 ak a5 bJ bK;have am:=a0.push aX ah a4 a5;rw[<-aR]at am;have b7:C a1 e=A (S f g h):=bk ak (fD _) bE;have b8:aH a1 e=F:=ex ak (fD _) bF;change H _ at am;clear ah a4 ak a5 bJ bK bH bx bz;go_wp2;go_roundw;case rel=>exact⟨a+1,_,_,_,J,aK,kL Ch,am⟩
  exact bY
 have bL:a=j:=O
 subst bL;have a6:d.take a=d:=cm ly;rw[a6]at c;have an:B e l m:=c.bw;have bM:=bk an (Y i.oo) aE;have b9:=ex an (Y i.oo) aF;have a8:=Q (U ((c.qc (by rw[dT,de,Da.oo];exact bl)).set ⟨b,0,Z⟩ (S f g h) (G':=λa=>a<(b:N)) (by have:=i.oo;simp;omega) (λa bn=>Y i.oo)) ((bi.trans (c.bw.mono (Y i.oo))).setCell (p:=⟨b,0,Z⟩) (aL _) (S f g h)));clear c a6 an;go_wp2_with fail;have bO:(aj m b (S f g h)).cell? b=A (S f g h):=((d2 bM).set 0 _ D) 0 _ D;exact b0 (v:=ao #[S f g h]) (by simp[results,results252,go_sem,bO]) J ⟨_,_,_,J,a8.out.1,a8.out.2⟩
def tr(a:Array V)(b:N):(Builtin.zeroCells a b).size=b*a.size:=by simp[Builtin.zeroCells]
def LY(a:W)(b:N)(m:b<=4000000)(g:0<b):∃c d,(∀e,(Builtin.append_ #[96,3] e #[S Z 0 0,b]).run ab a= .ok (S (A (a:N)) b c) d)/\¬c=0/\b<=c/\c<=9223372036854775807/\aW 89 d a (S (A (a:N)) 0 c) []/\B a a d:=by have⟨h,i,j,n,IC⟩:=ew fv;have k:=grownCap_ge a b 0 89;have f:=grownCap_le_maxLen a b 0 89 eQ;have l:(ao #[(0:I),(0:I)]).cells.size=2:=J;refine⟨grownCap a b 0 89,_,λe=>Lib.run_append_nil_zeros a _ _ e _ h _ ac ac underlying96 underlying3 i j b g O O jJ,O,k,by simpa only[maxLen]using f,?_,?_⟩;refine⟨lC,.inr ⟨(a:N),_,_,J,aL _,heap_alloc_last a.drew _,a3 _,f,?_,lC⟩⟩;rw[Array.size_append,tr,tr,l];omega;exact q (an a) (aN a.drew _)
def LZ(a:N)(b:W)(f:a<=4000000):ap ab 308 #[S Z 0 0,a] b (qY b []):=by
 by_cases g:a=0;·subst g;go_in;go_wp2;go_ret;exact⟨_,_,_,J,aW.nil _ _ _,aS _ _⟩
 have h:¬(a:I)<0:=O
 have i:(0:I)<a:=O
 have⟨j,k,c,l,m,n,d,e⟩:=LY b a f O;replace c:=Q c;change H _ at d e;go_in;go_wp2_with (at_builtin;refine Lib.wpList_append_run _ J _ _ _ _ J _ _ J J _ _ (c _) ?_);go_wp2;go_ret;exact⟨_,_,_,J,d,e⟩
def L0(w:N)(ad ae:V)(f o:ag)(g:W)(x:ba g ad f)(y:ba g ae o)(ah:C g w=A ad)(ai:C g ⟨w,1,Z⟩=A ae)(aN:L f<=1000000)(aO:L o<=1000000):ap ab 288 #[S (A w) 2 2] g (qY g (f++o)):=by
 obtain⟨am,h,an,rfl,aP,_,_⟩:=x.open;obtain⟨ar,p,av,rfl,aQ,_,_⟩:=y.open;have aR:h<=1000000:=O
 have aS:p<=1000000:=O
 have ax:=Q x;have ay:=Q y;clear x y;go_in;go_wp2;go_loopw [3,11] (λz i wr=>∃a:N,i=(a:I)/\a<=2/\wr=g/\((a=0/\z=(0:I))\/(a=1/\z=h)\/(a=2/\z=((h+p:N):I)))) (λ_ i _=>2-(aw i).toNat);exact⟨0,J,O,J,.inl ⟨J,J⟩⟩;obtain⟨a,rfl,D,rfl,G⟩:=hrel;rcases G with⟨rfl,rfl⟩|⟨rfl,rfl⟩|⟨rfl,rfl⟩
 ·have aA:¬(h:I)<0:=by omega
  go_wp2;go_roundw;case rel=>exact⟨1,aK,O,trivial,.inr (.inl ⟨J,aK⟩)⟩
  simp[aw]
 ·have aA:¬(h:I)+(p:I)<0:=by omega
  go_wp2;go_roundw;case rel=>exact⟨2,aK,O,trivial,.inr (.inr ⟨J,aK⟩)⟩
  simp[aw]
 obtain⟨M,rfl⟩:=K wr;have aC:=Q (LZ (h+p) M O);clear D;go_wp2_with fail;refine mF aC λaT aU aV aX ⟨P,R⟩=>?_;obtain⟨d,c⟩:∃d,(M:N)=d:=⟨_,J⟩
 rw[c]at P R;change H _ at P R;have aD:=Q ah;have aE:=Q ai;change H _ at c;clear ah ai;go_wp2;go_loopw [6,27] (λaF i v=>∃(a:N) (j:bz) (k l:N),i=(a:I)/\a<=2/\aF=S j k l/\B d M v/\((a=0/\aW 89 v d (S j k l) [])\/(a=1/\aW 89 v d (S j k l) f)\/(a=2/\aW 89 v d (S j k l) (f++o)))) (λ_ i _=>2-(aw i).toNat);exact⟨0,_,_,_,J,O,J,R,.inl ⟨J,P⟩⟩;obtain⟨a,j,k,l,rfl,D,rfl,b,G⟩:=hrel;obtain⟨ak,rfl⟩:=K wr;rcases G with⟨rfl,e⟩|⟨rfl,e⟩|⟨rfl,e⟩
 ·have q:=ax.bw (c.oo▸b);have U:=s (c.oo▸b) aD;have r:=b.size;rw[c]at r;have m:=Q b;clear b;go_wp2_with (at_builtin;refine qG J _ _ 96 89 _ underlying96 fv J J ak d (S j k l) ([]) (f) (S am h an) J J q e (by first|omega|(simp;omega)) r ?_);intro aG aI aJ aL n Y t;have u:=m.trans t;replace n:=Q n;change H _ at u;clear Y t q U e;go_wp2;go_roundw;case rel=>exact⟨1,_,_,_,aK,O,J,u,.inr (.inl ⟨J,X n.oo⟩)⟩
  simp[aw]
 ·have q:=ay.bw (c.oo▸b);have U:=s (c.oo▸b) aE;have r:=b.size;rw[c]at r;have m:=Q b;clear b;go_wp2_with (at_builtin;refine qG J _ _ 96 89 _ underlying96 fv J J ak d (S j k l) (f) (o) (S ar p av) J J q e (by first|omega|(simp;omega)) r ?_);intro aG aI aJ aL n Y t;have u:=m.trans t;change H _ at n u;clear Y t q U e;go_wp2;go_roundw;case rel=>exact⟨2,_,_,_,aK,O,J,u,.inr (.inr ⟨J,n⟩)⟩
  simp[aw]
 clear D;have al:=Q e;have m:=Q b;clear e b;go_wp2;go_ret;rw[<-c]at al m;exact⟨_,_,_,J,al,m⟩
section
def jX(a:bd):Bool:=match a.op with| .defer _=>F|_=>T
def L1{b:bd}(a:jX b=T):∀c,b.op≠.defer c:=λc d=>by unfold jX at a;rw[d]at a;cases a
def L2{Xw:cb}{Xx d:N}{a:String}{args:Array V}{b:W}{c:V->W->Prop}(e:Rows Xw a args b c):RowsIn (Fence.wide.inRound Xx) d Xw a args b c:=λf g _=>let⟨h,i,j,k⟩:=e f g;⟨h,i,j,stepsIn_wide.2 k⟩
def L3{Xw:cb}{Xx:N}{b:bd}{c:a'}{d:W}{f:a'->W->Prop}{Xz:bJ}(g:jX b=T)(a:b.wp Xw c d f Xz):b.wpIn (Fence.wide.inRound Xx) 0 Xw c d f Xz:=by
 refine⟨λm _=>trivial,?_⟩;have h:b.semAt (Fence.wide.inRound Xx).round c.eval=execOp c.eval b:=WG Xx c.eval b (L1 g);rw[h];unfold Oper.wp at a;generalize(execOp c.eval b).run Xw d=i at*;cases i with
  |ok j k=>
   cases j<;>simp only[Oper.upon]at a<;>simp only[Oper.uponIn];all_goals first
    |exact a
    |exact a.elim
    |exact U (λe=>(by cases e)) (CallsIn.inRound Xx (callsIn_wide.2 a))
    |exact U (λe=>(by cases e)) (L2 a)
  |halt l k=>cases l<;>simp only[Oper.upon]at a<;>simp only[Oper.uponIn]<;>exact a
section
variable{Xw:cb}{Xx:N}{Xy:Array bd}{Xz:bJ}
def xG{c:bd}{a:a'}{b:W}{d e:a'->W->Prop}(f:jX c=T)(g:∀a b,d a b->e a b)(h:c.wp Xw a b d Xz):c.wpIn (Fence.wide.inRound Xx) 0 Xw a b e Xz:=L3 f (Oper.wp_mono g h)
def ts(f:¬LetsOut Xz):∀(b:E bd)(c:a')(d:W),b.all jX=T->wpList Xw Xy Xz b c d->wpListIn (Fence.wide.inRound Xx) 0 Xw Xy Xz b c d
 |[],_,_,_,a=>a
 |h::b,c,d,e,a=>by simp only[List.all_cons,cr]at e;unfold wpList at a;unfold wpListIn;by_cases g:Region.wanted h (yielded Xy c.tmps)=T;rw[am g]at a⊢;rcases a with a|a;exact xG e.1 (λc d a=>ts f b c d e.2 a) a;exact absurd a.2 f;rw[ak g]at a⊢;exact⟨λi _=>trivial,ts f b _ d e.2 a⟩
def jY{id:N}{a:E bd}{b:a'}{c:W}(d:¬LetsOut Xz)(e:a.all jX=T)(f:wpList Xw a.toArray Xz a b c):(Code.region id a.toArray F).wpIn (Fence.wide.inRound Xx) 0 Xw Xz b c:=wpIn_region_lit (ts d a b c e f)
def q0(g:¬LetsOut Xz){k:Region.Mode}(h:∀(e:N)(f:bd),Xy[e]? =A f->jX f=T):∀(fuel:N)(i:Array Bool)(b:a')(c:W),wpAny Xw k Xy Xz fuel i b c->wpAnyIn (Fence.wide.inRound Xx) 0 Xw k Xy Xz fuel i b c
 |0,_,_,_,d=>d
 |fuel+1,i,b,c,d=>by
  refine⟨d.1,λe m=>?_⟩;have a:=d.2 e m;unfold wpOp at a;unfold wpOpIn;cases j:Xy[e]? with
   |none=>rw[j]at a;exact q0 g h fuel _ b c a
   |some f=>rw[j]at a;simp only at a⊢;by_cases l:Region.wanted f (yielded Xy b.tmps)=T;rw[am l]at a⊢;rcases a with a|a;exact xG (h e f j) (λb c d=>q0 g h fuel _ b c d) a;exact absurd a.2 g;rw[ak l]at a⊢;exact⟨λn _=>trivial,q0 g h fuel _ _ c a⟩
def L4{id:N}{d:a'}{c:W}{a:E bd}(b:Mo)(e:W->Prop)(i:¬LetsOut Xz)(j:a.all jX=T)(k:Xw.follows .mixedOrders=T)(f:(Region.noSelect a.toArray&&decide (b.len=L a)&&hd .any a.toArray b.zs&&b.fq&&dg .any a.toArray b.zs b (Array.replicate (L a) F))=T)(l:∀g d m n c,Xz (.panic g) (d.put m n) c->Xz (.panic g) d c)(o:e c.drew)(p:cL Xw a.toArray Xz e b d c.drew):(Code.region id a.toArray T).wpIn (Fence.wide.inRound Xx) 0 Xw Xz d c:=by
 simp only[cr,ez]at f;obtain⟨⟨⟨⟨q,r⟩,s⟩,t⟩,u⟩:=f;have:=lK (W':=Xw) (Xb:=.any) q s l b (Array.replicate (L a) F) d c.drew ⟨D,λz G _ h=>by rw[getD_replicate_false]at h;cases h⟩ t u (λ_=>o) p;rw[r]at this;refine wpIn_region_any k (q0 i (λH v w=>?_) _ _ _ _ ?_);have:=(bM.1 w)
 obtain⟨K,x⟩:=this;exact d4.1 j v (by rw[<-x];simp);refine s9 (Xc:=e) (KE:=b.zs) _ _ _ _ ?_;simpa using this
def lV(Xz:bJ):bJ
 | .normal,a,b=>Xz .normal a b
 |_,_,_=>False
def bc{c:W->Prop}{a:a'}{b:W}(e:Xz .normal a b):cL Xw Xy (lV Xz) c .d a b:=e
def i'{id:N}{d:a'}{c:W}{a:E bd}(b:Mo)(e:W->Prop)(h:Xw.follows .mixedOrders=T) (i:(Region.noSelect a.toArray&&decide (b.len=L a)&&hd .any a.toArray b.zs&&b.fq&&dg .any a.toArray b.zs b (Array.replicate (L a) F))=T) (j:e c.drew) (f:cL Xw a.toArray (lV Xz) e b d c.drew):(Code.region id a.toArray T).wp Xw Xz d c:=wp_mono (fw b e h i (λ_ _ _ _ _ f=>f) j f) λk d c g=>by cases k<;>first|exact g|exact g.elim
def xH{id:N}{e:a'}{d:W}{a:E bd}(b:Mo)(f:W->Prop)(h:a.all jX=T)(i:Xw.follows .mixedOrders=T) (j:(Region.noSelect a.toArray&&decide (b.len=L a)&&hd .any a.toArray b.zs&&b.fq&&dg .any a.toArray b.zs b (Array.replicate (L a) F))=T) (k:f d.drew) (c:cL Xw a.toArray (lV Xz) f b e d.drew):(Code.region id a.toArray T).wpIn (Fence.wide.inRound Xx) 0 Xw Xz e d:=wpIn_mono (L4 b f (λ⟨_,_,c⟩=>c) h i j (λ_ _ _ _ _ c=>c) k c) λl e d g=>by cases l<;>first|exact g|exact g.elim
end
def mo:br->Mo
 |[]=>.d
 |b::Xx=>if b<100 then .p b (mo Xx)else if b<200 then .r (b-100) (mo Xx)else if b<300 then .a (b-200) (mo Xx)else .z (b-300) (mo Xx)
def bv{Xz:bJ}{id:N}{c:a'}{b:W}{a:E bd}(Xx:br) (d:cL ab a.toArray (lV Xz) (dp b) (mo Xx) c b.drew) (e:(Region.noSelect a.toArray&&decide ((mo Xx).len=L a)&&hd .any a.toArray (mo Xx).zs&&(mo Xx).fq&&dg .any a.toArray (mo Xx).zs (mo Xx) (Array.replicate (L a) F))=T:=by kernel_rfl):(Code.region id a.toArray T).wp ab Xz c b:=i' (mo Xx) (dp b) (by kernel_rfl) e (.mk (an _)) d
def od{Xz:bJ}{id:N}{c:a'}{b:W}{a:E bd}(d:aD)(Xx:br) (e:cL ab a.toArray (lV Xz) (dU d b) (mo Xx) c b.drew) (f:(Region.noSelect a.toArray&&decide ((mo Xx).len=L a)&&hd .any a.toArray (mo Xx).zs&&(mo Xx).fq&&dg .any a.toArray (mo Xx).zs (mo Xx) (Array.replicate (L a) F))=T:=by kernel_rfl):(Code.region id a.toArray T).wp ab Xz c b:=i' (mo Xx) (dU d b) (by kernel_rfl) f (.mk (M.refl _ _).drew) e
def vO{Xz:bJ}{d id:N}{c:a'}{b:W}{a:E bd}(Xx:br) (e:cL ab a.toArray (lV Xz) (dp b) (mo Xx) c b.drew) (f:a.all jX=T:=by rfl) (g:(Region.noSelect a.toArray&&decide ((mo Xx).len=L a)&&hd .any a.toArray (mo Xx).zs&&(mo Xx).fq&&dg .any a.toArray (mo Xx).zs (mo Xx) (Array.replicate (L a) F))=T:=by kernel_rfl):(Code.region id a.toArray T).wpIn (Fence.wide.inRound d) 0 ab Xz c b:=xH (mo Xx) (dp b) f (by kernel_rfl) g (.mk (an _)) e
end
structure q1(a:W)(c d:N)(e:ai)(b:ag)(f g h:V):Prop where
 c0:C a ⟨c,d,Z⟩=A f
 c1:C a ⟨c,d+1,Z⟩=A g
 c2:C a ⟨c,d+2,Z⟩=A h
 c3:C a ⟨c,d+3,Z⟩=A (aa ac (b2 e b))
 L5:aX a f (gl e b (L b))
 back:aX a g (gm e b (L b))
 load:aX a h (fB b (L b))
def q1.bw{Kx:W}{e:ai}{f:ag}(c:q1 w a b e f u v y)(d:B w w Kx):q1 Kx a b e f u v y:=⟨s d c.c0,s d c.c1,s d c.c2,s d c.c3,c.L5.bw d,c.back.bw d,c.load.bw d⟩
def q2(f:W)(g:V)(h:ai)(a:ar):Prop:=∃(c:bz) (i:N),g=S c (L a) i/\∀b,b<L a->∃d e j k l,c=A ⟨d,e,Z⟩/\q1 f d (e+b*4) h (ah a b) j k l
def q2.bw{Kx:W}{a:ai}{b:ar}(d:q2 w u a b)(f:B w w Kx):q2 Kx u a b:=by obtain⟨g,h,i,j⟩:=d;refine⟨g,h,i,λk l=>?_⟩;have⟨m,n,o,p,q,ha,r⟩:=j k l;exact⟨m,n,o,p,q,ha,r.bw f⟩
structure hX(a:W)(b:N)(i j k l:I)(c d e f:V)(g:ai)(h:ar):Prop where
 inst:ci a b i j k l c d
 c6:C a ⟨b,6,Z⟩=A e
 c7:C a ⟨b,7,Z⟩=A f
 pi:bt a d g
 jR:∃m n o,c=S m n o
 gS:bb a e h
 xI:q2 a f g h
def hX.bw{Kx:W}{d:V}{e:ai}{f:ar}(b:hX w a i j k l u v y d e f)(c:B w w Kx):hX Kx a i j k l u v y d e f:=⟨b.inst.bw c,s c b.c6,s c b.c7,b.pi.bw c,b.jR,b.gS.bw c,b.xI.bw c⟩
def tt{a:ad}(g:aX w u a):∃b c,u=S b (L a) c/\∀d,d<L a->∃e f,b=A ⟨e,f,Z⟩/\C w ⟨e,f+d,Z⟩=A (aa ac (ae a d)):=by obtain⟨b,c,j,_,_,k⟩:=g;exact⟨b,c,j,k⟩
structure q3(a:W)(e:ai)(b:ag)(f c d:N)(q r g h i j k l m n o p:N)(s u v w:V):Prop where
 t:C a ⟨q,r+f,Z⟩=A s
 sf:C a ⟨i,j+c*2,Z⟩=A (aa ac (al b c).1)
 su:C a ⟨i,j+d*2,Z⟩=A (aa ac (al b d).1)
 o0:C a ⟨g,h+f*4,Z⟩=A u
 o1:C a ⟨g,h+f*4+1,Z⟩=A v
 o2:C a ⟨g,h+f*4+2,Z⟩=A w
 ff:C a ⟨k,l+c,Z⟩=A (aa ac (gi e b (c+1)))
 fu:C a ⟨k,l+d,Z⟩=A (aa ac (gi e b (d+1)))
 bf:C a ⟨m,n+c,Z⟩=A (aa ac (gj e b (c+1)))
 bu:C a ⟨m,n+d,Z⟩=A (aa ac (gj e b (d+1)))
 lf:C a ⟨o,p+c,Z⟩=A (aa ac (fA b c))
 lu:C a ⟨o,p+(d+1),Z⟩=A (aa ac (fA b (d+1)))
def q3.bw{Kx:W}{i:ai}{j:ag}{k l m n o p q r x:N}{z:V}(f:q3 w i j a b c d e g k l m n o p q r x u v y z)(h:B w w Kx):q3 Kx i j a b c d e g k l m n o p q r x u v y z:=⟨s h f.t,s h f.sf,s h f.su,s h f.o0,s h f.o1,s h f.o2,s h f.ff,s h f.fu,s h f.bf,s h f.bu,s h f.lf,s h f.lu⟩
def hX.piece{aC:I}{Q R:V}{e:ai}{b:ar}(U:hX w a j k l aC v y Q R e b){i f u:N}(X:i<L b)(aV:f<=u)(aE:u<(ah b i).length):∃g h D m n G o p H q r K s t M x z P,Q=S (A ⟨g,h,Z⟩) (L b) D/\R=S (A ⟨m,n,Z⟩) (L b) G/\q3 w e (ah b i) i f u g h m n o p q r s t x z (S (A ⟨o,p,Z⟩) (ah b i).length H) (S (A ⟨q,r,Z⟩) (ah b i).length K) (S (A ⟨s,t,Z⟩) (ah b i).length M) (S (A ⟨x,z,Z⟩) ((ah b i).length+1) P):=by
 obtain⟨aW,D,rfl,_,aF⟩:=U.gS;obtain⟨g,h,aX,rfl,aG,hp⟩:=aF i X;obtain⟨aY,G,rfl,aI⟩:=U.xI;obtain⟨m,n,a0,a1,a3,rfl,d⟩:=aI i X;obtain⟨a4,H,rfl,_,_,Y⟩:=hp;obtain⟨o,p,rfl,aJ,_⟩:=Y f O;have⟨_,_,c,aK,_⟩:=Y u aE;simp only[a2,bN,bT]at c;obtain⟨rfl,rfl⟩:=c;obtain⟨a5,K,rfl,ad⟩:=tt d.L5;have aL:(gl e (ah b i) (ah b i).length).length=(ah b i).length:=by simp[gl]
 obtain⟨q,r,rfl,ae⟩:=ad f O;have⟨_,_,c,f1⟩:=ad u O;simp only[a2,bN,bT]at c;obtain⟨rfl,rfl⟩:=c;obtain⟨a6,M,rfl,ag⟩:=tt d.back;have x:(gm e (ah b i) (ah b i).length).length=(ah b i).length:=by simp[gm]
 obtain⟨s,t,rfl,ak⟩:=ag f O;have⟨_,_,c,al⟩:=ag u O;simp only[a2,bN,bT]at c;obtain⟨rfl,rfl⟩:=c;obtain⟨a8,P,rfl,am⟩:=tt d.load;have aN:(fB (ah b i) (ah b i).length).length=(ah b i).length+1:=by simp[fB]
 obtain⟨aO,z,rfl,an⟩:=am f O;have⟨_,_,c,av⟩:=am (u+1) O;simp only[a2,bN,bT]at c;obtain⟨rfl,rfl⟩:=c;rw[LI O]at ae f1;rw[LJ O]at ak al;rw[xw O]at an av;have ax:=d.c0;have ay:=d.c1;have aA:=d.c2;rw[aL]at ax;rw[x]at ay;rw[aN]at aA;exact⟨g,h,D,m,n,G,o,p,H,q,r,K,s,t,M,aO,z,P,J,J,aG,aJ,aK,ax,ay,aA,ae,f1,ak,al,an,av⟩
section
def kB{f:bd}{c:a'}{k:a'->W->Prop}{m:bJ}(g h:Operand)(n:f.op= .call {callee:=.builtin .append,args:=#[g,h],argTypes:=#[22,22]})(XD:W)(XA:N)(b:V)(a:ad)(i:I)(j:N)(o:c.eval g=b)(p:c.eval h=S (A j) 1 1)(q:C XD j=A (aa ac i))(r:ay XD XA b a)(P:L a+1<=1000000000000)(s:XA<=(XD:N))(t:∀XB d XE,ay XE XA (S (A ⟨XB,0,Z⟩) (L a+1) d) (a++[i])->XD.grownBy XE (af b)->(af b=A XB\/XB=(XD:N))->XB<XE.heap.size->k (c.put f.dst (S (A ⟨XB,0,Z⟩) (L a+1) d)) XE):f.wp ab c XD k m:=by
 have⟨XM,u,v,w,x⟩:=ew hR;refine wp_append_lies XD g h 22 n XA 3 XM (0:I) 1 8 underlying22 u v w x J (by decide) b (L a) (a.map (aa ac)) o r ⟨j,0,Z⟩ 1 1 [i] p J (λXN y e=>?_) (by intro y l;simp at l;subst l;rfl) (by decide) (by simp only[maxLen];omega) O s XD J ?_;match XN,e with
 |0,e=>simp at e;subst e;simpa[Addr.add]using q
 intro XB d XE z D G H;exact t XB d XE (by simpa[ay]using z) D G H
structure P2(g:N)(b:W)(u0 u1:V)(c:W)(e f:V)(h i:ad):Prop where
 o0:ay c g e h
 o1:ay c g f i
 d:∀a,af e=A a->af f≠A a
 aO:M (λa=>af u0=A a\/af u1=A a) b c
 b0:∀a,af e=A a->af u0=A a\/(b:N)<=a
 b1:∀a,af f=A a->af u1=A a\/(b:N)<=a
variable{XA XB:N}{XC XD XE:W}{u0 u1 XF XG XH:V}{XI XJ XK:ad}
def P2.next(a:P2 XA XC u0 u1 XD XF XG XI XJ)(b:B XD XD XE):P2 XA XC u0 u1 XE XF XG XI XJ:=⟨a.o0.bw b,a.o1.bw b,a.d,a.aO.then b,a.b0,a.b1⟩
def P2.sj{f g:N}(b:P2 XA XC u0 u1 XD XF XG XI XJ)(k:ay XE XA (S (A XB) f g) XK)(h:XD.grownBy XE (af XF))(i:af XF=A XB\/XB=XD):P2 XA XC u0 u1 XE (S (A XB) f g) XG XK XJ:=by
 refine⟨k,b.o1.kept h ?_,λc e j=>?_,b.aO.trans (M.grown (I':=λc=>af XF=A c) h λc a=>a) I2 (λc e a=>by rcases b.b0 c a with a|a;exact .inl a;omega),λc e=>?_,b.b1⟩;cases l:af XG with
 |none=>exact .inl J
 |some c=>exact .inr λa=>b.d c a.symm l
 simp only[af,a2]at e;subst e;rcases i with a|a;exact b.d _ a j;have:=(b.o1.lt _ j).2;omega;simp only[af,a2]at e;subst e;rcases i with a|a;exact b.b0 _ a;exact .inr (by rw[a];exact b.aO.size)
def P2.swap(a:P2 XA XC u0 u1 XD XF XG XI XJ):P2 XA XC u1 u0 XD XG XF XJ XI:=⟨a.o1,a.o0,λb c e=>a.d b e c,a.aO.mono λ_ _ f=>f.symm,a.b1,a.b0⟩
def P2.vj{a b:N}(c:P2 XA XC u0 u1 XD XF XG XI XJ)(d:ay XE XA (S (A XB) a b) XK)(e:XD.grownBy XE (af XG))(f:af XG=A XB\/XB=XD):P2 XA XC u0 u1 XE XF (S (A XB) a b) XI XK:=(c.swap.sj d e f).swap
def P2.start(c:ay XC XA XF XI)(d:ay XC XA XG XJ)(e:∀b,af XF=A b->af XG≠A b):P2 XA XC XF XG XC XF XG XI XJ:=⟨c,d,e,M.refl _ _,λ_ a=>.inl a,λ_ a=>.inl a⟩
def ay.bl{c d:W}{a:V}{e:ad}{f:aD}(i:ay c XA a e)(j:M f c d)(k:∀g,af a=A g->¬f g):ay d XA a e:=by obtain⟨l,b⟩:=i;refine⟨l,?_⟩;rcases b with b|⟨XB,m,n,rfl,o,h,XP⟩;exact .inl b;exact .inr ⟨XB,m,n,J,o,(j.block XB (bM.1 h).1 (k XB J)).trans h,XP⟩
structure eW(f gs:N)(h:ai)(g:ag)(i j:N)(b:W)(c d e:V):Prop where
 c0:C b gs=A c
 c1:C b ⟨gs,1,Z⟩=A d
 c2:C b ⟨gs,2,Z⟩=A e
 c3:C b ⟨gs,3,Z⟩=A (aa ac (b2 h g))
 f0:aH b gs=F
 f1:aH b ⟨gs,1,Z⟩=F
 f2:aH b ⟨gs,2,Z⟩=F
 o0:ay b f c (gl h g i)
 o1:ay b f d (gm h g i)
 o2:ay b f e (fB g j)
 xJ:∀a,af c=A a->af d≠A a
 q4:∀a,af c=A a->af e≠A a
 d12:∀a,af d=A a->af e≠A a
 ne:∀a,af c=A a\/af d=A a\/af e=A a->a≠gs
 gs:f<=gs
variable{XL XM XN:N}{XO:ai}{XP:ag}{XQ XR XS:V}
def eW.lt(a:eW XA XL XO XP XM XN XD XF XG XQ):XL<XD:=aR _ _ a.c0
def eW.size(a:eW XA XL XO XP XM XN XD XF XG XQ):XA<=(XD:N):=a1 a.gs (iv a.lt)
def eW.next(a:eW XA XL XO XP XM XN XD XF XG XQ)(b:B XD XD XE):eW XA XL XO XP XM XN XE XF XG XQ:=by have c:=a.lt;exact⟨s b a.c0,s b a.c1,s b a.c2,s b a.c3,aY b c a.f0,aY b c a.f1,aY b c a.f2,a.o0.bw b,a.o1.bw b,a.o2.bw b,a.xJ,a.q4,a.d12,a.ne,a.gs⟩
def jZ{c:V}{d:ad}{XD:W}{b:bQ}{e:V}(f:ay XD XA c d)(g:∀a,af c=A a->a≠b.block):ay (aj XD b e) XA c d:=f.bl (M.grown (I':=λa=>a=b.block) (bn XD b e) (λa h=>X h.symm)) g
def eW.two(b:eW XA XL XO XP XM XN XD XF XG XQ)(f:P2 XA XD XF XG XE XR XS (gl XO XP (XM+1)) (gm XO XP (XM+1))):eW XA XL XO XP (XM+1) XN ((aj XE XL XR).setCell ⟨XL,1,Z⟩ XS) XR XS XQ:=by
 have j:=b.lt;have g:¬(af XF=A XL\/af XG=A XL):=λc=>by rcases c with c|c;exact b.ne XL (.inl c) J;exact b.ne XL (.inr (.inl c)) J
 have k:∀a,af XR=A a->a≠XL:=λa e c=>by rcases f.b0 a e with h|h;exact b.ne a (.inl h) c;omega
 have l:∀a,af XS=A a->a≠XL:=λa e c=>by rcases f.b1 a e with h|h;exact b.ne a (.inr (.inl h)) c;omega
 have m:∀a,af XQ=A a->a≠XL:=λa e=>b.ne a (.inr (.inr e));have n:=f.aO.cell b.c0 g;have o:=f.aO.cell b.c1 g;refine⟨?_,?_,?_,?_,?_,?_,?_,jZ (jZ f.o0 k) k,jZ (jZ f.o1 l) l,jZ (jZ (b.o2.bl f.aO λa e c=>?_) m) m,f.d,λa e i=>?_,λa e i=>?_,λa e=>?_,b.gs⟩;rw[cq _ _ _ _ D];exact bP _ _ _ (by rw[n];rfl);exact bP _ _ _ (by rw[cq _ _ _ _ D,o];rfl);rw[cq _ _ _ _ D,cq _ _ _ _ D];exact f.aO.cell b.c2 g;rw[cq _ _ _ _ D,cq _ _ _ _ D];exact f.aO.cell b.c3 g;rw[bs,bs];exact f.aO.free b.f0 j g;rw[bs,bs];exact f.aO.free b.f1 j g;rw[bs,bs];exact f.aO.free b.f2 j g;rcases c with c|c;exact b.q4 a c e;exact b.d12 a c e;rcases f.b0 a e with c|c;exact b.q4 a c i;have:=(b.o2.lt a i).2;omega;rcases f.b1 a e with c|c;exact b.d12 a c i;have:=(b.o2.lt a i).2;omega;rcases e with e|e|e;exact k a e;exact l a e;exact m a e
def eW.one{h i:N}(c:eW XA XL XO XP XM XN XD XF XG XQ)(p:ay XE XA (S (A XB) h i) (fB XP (XN+1)))(q:XD.grownBy XE (af XQ))(j:af XQ=A XB\/XB=XD):eW XA XL XO XP XM (XN+1) (aj XE ⟨XL,2,Z⟩ (S (A XB) h i)) XF XG (S (A XB) h i):=by
 have k:=c.lt;have e:=M.grown q λa d=>d;have f:¬af XQ=A XL:=λd=>c.ne XL (.inr (.inr d)) J;have l:∀a,af XF=A a->a≠XL:=λa b=>c.ne a (.inl b);have m:∀a,af XG=A a->a≠XL:=λa b=>c.ne a (.inr (.inl b));have n:∀a,(S (A XB) h i).ownBlock=A a->a≠XL:=λa b d=>by simp only[af,a2]at b;rcases j with o|o;exact c.ne XB (.inr (.inr o)) O;omega
 have r:=e.cell c.c2 f;refine⟨?_,?_,?_,?_,?_,?_,?_,jZ (c.o0.bl e λa b d=>c.q4 a b d) l,jZ (c.o1.bl e λa b d=>c.d12 a b d) m,jZ p n,c.xJ,λa b g=>?_,λa b g=>?_,λa b=>?_,c.gs⟩;rw[cq _ _ _ _ D];exact e.cell c.c0 f;rw[cq _ _ _ _ D];exact e.cell c.c1 f;exact bP _ _ _ (by rw[r];rfl);rw[cq _ _ _ _ D];exact e.cell c.c3 f;rw[bs];exact e.free c.f0 k f;rw[bs];exact e.free c.f1 k f;rw[bs];exact e.free c.f2 k f;simp only[af,a2]at g;subst g;rcases j with d|d;exact c.q4 _ b d;have:=(c.o0.lt _ b).2;omega;simp only[af,a2]at g;subst g;rcases j with d|d;exact c.d12 _ b d;have:=(c.o1.lt _ b).2;omega;rcases b with b|b|b;exact l a b;exact m a b;exact n a b
end
def tu(aY:N)(a0 a1 a2 a4:I)(a5 a6 br bs:V)(e:ai)(b:ar)(i:E Pc)(t:W)(h:hX t aY a0 a1 a2 a4 a5 a6 br bs e b)(a8:jW b i):ap ab 280 #[aM (A aY),ao (bE i)] t (fW t (hV e b i)):=by
 have⟨y,a9,R,bt,ba⟩:=oc t i;have m:=h.bw R;have bu:=Q (λg bb u=>tq i g bb u);have bc:=Q (λu bv ax ay=>lH a0 a1 a2 a4 a5 a6 e bv ax u (m.pi.bw ay));obtain⟨cf,cg,ch,rfl⟩:=m.jR;obtain⟨ci,cj,ck,rfl,_,_,_⟩:=m.pi.open;have bx:(t:N)<=y:=R.size;have be:=Q m;have bf:=Q m.inst;have bg:=m.c7;have bi:=m.c6;have bz:H (hV e b i=aB ((lT e b i 5).2+bC e (lT e b i 5).1 0)):=Q J;have bB:=Q R;change H _ at a9 ba a8 bi bg;clear R;clear h m bt;go_in;go_upto_region 1 with fail;rw[a9];go_wp2_with (refine m7 J (.tmp 3) 333 J y t (bE i) _ J J ba underlying333 bK ?_);go_loopw [5,6,14] (λbD bF c wr=>∃(g:N) (k n:I),c=g/\bD=k/\bF=n/\g<=5/\(k,n)=lT e b i g/\B y y wr) (λ_ _ c _=>5-(aw c).toNat);exact⟨0,0,0,J,J,J,a3 _,J,aS _ _⟩;obtain⟨g,k,n,rfl,rfl,rfl,bb,U,o⟩:=hrel;obtain⟨z,rfl⟩:=K wr;have bG:(y:N)<=z:=o.size;by_cases bH:g<5
 ·have X:=bu g bH;have v:lT e b i (g+1)=pf e b (k,n) (cQ i g):=by rw[U];rfl
  have Y:=a8 g;have⟨⟨bI,aA,D,ad⟩,hp⟩:=K (cQ i g);rw[<-hp]at X v Y;simp only[qW]at X;have⟨w,aC,bk,bJ,bL,bM,bN,bO⟩:=jV z bI aA D ad;have bl:=o.trans (bk.mono bG);have cl:(g:I)<5:=O
  have l:=Q bl;change H _ at aC;clear bl;clear hp bJ bk o U;by_cases G:aA<D
  ·have⟨aD,bm,aE,aG⟩:=Y G;simp only[bA]at aD bm aE aG;obtain⟨c,rfl⟩:=dw aD;obtain⟨j,rfl⟩:=dw aE;have⟨f,bP⟩:=dw (bh (0<=D-1));obtain rfl:D=(f:I)+1:=by omega
   simp only[cW]at aG;have bn:pf e b (k,n) ((c:I),(j:I),(f:I)+1,ad)=if ad then(aB ((al (ah b c) j).1+1),aB (n+aB (aB (bC e k (aB ((al (ah b c) f).1+1))+gj e (ah b c) (f+1))-gj e (ah b c) (j+1))))else(aB ((al (ah b c) f).1+1),aB (n+aB (aB (bC e k (aB ((al (ah b c) j).1+1))+gi e (ah b c) (f+1))-gi e (ah b c) (j+1)))):=by
    unfold pf
    simp only[am G,cW,show((f:I)+1-1).toNat=f by omega]
   rw[bn]at v;obtain⟨cm,cn,co,cp,cq,cr,cs,ct,cu,cv,cw,cx,cy,cz,cA,cB,cC,cD,rfl,rfl,ae⟩:=be.piece (i:=c) (f:=j) (u:=f) O O O;have⟨bR,bo⟩:=K (L b);have⟨aI,bq⟩:=K ((ah b c).length);have ag:=bi.oo;have av:=bg.oo;rw[<-bo]at ag av;rw[<-bq]at ae;have ae:=ae.bw l;have ag:=s l ag;have av:=s l av;have⟨aL,aN,aO,aP,aQ,aR⟩:=bf.bw l;obtain⟨bS,aV,aW,bT,bU,_,bV,bW,bX,bY,_,_⟩:=ae;have cE:(c:I)<bR:=O
   have cF:=aJ c;have cG:(j:I)<aI:=O
   have cH:=aJ j;have cI:(f:I)<aI:=O
   have cJ:=aJ f;have cK:(j:I)<f+1:=O
   have cL:(aI:I)<=9223372036854775807:=by have bZ:=(be.gS);obtain⟨_,_,cM,_,b0⟩:=bZ;have⟨_,_,_,_,_,b2⟩:=b0 c O;have:=b2.open;obtain⟨_,_,_,_,cN,cO,_⟩:=this;omega
   have b3:IntKind.i64.wrap ((f:I)+1-1)=(f:I):=by rw[hf _ O];omega
   have b5:IntKind.i64.wrap (f:I)=f:=hf _ O;generalize(al (ah b c) j).1=cP at*;generalize(al (ah b c) f).1=Cu at*;generalize gi e (ah b c) (j+1)=cR at*;generalize gi e (ah b c) (f+1)=cS at*;generalize gj e (ah b c) (j+1)=cT at*;generalize gj e (ah b c) (f+1)=cU at*;have M:=Q v;have aX:=Q (λ(ax:I) (u:W) (ay:B (w:N) w u)=>bc.oo u k ax (l.oo.trans (ay.mono l.oo.size)));clear bn v Y aD bm aE aG G bP bo bq;go_upto_region 6 with fail;rw[aC];clear X;generalize z=b6 at*;go_quiet (fail);go_upto_region 7 with fail;go_quiet (fail);cases ad;simp only[gL,if_false]at M;go_upto_region 10 with fail;rotate_left;simp only[if_true]at M;go_upto_region 9 with fail;go_quiet (fail);rw[World.drewN_drewN];go_upto_region 10 with fail;all_goals
    have b7:=aV;have b8:=aW;clear bL bO bS bT bU ag av;refine fw (.p 0 (.p 1 (.p 2 (.p 3 (.p 5 (.p 6 (.p 7 (.p 8 (.p 9 (.p 13 (.p 14 (.p 20 (.p 21 (.r 4 (.r 10 (.p 11 (.r 15 (.p 16 (.p 17 (.r 18 (.r 22 (.p 23 (.r 24 (.a 12 (.p 19 (.p 25 (.p 26 (.p 27 .d)))))))))))))))))))))))))))) (dp w) aT aT (λ_ _ Jy _ _ h=>fT) (.mk (q (ip w _) (an _))) ?_;iterate 23 refine mS ?_
    refine aU λcV b9=>?_;go_simp;refine mU (aX _ _ (q (ip w _) (an _))) λb' x=>?_;have P:=q (q (ip w _) (an _)) x;refine b9 _ _ (.mk P) ?_;have ca:=Q (l.oo.trans (P.mono l.size));have aV:=s P aV;have aW:=s P aW;clear x P;iterate 4 refine mS ?_
    refine gc ?_;clear aL aN aO aP aQ aR bM bN b7 b8 bV bW bX bY b3 b5;go_wp2;go_roundw;case rel=>exact⟨g+1,_,_,aK,J,J,O,by simp only[dJ];exact M.symm,ca⟩
    simp[aw];omega
  have M:H (lT e b i (g+1)=(k,n)):=Q (by rw[v];unfold pf;rw[ak G]);have cX:decide (D<=aA)=T:=aF
  clear G Y v;go_upto_region 5 with fail;rw[aC];generalize z=b6 at*;clear X;go_wp2;go_roundw;case rel=>exact⟨g+1,_,_,aK,J,J,O,M.symm,l⟩
  simp[aw];omega
 have cc:g=5:=O
 subst cc;have cd:=Q U;have aX:=Q (bc.oo z k 0 o);have ce:=Q o;have⟨aL,aN,aO,aP,aQ,aR⟩:=bf.bw o;clear o U;go_wp2_with fail;refine mU aX λb' x=>?_;have x:=Q (bB.oo.trans ((q ce.out x).mono bx));clear aL aN aO aP aQ aR;go_wp2;go_ret;rw[bz,<-cd];exact⟨J,x.out⟩
def L6(U:N)(aF aG aI aL:I)(aN aO aP aQ:V)(aR:ai)(c:ar)(b:E Pc)(i:W)(Y:hX i U aF aG aI aL aN aO aP aQ aR c)(ad:jW c b):ap ab 281 #[aM (A U),ao (bE b)] i (fW i (pg c b)):=by
 have⟨k,ae,p,aT,ag⟩:=oc i b;have e:=Y.bw p;have aU:=Q (λa al aV=>tq b a al aV);obtain⟨bn,bo,bq,rfl⟩:=e.jR;obtain⟨br,bs,bt,rfl,_,_,_⟩:=e.pi.open;have aW:(i:N)<=k:=p.size;have aX:=Q e;have bu:=Q e.inst;have an:=e.c7;have aY:=e.c6;have a0:=Q p;change H _ at ae ag ad aY an;clear p;clear Y e aT;go_in;go_upto_region 1 with fail;rw[ae];go_wp2_with (refine m7 J (.tmp 3) 333 J k i (bE b) _ J J ag underlying333 bK ?_);go_loopw [5,9] (λa1 d wr=>∃(a:N) (f:I),d=a/\a1=f/\a<=5/\f=oa c b a/\B k k wr) (λ_ d _=>5-(aw d).toNat);exact⟨0,0,J,J,a3 _,J,aS _ _⟩;obtain⟨a,f,rfl,rfl,al,q,l⟩:=hrel;obtain⟨r,rfl⟩:=K wr;have a2:(k:N)<=r:=l.size;by_cases a4:a<5
 ·have m:=aU a a4;have g:oa c b (a+1)=if(cQ b a).2.1<(cQ b a).2.2.1 then aB (f+aB (fA (ah c (cQ b a).1.toNat) (cQ b a).2.2.1.toNat-fA (ah c (cQ b a).1.toNat) (cQ b a).2.1.toNat))else f:=by rw[q];rfl
  have t:=ad a;have⟨⟨a5,D,n,a6⟩,hp⟩:=K (cQ b a);rw[<-hp]at m g t;simp only[qW]at m;have⟨bv,u,av,a8,a9,ba,ax,bb⟩:=jV r a5 D n a6;have o:=l.trans (av.mono a2);have bx:(a:I)<5:=O
  change H _ at u o;clear hp a8 av l q;by_cases h:D<n
  ·have⟨G,ay,M,v⟩:=t h;simp only[bA]at G ay M v;obtain⟨d,rfl⟩:=dw G;obtain⟨j,rfl⟩:=dw M;have⟨w,bc⟩:=dw (bh (0<=n-1));obtain rfl:n=((w+1:N):I):=by omega
   simp only[cW]at v;simp only[am h,cW]at g;obtain⟨bz,bB,bC,bD,bF,bG,bH,bI,bJ,bL,bM,bN,bO,bP,bR,bS,bT,bU,rfl,rfl,x⟩:=aX.piece (i:=d) (f:=j) (u:=w) O O O;have⟨be,aA⟩:=K (L c);have⟨aC,aD⟩:=K ((ah c d).length);have y:=an.oo;rw[<-aA]at y;rw[<-aD]at x;have x:=x.bw o;have y:=s o y;obtain⟨_,_,_,_,_,bf,_,_,_,_,bg,aE⟩:=x;have bV:(d:I)<be:=O
   have bW:=aJ d;have⟨z,P⟩:=K (w+1);rw[<-P]at aE g ax h v m;rw[<-P]at u;have bX:(j:I)<aC+1:=O
   have bY:=aJ j;have bZ:(z:I)<aC+1:=O
   have b0:=aJ z;have b2:(j:I)<z:=O
   generalize fA (ah c d) j=b3 at*;generalize fA (ah c d) z=b4 at*;have R:=Q g;clear g;clear t G ay M v h bc aA aD P;go_upto_region 6 with fail;rw[u];clear m;generalize r=bi at*;go_quiet (fail);clear a9 ba ax bb y bf bg aE;go_wp2;go_roundw;case rel=>exact⟨a+1,_,aK,J,O,R.symm,eb o _⟩
   simp[aw];omega
  have R:H (oa c b (a+1)=f):=Q (by rw[g,ak h]);have b5:decide (D<n)=F:=X h
  clear h t g;go_upto_region 5 with fail;rw[u];generalize r=bi at*;clear m;go_wp2;go_roundw;case rel=>exact⟨a+1,_,aK,J,O,R.symm,o⟩
  simp[aw];omega
 have bk:a=5:=O
 subst bk;have bl:H (f=pg c b):=Q q;have bm:=a0.trans (l.mono aW);clear l q;go_wp2;go_ret;rw[bl];exact⟨J,bm⟩
def kV(a b:N):aP:=[.func (.func a) #[] #[],.func (.func b) #[] #[]]
def pj:Array V:=(kV 295 296++kV 297 298++kV 299 300++kV 301 302).toArray
def xK:(ab.info? 374).map (·.size)=A 8:=aT
def L7{d:cb}{f:Func}{g:Tmp}{a:bj}{Jy:TypeDesc}(j:f.results= #[.cell g a])(k:d.underlying a=A Jy)(JH:Jy.isRow=T)(h:Array V)(b:W)(e:N)(c:Array V)(l:(d.info? a).map (·.size)=A c.size)(i:h.getD g undef=aM (A e))(m:b.heap[e]? =A (az c a (0,0))):(results f h).run d b= .ok (ao c) b:=by rw[Array.getD_eq_getD_getElem?]at i;simp[results,j,i,asAddr,run_loadVar_row b e a a c (0,0) Jy m k mL l]
def tv(a:W):ap ab 278 #[] a λe f=>e=aq (ao pj)/\B a a f:=by
 obtain⟨b,c,d,g⟩:∃b,a.alloc (az (Array.replicate 8 .nilFunc) 374)=b/\B a a b/\b.heap[(a:N)]? =A (az (Array.replicate 8 .nilFunc) 374 (0,0)):=⟨_,J,aN _ _,heap_alloc_last a _⟩
 change H _ at c;go_in;go_upto_region 1 with fail;rw[show(#[Value.nilFunc,.nilFunc,.nilFunc,.nilFunc,.nilFunc,.nilFunc,.nilFunc,.nilFunc]:Array V)=Array.replicate 8 .nilFunc from J];rw[c];go_wp2_with (refine eB J (.tmp 0) (.tmp 5) 374 J b a pj (Array.replicate 8 .nilFunc) J J g xK J (by simp[pj,kV,Value.oneCell']) ?_;intro j h i);refine b0 (L7 J underlying374 J _ _ a pj xK J i) J ⟨J,d.grown h d.size (λk t=>dX)⟩
def pk(a:W)(u0 u1 u2 u3 u4:V):∃b,a.alloc (az #[u0,u1,u2,u3,u4] 298)=b/\B a a b/\b.heap.size=(a:N)+1/\C b a=A u0/\C b ⟨a,1,Z⟩=A u1/\C b ⟨a,2,Z⟩=A u2/\C b ⟨a,3,Z⟩=A u3/\C b ⟨a,4,Z⟩=A u4:=⟨_,J,aN _ _,D,aE,aE,aE,aE,aE⟩
def tw{c:cb}{i:Func}{j k l:Tmp}{a:bj}{Jy:TypeDesc}(r:i.results= #[.cell j a,.cell k a,.tmp l])(m:c.underlying a=A Jy)(JH:Jy.isRow=T)(d:Array V)(b:W)(g h:N)(e f:Array V)(n:V)(s:(c.info? a).map (·.size)=A e.size)(t:(c.info? a).map (·.size)=A f.size)(o:d.getD j undef=aM (A g))(p:d.getD k undef=aM (A h))(q:d.getD l undef=n)(u:b.heap[g]? =A (az e a (0,0)))(v:b.heap[h]? =A (az f a (0,0))):(results i d).run c b= .ok (aZ #[ao e,ao f,n]) b:=by rw[Array.getD_eq_getD_getElem?]at o p q;simp[results,r,o,p,q,asAddr,Sem.run_bind,Result.andThen,run_loadVar_row b g a a e (0,0) Jy u m mL s,run_loadVar_row b h a a f (0,0) Jy v m mL t]
def tx(b:W)(a:Bool×E Pc×E Pc)(c:bp)(d:W):Prop:=c=aq (aZ #[ao (bE a.2.1),ao (bE a.2.2),au a.1])/\B b b d
structure j0(c d e f g:I)(h:V)(a b:W):Prop where
 d0:C b ⟨a.heap.size,0,Z⟩=A h
 c0:C b ⟨a.heap.size+1,0,Z⟩=A (aa ac c)
 c1:C b ⟨a.heap.size+1,1,Z⟩=A (aa ac d)
 c2:C b ⟨a.heap.size+1,2,Z⟩=A (aa ac e)
 c3:C b ⟨a.heap.size+1,3,Z⟩=A (aa ac f)
 c4:C b ⟨a.heap.size+1,4,Z⟩=A (aa ac g)
 r:b.heap[a.heap.size+1+1]? =A (az bu 333 (0,0))
 q:b.heap[a.heap.size+1+1+1]? =A (az bu 333 (0,0))
 bw:B a.heap.size a b
def j0.lt{c d e f g:Int}{h:Value}{a b:World}(i:j0 c d e f g h a b):(a:Nat)+1+1+1<(b:Nat):=(bM.1 i.q).1
def j0.next{d e f g h:Int}{i:Value}{j c k:World}(a:j0 d e f g h i j c)(b:Below c c k):j0 d e f g h i j k:=⟨s b a.d0,s b a.c0,s b a.c1,s b a.c2,s b a.c3,s b a.c4,(b.block _ (Y a.lt)).trans a.r,(b.block _ a.lt).trans a.q,a.bw.trans (b.mono (Y a.lt))⟩
def xL(e f g h i:I)(j:V)(c:W):∃b,((((c.alloc (az #[j] 95)).alloc (az #[e,f,g,h,i] 298)).alloc (az bu 333)).alloc (az bu 333))=b/\j0 e f g h i j c b/\b.heap.size=(c:N)+1+1+1+1:=by have⟨w,x,y,k,z⟩:=c8 c j;have⟨D,G,l,m,n,o,p,r,t⟩:=pk w e f g h i;have⟨H,K,M,P,d⟩:=gQ D bu;have⟨b,Q,u,R,v⟩:=gQ H bu;have a:=q M u;have d:=(u.block _ O).trans d;rw[P,m,k]at v;rw[m,k]at d;rw[k]at n o p r t;rw[x,G,K,Q];exact⟨b,J,⟨s (q l a) z,s a n,s a o,s a p,s a r,s a t,d,v,q y (q l a)⟩,O⟩
def j0.fin{j k l m n:Int}{o:Value}{a d b c:World}{e:Array Value}(f:j0 j k l m n o a d)(g:d.grownBy b (some ((a:Nat)+1+1)))(p:b.heap[(a:Nat)+1+1]? =some (.cells e 333 (0,0)))(h:b.grownBy c (some ((a:Nat)+1+1+1))):c.heap[(a:Nat)+1+1]? =some (.cells e 333 (0,0))/\Below a a c:=by have r:=f.lt;have i:=f.bw.grown g O (λq t=>dX);exact⟨(h.block _ (Y g.size) D).trans p,i.grown h i.size (λq t=>dX)⟩
def j0.q5{e f g h i:Int}{j:Value}{a b c:World}(d:j0 e f g h i j a b)(k:b.grownBy c (some ((a:Nat)+1+1))):c.heap[(a:Nat)+1+1+1]? =some (.cells bu 333 (0,0)):=(k.block _ d.lt D).trans d.q
def m9{d:bd}{e:a'}{g:W->Prop}{next:a'->Prop}(h:Operand)(a:bj)(i:d.op= .load a h)(f:N)(b:Array V)(Jy:TypeDesc)(JH:Jy.isRow=T)(hp:e.eval h=aM (A f))(j:ab.underlying a=A Jy)(k:(ab.info? a).map (·.size)=A b.size)(l:∀c,g c->c.heap[f]? =A (az b a (0,0)))(m:next (e.put d.dst (ao b))):nZ ab d e g next:=by refine⟨ao b,λc n=>?_,m⟩;unfold qK execOp;simp only[i,hp,Instr.loadAt,Instr.sureAddr,Sem.run_bind,Sem.run_pure,Result.andThen_ok,run_loadVar_row c f a a b (0,0) Jy (l c n) j mL k];exact⟨J,J⟩
def L8{l:Array bd}{z:bJ}{D:Mo}{m n:bd}{j:a'}(G:d≠e)(ag:x.heap[d]? =A (az bu 333 (0,0)))(H:x.heap[e]? =A (az bu 333 (0,0)))(K:M (λf=>f=d\/f=e) w x)(r s t u:Operand)(ah:l[b]? =A m)(ak:l[c]? =A n)(am:m.guard=Z)(an:n.guard=Z)(ar:m.op= .store 333 r s)(av:m.dst=Z)(ax:n.op= .store 333 t u)(ay:n.dst=Z)(o p:Array V)(aA:j.eval r=aM (A d))(aC:j.eval s=ao o)(aD:j.eval t=aM (A e))(aE:j.eval u=ao p)(P:o.size=20)(Q:p.size=20)(aF:o.all (·.oneCell')=T)(aG:p.all (·.oneCell')=T)(aI:∀q,q.heap[d]? =A (az o 333 (0,0))->q.heap[e]? =A (az p 333 (0,0))->M (λf=>f=d\/f=e) x q->cL ab l z (dU (λf=>f=d\/f=e) w) D j q):cL ab l z (dU (λf=>f=d\/f=e) w) (.a b (.a c D)) j x:=by refine aU (λaJ v=>?_) ah (by unfold Region.wanted;rw[am]);refine qT r s 333 ar av _ d _ bu aA aC ag (by rw[P];exact bK) (by rw[P];rfl) aF ?_;intro y R U;have Y:M (λf=>f=d\/f=e) x y:=M.grown R (λf i=>by simp at i;exact .inl i.symm);refine v _ _ (dU.mk (K.trans Y I2 I2)) ?_;refine aU (λaJ v=>?_) ak (by unfold Region.wanted;rw[an]);refine qT t u 333 ax ay y e _ bu aD aE ((R.block _ (bM.1 H).1 (by simpa using λi=>G i.symm)).trans H) (by rw[Q];exact bK) (by rw[Q];rfl) aG ?_;intro aK ad aL;have aN:M (λf=>f=d\/f=e) y aK:=M.grown ad (λf i=>by simp at i;exact .inr i.symm);have ae:=Y.trans aN (I':=λf=>f=d\/f=e) I2 I2;exact v _ _ (dU.mk (K.trans ae I2 I2)) (aI _ ((ad.block _ (bM.1 U).1 (X G)).trans U) aL ae)
def L9(m:V)(n:ar)(a b c i j:I)(d:W)(o:bb d m n)(g:kN (L n) ⟨a,b,c,i,j⟩=F):ap ab 264 #[ao #[m],ao #[a,b,c,i,j]] d (tx d (F,[],[])):=by
 obtain⟨v,e,w,rfl,p,R,x⟩:=o.open;have⟨y,q,s,z⟩:=xL a b c i j (S v e w) d;rw[p]at g;have g:decide (a<0)=T\/(decide (a<0)=F/\decide (3<a)=T)\/(decide (a<0)=F/\decide (3<a)=F/\decide (b<0)=T)\/(decide (a<0)=F/\decide (3<a)=F/\decide (b<0)=F/\decide ((e:I)<=b)=T)\/(decide (a<0)=F/\decide (3<a)=F/\decide (b<0)=F/\decide ((e:I)<=b)=F/\decide (c<0)=T)\/(decide (a<0)=F/\decide (3<a)=F/\decide (b<0)=F/\decide ((e:I)<=b)=F/\decide (c<0)=F/\decide ((e:I)<=c)=T):=by revert g;unfold kN;cases decide (a<0)<;>cases decide (3<a)<;>cases decide (b<0)<;>cases decide ((e:I)<=b)<;>cases decide (c<0)<;>cases decide ((e:I)<=c)<;>simp
 have k:=Q s;obtain⟨U,X,Y,ad,ae,ag,_,_,_⟩:=s;change H _ at q z p x;clear o;rcases g with f|⟨f,h⟩|⟨f,h,l⟩|⟨f,h,l,t⟩|⟨f,h,l,t,D⟩|⟨f,h,l,t,D,ah⟩;all_goals
  go_in;go_upto_region 1 with fail;rw[show(#[aa ac 0,(0:I),(0:I),au F,(0:I),(0:I),(0:I),au F,(0:I),(0:I),(0:I),au F,(0:I),(0:I),(0:I),au F,(0:I),(0:I),(0:I),au F]:Array V)=bu from J];rw[q];go_wp2_with (first
   |(refine eB J (.tmp 4) (.tmp 45) 333 J y ((d:N)+1+1) bu bu J J k.r bK J qi ?_;intro G u K)
   |(refine eB J (.tmp 5) (.tmp 46) 333 J G ((d:N)+1+1+1) bu bu J J (k.q5 u) bK J qi ?_;intro ai M O))
  have⟨f1,P⟩:=k.fin u K M;refine b0 (tw J underlying333 J _ _ ((d:N)+1+1) ((d:N)+1+1+1) bu bu (au F) bK bK J J J f1 O) J ⟨J,P⟩
def pl{c:Array V}{d:bj}(e:w.heap[a]? =A (az c d (0,0))):∀b,dp w b->b.heap[a]? =A (az c d (0,0)):=λb ⟨h,i⟩=>by
 subst i
 exact(h.bw.block _ (bM.1 e).1).trans e
def hX.len{h:I}{f:V}{g:ai}{b:ar}(m:hX w a j k l h u v y f g b){i:N}(o:i<L b):∃c d e,f=S (A ⟨c,d,Z⟩) (L b) e/\C w ⟨c,d+i*4+3,Z⟩=A (aa ac (b2 g (ah b i))):=by obtain⟨H,e,rfl,p⟩:=m.xI;obtain⟨c,d,K,M,O,rfl,q⟩:=p i o;exact⟨c,d,e,J,q.c3⟩
def L'(G:N)(R U Y ad:I)(ae ag al bi:V)(e:ai)(c:ar)(g:Mv)(l m:E Pc)(o:W)(h:hX o G R U Y ad ae ag al bi e c)(aW:jW c l)(aX:jW c m)(ha:0<=g.a/\g.a<L c)(av:0<=g.b/\g.b<L c)(bk:L c<=1000000):ap ab 265 #[aM (A G),ao #[g.k,g.a,g.b,g.i,g.j],ao (bE l),ao (bE m)] o (fW o (kO e c g l m)):=by
 obtain⟨ax,bl,bm,ay,aA⟩:=g;simp only at ha av⊢;have⟨bn,aY,M,aC,bo,v,z,bq,br⟩:=pk o ax bl bm ay aA;have⟨bs,a0,a1,a3,bt⟩:=oc bn l;have⟨aD,a4,aE,bu,P⟩:=oc bs m;have w:=q a1 aE;have aF:=(aE.block _ O).trans bt;have v:=s w v;have z:=s w z;rw[a3,aC]at P;rw[aC]at aF;have x:=h.bw (q M w);obtain⟨f,rfl⟩:=dw ha.1;obtain⟨n,rfl⟩:=dw av.1;obtain⟨bG,bH,bI,rfl,bv⟩:=x.len (i:=f) O;have⟨_,_,_,a5,aG⟩:=x.len (i:=n) O;simp only[bf,a2,bN,bT,true_and]at a5;obtain⟨⟨rfl,rfl⟩,rfl⟩:=a5;have D:=x.c7;have bx:=Q (λaI aK=>tu G R U Y ad ae ag al _ e c l aI (x.bw aK) aW);have bz:=Q (λaI aK=>tu G R U Y ad ae ag al _ e c m aI (x.bw aK) aX);have a6:H (kO e c ⟨ax,(f:I),(n:I),ay,aA⟩ l m=if(f:I)=(n:I)then aB (hV e c l-b2 e (ah c f))else aB (aB (hV e c l-b2 e (ah c f))+aB (hV e c m-b2 e (ah c n)))):=Q (by unfold kO;simp only[cW]);have⟨aL,a8⟩:=K (L c);rw[<-a8]at D;have bJ:=aJ f;have bL:(f:I)<(aL:I):=O
 have bO:=aJ n;have bP:(n:I)<(aL:I):=O
 have bR:aL<=1000000:=O
 generalize b2 e (ah c f)=a9 at*;generalize b2 e (ah c n)=bA at*;generalize hV e c l=ba at*;generalize hV e c m=bB at*;generalize kO e c ⟨ax,(f:I),(n:I),ay,aA⟩ l m=bb at*;have bc:=Q (q M w);have be:o.heap.size<=aD.heap.size:=(q M w).size;change H _ at aY a0 a4 aF P a8;clear h x M a1 aE w aC a3 bu ha av bo bq br aW aX bk;go_in;go_upto_region 1 with fail;rw[aY,a0,a4];have bC:=v;have bD:=D;refine fw ((.p 0 (.p 3 (.p 4 (.p 5 (.p 7 (.r 1 (.r 6 (.r 8 (.p 9 (.p 10 (.r 11 (.a 2 (.p 12 (.p 13 .d))))))))))))))) (dp aD) aT aT (λ_ _ Jy _ _ h=>fT) (.mk (an _)) ?_;iterate 5 refine mS ?_
 refine lJ (λaN u=>?_);rw[am dI];refine m9 (.tmp 6) 333 J (o.heap.size+1) (bE l) _ J J underlying333 bK (pl aF) (u _ ?_);simp only[Act.put,List.setIfInBounds_toArray,List.set_cons_zero,List.set_cons_succ];iterate 5 refine mS ?_
 refine aU λaN u=>?_;go_simp;refine(bx _ (an _)).mono ?_;rintro aO aP ⟨rfl,bg⟩;have t:=q (an aD) bg;refine u _ _ (.mk t) ?_;iterate 2 refine mS ?_
 refine gc ?_;have aQ:=Q t;have v:=s t v;have z:=s t z;have D:=s t D;have aG:=s t aG;have bF:H (aP.heap[o.heap.size+1+1]? =A (az (bE m) 333 (0,0))):=Q ((t.block _ (bM.1 P).1).trans P);clear bC bD bv bg t;by_cases y:(f:I)=(n:I)
 ·have aO:((f:I)!=(n:I))=F:=by simpa using y
  have aR:H (bb=aB (ba-a9)):=Q (by rw[a6,am y]);have aS:=bc.trans (aQ.mono be);clear y;go_wp2;go_ret;rw[aR];exact⟨by simp only[dJ];rfl,aS⟩
 have aO:((f:I)!=(n:I))=T:=X y
 have aR:H (bb=aB (aB (ba-a9)+aB (bB-bA))):=Q (by rw[a6,ak y]);clear y;go_upto_region 3 with fail;clear v;refine fw ((.p 0 (.p 1 (.p 4 (.p 5 (.p 6 (.p 8 (.r 2 (.r 7 (.r 9 (.p 10 (.p 11 (.r 12 (.a 3 (.p 13 (.p 14 (.p 15 .d))))))))))))))))) (dp aP) aT aT (λ_ _ Jy _ _ h=>fT) (.mk (an _)) ?_;iterate 6 refine mS ?_
 refine lJ (λaN u=>?_);rw[am dI];refine m9 (.tmp 7) 333 J (o.heap.size+1+1) (bE m) _ J J underlying333 bK (pl bF) (u _ ?_);simp only[Act.put,List.setIfInBounds_toArray,List.set_cons_zero,List.set_cons_succ];iterate 5 refine mS ?_
 refine aU λaN u=>?_;go_simp;refine(bz _ (q aQ (an _))).mono ?_;rintro aO bS ⟨rfl,bh⟩;have aV:=q (an aP) bh;refine u _ _ (.mk aV) ?_;clear z D aG;have aS:=bc.trans ((q aQ aV).mono be);iterate 3 refine mS ?_
 refine gc ?_;clear bh aV;go_wp2;go_ret;rw[aR];exact⟨by simp only[dJ];rfl,aS⟩
def xM(s:N)(v w f k:I)(x y z D:V)(g:ai)(c:ar)(b:E Pc)(i:W)(h:hX i s v w f k x y z D g c)(G:jW c b):ap ab 266 #[aM (A s),ao (bE b)] i (ir i (kP g c f k b)):=by
 have⟨l,U,t,al,u⟩:=oc i b;have m:=h.bw t;have X:=Q (λK M=>L6 s v w f k x y z D g c b K (m.bw M) G);have av:=Q (λK M=>tu s v w f k x y z D g c b K (m.bw M) G);have Y:=m.inst.c2;have ad:=m.inst.c3;have ae:H (kP g c f k b=(decide (pg c b<=f)&&decide (hV g c b<=k))):=Q J;generalize pg c b=ax at*;generalize hV g c b=aA at*;generalize kP g c f k b=aC at*;have ag:(i:N)<=l:=t.size;have ah:=Q t;change H _ at U u;clear t;clear h m al G;go_in;go_upto_region 1 with fail;rw[U];rcases(df (decide (ax<=f))).symm with O|O
 ·refine fw ((.p 0 (.p 3 (.p 4 (.p 5 (.p 6 (.r 1 (.r 7 (.a 2 (.p 8 (.p 9 (.p 10 (.p 13 (.p 14 (.p 15 (.p 16 (.r 11 (.r 17 (.a 12 (.p 18 (.p 19 (.p 20 .d)))))))))))))))))))))) (dp l) aT aT (λ_ _ Jy _ _ h=>fT) (.mk (an _)) ?_;iterate 5 refine mS ?_
  refine lJ (λn e=>?_);rw[am dI];refine m9 (.tmp 3) 333 J i (bE b) _ J J underlying333 bK (pl u) (e _ ?_);simp only[Act.put,List.setIfInBounds_toArray,List.set_cons_zero,List.set_cons_succ];refine mS ?_;refine aU λn e=>?_;go_simp;refine mU (X _ (an _)) λay o=>?_;have j:=q (an l) o;refine e _ _ (.mk j) ?_;iterate 9 refine mS ?_
  refine qO ?_;simp only[Act.put,List.setIfInBounds_toArray,List.set_cons_zero,List.set_cons_succ];iterate 3 refine mS ?_
  refine gc ?_;have P:=ah.trans (j.mono ag);clear o j Y ad;go_wp2;go_ret;rw[ae,O];exact⟨J,P⟩
 refine fw ((.p 0 (.p 3 (.p 4 (.p 5 (.p 6 (.r 1 (.r 7 (.a 2 (.p 8 (.p 9 (.p 10 (.p 13 (.p 14 (.p 15 (.p 16 (.r 11 (.r 17 (.a 12 (.p 18 (.p 19 (.p 20 .d)))))))))))))))))))))) (dp l) aT aT (λ_ _ Jy _ _ h=>fT) (.mk (an _)) ?_;iterate 5 refine mS ?_
 refine lJ (λn e=>?_);rw[am dI];refine m9 (.tmp 3) 333 J i (bE b) _ J J underlying333 bK (pl u) (e _ ?_);simp only[Act.put,List.setIfInBounds_toArray,List.set_cons_zero,List.set_cons_succ];refine mS ?_;refine aU λn e=>?_;go_simp;refine mU (X _ (an _)) λay o=>?_;have j:=q (an l) o;refine e _ _ (.mk j) ?_;iterate 7 refine mS ?_
 refine lJ (λn e=>?_);rw[am dI];refine m9 (.tmp 3) 333 J i (bE b) _ J J underlying333 bK (pl u) (e _ ?_);simp only[Act.put,List.setIfInBounds_toArray,List.set_cons_zero,List.set_cons_succ];refine mS ?_;refine aU λn e=>?_;go_simp;refine mU (av _ j) λaD ak=>?_;have R:=q j ak;refine e _ _ (.mk R) ?_;iterate 3 refine mS ?_
 refine gc ?_;have P:=ah.trans (R.mono ag);clear o j ak R Y ad;go_wp2;go_ret;rw[ae,O];exact⟨J,P⟩
section
def iy{i:Oper}{g:Act}{p:Act->World->Prop}{r:Exit->Act->World->Prop}(j k:Operand)(Yc b:TypeId)(l:Value)(a bytes:Nat)(s:prog.underlying Yc=some (.slice b))(t:(prog.info? b).map (λc=>(c.zero,c.size,c.bytes))=some (some l,a,bytes))(u:l.cells.size=a)(v:0<a)(w:bytes<=128)(x:i.op= .call {callee:=.builtin .append,args:=#[j,k],argTypes:=#[Yc,Yc]})(X0:World)(h:Nat)(d:Value)(XW:Nat)(m e:List Value)(f:Nat)(y:g.eval j=d)(z:g.eval k= .slice (some f) 1 1)(D:ax X0 f e)(G:e.length=a)(H:∀n∈e,n.oneCell'=true)(K:X0.ownsRow h b a d XW m)(M:XW+1<=1000000000000)(P:h<=(X0:Nat))(Q:∀XV q X1,X1.ownsRow h b a (.slice (some ⟨XV,0,none⟩) (XW+1) q) (XW+1) (m++e)->X0.grownBy X1 d.ownBlock->(d.ownBlock=some XV\/XV=X0)->XV<X1.heap.size->p (g.put i.dst (.slice (some ⟨XV,0,none⟩) (XW+1) q)) X1):i.wp prog g X0 p r:=by
 have⟨c,R,U,X,Y⟩:=ew t;refine wp_append_lies X0 j k Yc x h b c l a bytes s R U X Y u v d XW m y K ⟨f,0,none⟩ 1 1 e z (by rw[G];omega) (λo n ad=>?_) H O (by simp only[maxLen];omega) (by have:(XW+1)*bytes<=1000000000000*128:=Nat.mul_le_mul M w;omega) P X0 J Q;have ha:(⟨f,0,none⟩:Addr).add o=⟨f,o,none⟩:=by unfold Addr.add;split<;>simp_all
 rw[ha];exact D o n ad
def Ma(XZ:W)(X2 f1 X3 X4 X5 X6 X7:V):∃a,XZ.alloc (az #[X2,f1,X3,X4,X5,X6,X7,S Z 0 0] 366)=a/\B XZ XZ a/\a.heap.size=(XZ:N)+1/\ci a XZ X2 f1 X3 X4 X5 X6/\C a ⟨XZ,6,Z⟩=A X7/\C a ⟨XZ,7,Z⟩=A (S Z 0 0)/\aH a ⟨XZ,7,Z⟩=F:=⟨_,J,aN _ _,D,⟨by simp[go_sem],by simp[go_sem],by simp[go_sem],by simp[go_sem],by simp[go_sem],by simp[go_sem]⟩,by simp[go_sem],by simp[go_sem],by simp[go_sem]⟩
def xN(XZ:W)(b c d e:V):∃a,XZ.alloc (az #[b,c,d,e] 368)=a/\B XZ XZ a/\a.heap.size=(XZ:N)+1/\C a XZ=A b/\C a ⟨XZ,1,Z⟩=A c/\C a ⟨XZ,2,Z⟩=A d/\C a ⟨XZ,3,Z⟩=A e/\aH a XZ=F/\aH a ⟨XZ,1,Z⟩=F/\aH a ⟨XZ,2,Z⟩=F:=⟨_,J,aN _ _,D,by simp[go_sem],by simp[go_sem],by simp[go_sem],by simp[go_sem],by simp[go_sem],by simp[go_sem],by simp[go_sem]⟩
def Mb:(ab.info? 368).map (λa=>(a.zero,a.size,a.bytes))=A (A (ao #[S Z 0 0,S Z 0 0,S Z 0 0,(0:I)]),4,80):=by kernel_rfl
structure gp(b:N)(m:W)(n f1 o p q r s:V)(g:ai)(d:ar)(l:N)(c:W)(h:V)(e:aP):Prop where
 inst:ci c b n f1 o p q r
 c6:C c ⟨b,6,Z⟩=A s
 c7:C c ⟨b,7,Z⟩=A h
 f7:aH c ⟨b,7,Z⟩=F
 own:c.ownsRow (b+1) 368 4 h l e
 row:∀a,a<l->∃i j k,e[a*4]? =A i/\e[a*4+1]? =A j/\e[a*4+2]? =A k/\e[a*4+3]? =A (aa ac (b2 g (ah d a)))/\ay c (b+1) i (gl g (ah d a) (ah d a).length)/\ay c (b+1) j (gm g (ah d a) (ah d a).length)/\
 ay c (b+1) k (fB (ah d a) (ah d a).length)/\∀f,(af i=A f\/af j=A f\/af k=A f)->af h≠A f
 bw:B b m c
variable{XT XU XV XW XX:N}{XY XZ X0 X1:W}{X2 f1 X3 X4 X5 X6 X7 X8 X9 X' Ya:V}{Yb:ai}{Yc:ar}{Yd:aP}
def gp.lt(a:gp XT XY X2 f1 X3 X4 X5 X6 X7 Yb Yc XU XZ X8 Yd):XT<XZ:=aR _ _ a.c6
def gp.next(b:gp XT XY X2 f1 X3 X4 X5 X6 X7 Yb Yc XU XZ X8 Yd)(a:B XZ XZ X0):gp XT XY X2 f1 X3 X4 X5 X6 X7 Yb Yc XU X0 X8 Yd:=by have c:=b.lt;refine⟨b.inst.bw a,s a b.c6,s a b.c7,aY a c b.f7,gd (row:=Z) b.own (dS a) (by cases (af X8)<;>simp),λd e=>?_,b.bw.trans (a.mono (iv c))⟩;have⟨X9,X',Ya,f,g,h,i,j,k,l,m⟩:=b.row d e;exact⟨X9,X',Ya,f,g,h,i,j.bw a,k.bw a,l.bw a,m⟩
def gp.adB(c:gp XT XY X2 f1 X3 X4 X5 X6 X7 Yb Yc XU X0 X8 Yd)(H:X1.ownsRow (XT+1) 368 4 (S (A XV) (XU+1) XX) (XU+1) (Yd++[X9,X',Ya,(b2 Yb (ah Yc XU))]))(y:X0.grownBy X1 (af X8))(z:af X8=A XV\/XV=X0)(j:ay X0 (XT+1) X9 (gl Yb (ah Yc XU) (ah Yc XU).length))(k:ay X0 (XT+1) X' (gm Yb (ah Yc XU) (ah Yc XU).length))(l:ay X0 (XT+1) Ya (fB (ah Yc XU) (ah Yc XU).length))(f:∀a,(af X9=A a\/af X'=A a\/af Ya=A a)->af X8≠A a):gp XT XY X2 f1 X3 X4 X5 X6 X7 Yb Yc (XU+1) (aj X1 ⟨XT,7,Z⟩ (S (A XV) (XU+1) XX)) (S (A XV) (XU+1) XX) (Yd++[X9,X',Ya,(b2 Yb (ah Yc XU))]):=by
 have G:=c.lt;have u:∀a,af X8=A a->XT<a:=λa b=>Y ((bI c.own a b).1)
 have v:¬af X8=A XT:=λd=>Y (u XT d)
 have q:=M.grown y λXU d=>d;have ae:XT<XV:=by rcases z with d|d;exact u XV d;omega
 have g:∀r e,r≠7->C X0 ⟨XT,r,Z⟩=A e->(aj X1 ⟨XT,7,Z⟩ (S (A XV) (XU+1) XX)).cell? ⟨XT,r,Z⟩=A e:=λr e m K=>by rw[cq _ _ _ _ D];exact q.cell K v
 have s:=c.own.1;have h:∀{e:V} {t:ad},ay X0 (XT+1) e t->(∀a,af e=A a->af X8≠A a)->ay (aj X1 ⟨XT,7,Z⟩ (S (A XV) (XU+1) XX)) (XT+1) e t:=λm w=>jZ (m.bl q w) λa b=>by have:=(m.lt a b).1;simp;omega
 have i:∀{e:V} {t:ad},ay X0 (XT+1) e t->(∀a,af e=A a->af X8≠A a)->∀a,af e=A a->(S (A XV) (XU+1) XX).ownBlock≠A a:=λm w a b d=>by simp only[af,a2]at d;subst d;rcases z with d|d;exact w _ b d;have:=(m.lt _ b).2;omega
 refine⟨⟨g _ _ O c.inst.c0,g _ _ O c.inst.c1,g _ _ O c.inst.c2,g _ _ O c.inst.c3,g _ _ O c.inst.c4,g _ _ O c.inst.c5⟩,g _ _ O c.c6,bP _ _ _ (by rw[q.cell c.c7 v];rfl),?_,?_,λx ag=>?_,?_⟩;rw[bs];exact q.free c.f7 G v;exact gd H (bn X1 ⟨XT,7,Z⟩ _) (.inr (by simp[af];omega));by_cases P:x<XU;have⟨X9,X',Ya,Q,R,U,X,j,k,l,f⟩:=c.row x P;have n:=λa b=>f a (.inl b);have o:=λa b=>f a (.inr (.inl b));have p:=λa b=>f a (.inr (.inr b));refine⟨X9,X',Ya,by rw[jO O];exact Q,by rw[jO O];exact R,by rw[jO O];exact U,by rw[jO O];exact X,h j n,h k o,h l p,λa b=>?_⟩;rcases b with b|b|b;exact i j n a b;exact i k o a b;exact i l p a b;have:x=XU:=O
 subst this;have n:=λa b=>f a (.inl b);have o:=λa b=>f a (.inr (.inl b));have p:=λa b=>f a (.inr (.inr b));refine⟨X9,X',Ya,by rw[i1 O,s];simp,by rw[i1 O,s];simp,by rw[i1 O,s];simp,by rw[i1 O,s];simp,h j n,h k o,h l p,λa b=>?_⟩;rcases b with b|b|b;exact i j n a b;exact i k o a b;exact i l p a b;exact(c.bw.grown y (iv G) (λa b=>iv (u a b))).setCell (p:=⟨XT,7,Z⟩) (aL _) _
def gp.done{e f g h:I}(a:gp XT XY e f g h X5 X6 X7 Yb Yc XU XZ X8 Yd)(l:XU=L Yc)(m:bt XZ X6 Yb)(n:∃o XW XX,X5=S o XW XX)(p:bb XZ X7 Yc):hX XZ XT e f g h X5 X6 X7 X8 Yb Yc:=by
 subst l;refine⟨a.inst,a.c6,a.c7,m,n,p,?_⟩;rcases bW a.own with⟨rfl,q⟩|⟨XV,r,rfl,_,_,_,_⟩;exact⟨Z,0,by rw[q],λi j=>O⟩;refine⟨_,r,J,λi j=>?_⟩;have⟨X9,X',Ya,s,t,u,v,w,x,y,_⟩:=a.row i j;have b:∀c d,Yd[c]? =A d->C XZ ⟨XV,c,Z⟩=A d:=λc d z=>by have⟨D,k,a⟩:=(hb a.own) c d z;simp only[af,a2]at k;subst k;exact a
 exact⟨XV,0,X9,X',Ya,J,by rw[bX];exact b _ _ s,by rw[bX];exact b _ _ t,by rw[bX];exact b _ _ u,by rw[bX];exact b _ _ v,w.ints,x.ints,y.ints⟩
def gp.start{b:V}(a:ci XZ XT b f1 X3 X4 X5 X6)(c:C XZ ⟨XT,6,Z⟩=A X7)(d:C XZ ⟨XT,7,Z⟩=A (S Z 0 0))(e:aH XZ ⟨XT,7,Z⟩=F)(f:B XT XY XZ):gp XT XY b f1 X3 X4 X5 X6 X7 Yb Yc 0 XZ (S Z 0 0) []:=⟨a,c,d,e,World.ownsRow_nil _ _ _ _,λg a=>absurd a (fx _),f⟩
def eW.start{c b:N}{d:ag}{Ya:V}(e:C XZ b=A (S Z 0 0))(f:C XZ ⟨b,1,Z⟩=A (S Z 0 0))(g:C XZ ⟨b,2,Z⟩=A Ya)(h:C XZ ⟨b,3,Z⟩=A (aa ac (b2 Yb d))) (X2:aH XZ b=F) (f1:aH XZ ⟨b,1,Z⟩=F) (X3:aH XZ ⟨b,2,Z⟩=F) (i:ay XZ c Ya (fB d 0)) (j:∀XU,af Ya=A XU->XU≠b) (k:c<=b):eW c b Yb d 0 0 XZ (S Z 0 0) (S Z 0 0) Ya:=⟨e,f,g,h,X2,f1,X3,ay.nil _ _,ay.nil _ _,i,λXU a=>(by cases a),λXU a=>(by cases a),λXU a=>(by cases a),λXU l=>by rcases l with a|a|a;cases a;cases a;exact j XU a,k⟩
def xO(XZ:W)(a:I):ay (XZ.alloc (az #[a] 3)) XZ (S (A (XZ:N)) 1 1) [a]:=⟨D,.inr ⟨(XZ:N),1,#[a],J,aL _,heap_alloc_last XZ _,D,by simp[maxLen],by first|simp|rfl,by first|simp|rfl⟩⟩
end
end Go.Proofs.YtdlofedcpibjcaaGreatDoor
