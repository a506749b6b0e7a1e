/- A part of the proof of TopLines: contracts of the functions that it reaches. Conditions: as each states. -/
import Derived.Handed
import Derived.LaidMore
import Derived.Lay
import Derived.SevenTiedAt
import Derived.Stop.Joined
import Derived.Test.YtdlofedcpibjcaaGreatDoorT1
import Derived.Test.YtdlofedcpibjcaaGreatDoorA06
namespace Go.Proofs.YtdlofedcpibjcaaGreatDoor
open Go.RowKit Go.Proofs.Tryz
set_option linter.all false
set_option maxRecDepth 100000
set_option maxHeartbeats 25600000
open Go renaming World->W,Value->V,Addr->bQ,Act->a',Oper->bd,Program->cb,Ending->bp,TypeId->bj,Calls->ap
open Go.RowKit renaming Below->B,wrap64->aB,intOf->aw
open Option renaming some->A,none->Z
open Bool renaming true->T,false->F
open Go.Value renaming int->aa,slice->S,pointer->aM,agg->ao,bool->au,string->a7,tuple->aZ,ownBlock->af
open Go.IntKind renaming i64->ac,u64->b1
open Go.Ending renaming returned->aq
open Go.Obj renaming cells->az
open Go.World renaming setCell->aj,cell?->C,frozen?->aH
open List renaming length->L
open Go.Proofs.Tryz renaming prog->ab
open _root_ renaming Int->I,Nat->N,List->E
variable{a b c d e g:N}{w x:W}{i j k l:I}{u v y:V}{p:Prop}
section
open Go.ChangeShapes Go.WideShapes Go.ChangeAt
def Wg(e:World.ShapedOpen ab w):hU w:=by
 have⟨a,g,h,i⟩:=e.1 0 #[(0:I)] 3 hN aT;have⟨r,j,_,k⟩:=i aT;have l:ab.cellTypes ab.depth 3=A [3]:=aT
 obtain rfl:=Option.some.inj (l.symm.trans j);have d:0<a.size:=by rw[h];decide
 have⟨m,n,b⟩:=k 0 a[0] (Array.getElem?_eq_getElem d);have o:m=3:=(Option.some.inj n).symm;subst o;unfold Cell.ok at b;rw[underlying3]at b;obtain⟨c,p⟩:∃c:I,a[0]=aa ac c:=by revert b;cases a[0]<;>simp<;>(intro q s;exact q)
 refine⟨c,?_⟩;unfold C;simp[g,d,p]
def Wh(g:Os)(w:g.Started)(x:Type)(b:bj×V->x):ReturnsInHanded {} checked g 3 .any (λc args=>(Rows.topLinesSpec.pre b ab Tryz.f3 Rows.topLinesRow.domain F c args/\laidMetH ab Rows.topLinesRow.laid c)/\sizedMet b ab Tryz.f3 (OpenSpec.ofChange Rows.topLinesSpec) F c args) (Rows.topLinesSpec.post b ab Tryz.f3 F T F F):=by
 refine returnsInHanded_of_calls (C:=checked) own w aT (ChangeSpec.witness_shaped (enc:=b) (C:=checked) (os:=g) (X:=λc _=>laidMetH ab Rows.topLinesRow.laid c) F (World.laidAll ab g Rows.topLinesRow.laid) #[a7 ⟨#[]⟩,S Z 0 0] 8 (World.laidAll_os _ _ _) (World.shaped_of_ZipB aT aT) aT aT aT (by rw[MakeChecks.laidMetH_plain _ _ _ aT];exact laidMet_laidAll _ aT aT)) ?_;intro c r k _ z _ D G av;obtain⟨_,_,_,H,M,_,_,_,_,h⟩:=D;obtain rfl:H=Tryz.f3:=Option.some.inj (M.symm.trans func3);obtain⟨⟨⟨l,ax,ay,O,aA⟩,_⟩,aC⟩:=G;have i:=DataW.Whole.of_heap (w':=c.forCall r k) dI O;have s:=Wg z;have⟨d,P⟩:=K (c.forCall r k);have⟨args,Q⟩:=K k.args;rw[<-P]at s i h⊢;rw[<-Q]at i h⊢;suffices R:ap ab 3 args d (λe f=>∃a,e=aq a/\Rows.topLinesSpec.post b ab Tryz.f3 F T F F d args a f)from R.mono (λe f ⟨a,m,hp⟩=>by subst m;exact ChangeSpec.post_blind hp);have n:∀(t:N) j a,Tryz.f3.params[t]? =A j->args[t]? =A a->Value.okWide ab d .any _ j a:=h;have o:=i;obtain⟨U,aE,u,X,rfl,aF,aG⟩:=i;have p:DataW.TrodAll b ab d 0 (λ_=>T) T Tryz.f3.params.toList args.toList l U:=u;have q:=p;obtain⟨rfl,rfl⟩:=trodVars_none X;simp only[e']at o;have Y:L l=2:=by have:=wQ q;rw[this];rfl
 have ad:∀(e:bp) f,(e=aq (au T)/\B d d f)->∃a,e=aq a/\Rows.topLinesSpec.post b ab Tryz.f3 F T F F d args a f:=λe f ⟨m,ae⟩=>⟨_,m,KV o q hN J (by match l,Y with|[ag,ah],_=>rfl) J ae⟩
 rw[params3]at p n;clear u h q o;obtain⟨ai,v,ag,ah,aI,aJ,rfl,rfl,rfl,ak,al⟩:=trodAll_two p;obtain⟨j,rfl,rfl,rfl,aK⟩:=Go.ChangeMaps.open_string underlying9 (n 0 9 ai J J) ak;have⟨am,an,aL⟩:=KW (n 1 22 v J J) al;exact(Wf j v am d an s).mono ad
def Wi:Rows.TopLinesSaid:=OpenClaim.holds_of_wide 3 Tryz.f3 J J J J J J J ⟨J,J,J,J,J⟩ J J J J J (by as_aux_lemma=>kernel_rfl) func3 topLines_facts (of_decide_eq_true (by as_aux_lemma=>kernel_rfl)) topLines_wrap (λa b c d _=>Wh a b c d)
end
end Go.Proofs.YtdlofedcpibjcaaGreatDoor
