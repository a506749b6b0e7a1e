/- Contracts of the library functions that the walk calls, laid by the shelf. Conditions: as each states. -/
import Derived.Shelf.Strings.OnBuilder
import Derived.Shelf.Small.Wraps
import Derived.Shelf.Strings.BuilderK
import Derived.Shelf.Strings.Shaped
import Derived.Shelf.Sort.Plain
import Derived.Shelf.Strings.SplitShaped
import Derived.Shelf.Bits.Mul64
import Derived.Shelf.Unicode.DecodeSlow
import Derived.Shelf.Slices.In.SortNone
import Derived.Shelf.Slices.Empties
import Derived.Shelf.Slices.Empties2
import Derived.Shelf.SlSortCmp.NoneTotal
import Derived.Test.YtdlofedcpibjcaaGreatDoorProg
import Derived.WalkKit
namespace Go.Proofs.Tryz
open Go.Shelf
set_option maxRecDepth 100000
set_option linter.all false
def K0{a b:Func}(h:a=b:=by kernel_rfl):some a=some b:=congrArg some h
def lays169_ren:Go.Shelf.Ren:=⟨fun|169=>24|n=>n,fun|70=>64|9=>9|0=>0|72=>67|37=>65|127=>99|3=>3|5=>5|n=>n,fun|n=>n⟩
def lays169:Go.Proofs.Lays.n169 prog lays169_ren:=by constructor<;>first|kernel_rfl|intro;kernel_rfl
def Builder_Extra_169:Builder.Extra prog lays169_ren:=by constructor<;>first|kernel_rfl|(intro;kernel_rfl)|decide|(constructor<;>first|kernel_rfl|intro;kernel_rfl)
def lays156_ren:Go.Shelf.Ren:=⟨fun|156=>33|165=>47|166=>21|169=>24|240=>34|241=>73|276=>48|277=>107|n=>n,fun|31=>37|9=>9|3=>3|4=>4|0=>0|20=>20|72=>67|76=>70|70=>64|37=>65|75=>69|127=>99|164=>114|5=>5|80=>75|n=>n,fun|n=>n⟩
def lays156:Go.Proofs.Lays.n156 prog lays156_ren:=by constructor<;>first|kernel_rfl|intro;kernel_rfl
def Builder_Extra_156:Builder.Extra prog lays156_ren:=by constructor<;>first|kernel_rfl|(intro;kernel_rfl)|decide|(constructor<;>first|kernel_rfl|intro;kernel_rfl)
open Go.RowKit in
def strings_Join_none(a:Option Addr)(c:Nat)(sep:ByteArray)(w:World):Calls prog 33 #[.slice a 0 c,.string sep] w fun e w'=>e= .returned (.string ⟨#[]⟩)/\w'=w:=Any.strings_Join_none lays156 Builder_Extra_156 a c sep w
open Go.RowKit in
def strings_Join(bk o c:Nat)(xs:List ByteArray)(sep:ByteArray)(w:World)(hcells:∀(j:Nat) x,xs[j]? =some x->w.cell? ⟨bk,o+j,none⟩=some (.string x))(hbk:bk<w.heap.size)(hN:xs.length<=140737488355328)(hcap:xs.length<=c)(hlen:(Lib.join (xs.map (·.data.toList)) sep.data.toList).length<=140737488355328):Calls prog 33 #[.slice (some ⟨bk,o,none⟩) xs.length c,.string sep] w fun e w'=>e= .returned (.string ⟨(Lib.join (xs.map (·.data.toList)) sep.data.toList).toArray⟩)/\Below w.heap.size w w':=Any.strings_Join lays156 Builder_Extra_156 bk o c xs sep w hcells hbk hN hcap hlen
def lays122_ren:Go.Shelf.Ren:=⟨fun|122=>314|215=>241|n=>n,fun|3=>3|4=>4|n=>n,fun|n=>n⟩
def lays122:Go.Proofs.Lays.n122 prog lays122_ren:=by constructor<;>first|kernel_rfl|intro;kernel_rfl
open Go.RowKit in
def cmp_Compare_int(x y:Int)(w:World):Calls prog 314 #[.int .i64 x,.int .i64 y] w fun e w'=>e= .returned (.int .i64 (Lib.compareInt x y))/\w'=w:=Any.cmp_Compare_int lays122 x y w
open Go.RowKit in
def Builder_String_f(B b:Nat)(l:List UInt8)(w:World)(h:Lib.IsBuilderF 67 5 B b (Lib.byteCells l) w)(h0:l≠[]):Calls prog 24 #[.pointer (some ⟨b,0,none⟩)] w fun e w'=>e= .returned (.string ⟨l.toArray⟩)/\(Lib.IsBuilderF 67 5 B b (Lib.byteCells l) w'/\Below B w w'):=Any.Builder_String_f lays169 Builder_Extra_169 B b l w h h0
def lays145_ren:Go.Shelf.Ren:=⟨fun|145=>74|220=>108|219=>146|217=>181|225=>182|224=>183|267=>184|266=>212|314=>213|n=>n,fun|9=>9|4=>4|59=>139|3=>3|5=>5|46=>196|146=>254|51=>253|n=>n,fun|1=>0|n=>n⟩
def lays145:Go.Proofs.Lays.n145 prog lays145_ren:=by constructor<;>first|kernel_rfl|intro;kernel_rfl
open Go.RowKit Go.Lib in
def strings_Cut(s sep:ByteArray)(m:Int)(w:World)(hs:s.size<4294967281)(hm:w.cell? ⟨0,0,none⟩=some (.int .i64 m)):Calls prog 74 #[.string s,.string sep] w fun e w'=>e= .returned (.tuple #[.string ⟨(Lib.cut s.data.toList sep.data.toList).1.toArray⟩,.string ⟨(Lib.cut s.data.toList sep.data.toList).2.1.toArray⟩,.bool (Lib.cut s.data.toList sep.data.toList).2.2])/\∃n,w'=w.drewN n:=Any.strings_Cut lays145 s sep m w hs hm
def lays189_ren:Go.Shelf.Ren:=⟨fun|189=>139|125=>179|257=>178|128=>210|129=>211|294=>201|295=>202|296=>203|297=>204|298=>205|299=>206|216=>207|300=>208|301=>209|328=>236|329=>237|330=>238|331=>239|332=>240|215=>241|343=>268|n=>n,fun|28=>22|3=>3|46=>196|0=>0|51=>253|53=>59|4=>4|183=>268|182=>267|131=>57|5=>5|9=>9|218=>302|222=>305|228=>339|229=>176|n=>n,fun|n=>n⟩
def lays189:Go.Proofs.Lays.n189 prog lays189_ren:=by constructor<;>first|kernel_rfl|intro;kernel_rfl
open Go.Sort Go.RowKit in
def slices_Sort_int(blk off cap:Nat)(zs:List Int)(w:World)(hH:Holds (Value.int .i64) w blk off zs.toArray)(hblk:blk<w.heap.size)(hsz:zs.length<4611686018427387904):Calls prog 139 #[.slice (some ⟨blk,off,none⟩) zs.length cap] w fun e w'=>e= .returned (.tuple #[])/\∃n os,w'=grow (putRow (Value.int .i64) (Sort.ahead w n) blk off (zs.mergeSort fun x y=>decide (x<=y)).toArray) os:=Any.slices_Sort_int lays189 blk off cap zs w hH hblk hsz
def lays146_ren:Go.Shelf.Ren:=⟨fun|146=>75|221=>109|268=>147|138=>148|143=>149|195=>185|197=>186|218=>187|219=>146|260=>214|217=>181|225=>182|224=>183|267=>184|266=>212|314=>213|n=>n,fun|9=>9|31=>37|3=>3|4=>4|0=>0|105=>250|21=>21|5=>5|46=>196|119=>307|139=>310|138=>309|146=>254|51=>253|n=>n,fun|1=>0|3=>1|4=>2|n=>n⟩
def lays146:Go.Proofs.Lays.n146 prog lays146_ren:=by constructor<;>first|kernel_rfl|intro;kernel_rfl
open Go.RowKit Go.Lib in
def strings_Split(s sep:ByteArray)(m:Int)(w:World)(hs:s.size<4294967281)(hm:w.cell? ⟨0,0,none⟩=some (.int .i64 m))(h1:1<=sep.size):Calls prog 75 #[.string s,.string sep] w fun e w'=>e= .returned (.slice (some ⟨w.heap.size,0,none⟩) (Lib.countB s sep+1) (Lib.countB s sep+1))/\w'=w.alloc (.cells ((Lib.splitB sep 0 (Lib.countB s sep) s).map Value.string).toArray 9):=Any.strings_Split lays146 (by kernel_rfl) s sep m w hs hm h1
def lays193_ren:Go.Shelf.Ren:=⟨fun|193=>77|n=>n,fun|31=>37|9=>9|4=>4|3=>3|0=>0|n=>n,fun|n=>n⟩
def lays193:Go.Proofs.Lays.n193 prog lays193_ren:=by constructor<;>first|kernel_rfl|intro;kernel_rfl
open Go.RowKit Go.Lib in
def slices_Equal_string(b1 o1 n c b2 o2 m d:Nat)(xs ys:List ByteArray)(w:World)(hx:n<=xs.length)(hy:m<=ys.length)(hbig:n<=9223372036854775807)(hbig2:m<=9223372036854775807)(hc1:∀j,j<xs.length->w.cell? ⟨b1,o1+j,none⟩=some (.string (xs.getD j ByteArray.empty)))(hc2:∀j,j<ys.length->w.cell? ⟨b2,o2+j,none⟩=some (.string (ys.getD j ByteArray.empty))):Calls prog 77 #[.slice (some ⟨b1,o1,none⟩) n c,.slice (some ⟨b2,o2,none⟩) m d] w fun e w'=>e= .returned (.bool (decide (xs.take n=ys.take m)))/\∃q,w'=w.drewN q:=Any.slices_Equal_string lays193 b1 o1 n c b2 o2 m d xs ys w hx hy hbig hbig2 hc1 hc2
open Go.RowKit Go.Lib in
def slices_Equal_string_empty(a1 a2:Option Addr)(c m d:Nat)(w:World)(hbig2:m<=9223372036854775807):Calls prog 77 #[.slice a1 0 c,.slice a2 m d] w fun e w'=>e= .returned (.bool (decide (m=0)))/\w'=w:=Any.slices_Equal_string_empty lays193 a1 a2 c m d w hbig2
def laysNm225_ren:Go.Shelf.Ren:=⟨fun|25=>291|31=>207|32=>309|37=>241|n=>n,fun|22=>22|3=>3|4=>4|40=>196|0=>0|n=>n,fun|n=>n⟩
def laysNm225:Go.Proofs.Lays2.n25 prog laysNm225_ren:=by constructor<;>first|kernel_rfl|intro;kernel_rfl
open Go.RowKit Go.Lib in
def slices_BinarySearch_int(b off n c:Nat)(zs:List Int)(x:Int)(w:World)(hz:n<=zs.length)(hbig:n<4611686018427387904)(hc:∀j,j<zs.length->w.cell? ⟨b,off+j,none⟩=some (.int .i64 (zs.getD j 0)))(hs:(zs.take n).Pairwise (·<=·)):Calls prog 291 #[.slice (some ⟨b,off,none⟩) n c,.int .i64 x] w fun e w'=>e= .returned (.tuple #[.int .i64 ((zs.take n).countP (·<x):Nat),.bool ((zs.take n).contains x)])/\∃q,w'=w.drewN q:=Any.slices_BinarySearch_int laysNm225 b off n c zs x w hz hbig hc hs
open Go.RowKit Go.Sort in
def slices_Sort_int_none(p:Option Addr)(cap:Nat)(w:World):Calls prog 139 #[.slice p 0 cap] w fun e w'=>e= .returned (.tuple #[])/\w'=w:=Any.slices_Sort_int_none lays189 p cap w
open Go.RowKit Go.Lib in
def slices_BinarySearch_int_empty(a:Option Addr)(c:Nat)(x:Int)(w:World):Calls prog 291 #[.slice a 0 c,.int .i64 x] w fun e w'=>e= .returned (.tuple #[.int .i64 0,.bool false])/\w'=w:=Any.slices_BinarySearch_int_empty laysNm225 a c x w
open Go.RowKit Go.Lib in
def slices_Equal_string_lens(a1 a2:Option Addr)(n c m d:Nat)(w:World)(hnm:n≠m):Calls prog 77 #[.slice a1 n c,.slice a2 m d] w fun e w'=>e= .returned (.bool false)/\w'=w:=Any.slices_Equal_string_lens lays193 a1 a2 n c m d w hnm
def laysSlF6_f311_ren:Go.Shelf.Ren:=⟨fun|6=>311|15=>179|14=>317|28=>210|29=>211|20=>319|21=>320|22=>321|23=>322|24=>323|25=>324|26=>325|27=>326|46=>327|47=>237|48=>238|49=>328|50=>329|57=>330|n=>n,fun|22=>22|24=>3|25=>162|3=>3|39=>196|0=>0|53=>253|55=>59|4=>4|46=>268|45=>267|50=>57|5=>5|9=>9|66=>302|70=>305|76=>339|77=>176|n=>n,fun|n=>n⟩
def laysSlF6_f311:Go.Proofs.SlLaysF.n6 prog laysSlF6_f311_ren:={mixed:=by kernel_rfl,f6:=⟨f311.name,by decide,func311.trans K0⟩,f14:=⟨f317.name,by decide,func317.trans K0⟩,f15:=func179.trans K0,f20:=⟨f319.name,by decide,func319.trans K0⟩,f21:=⟨f320.name,by decide,func320.trans K0⟩,f22:=⟨f321.name,by decide,func321.trans K0⟩,f23:=⟨f322.name,by decide,func322.trans K0⟩,f24:=⟨f323.name,by decide,func323.trans K0⟩,f25:=⟨f324.name,by decide,func324.trans K0⟩,f26:=⟨f325.name,by decide,func325.trans K0⟩,f27:=⟨f326.name,by decide,func326.trans K0⟩,f28:=func210.trans K0,f29:=func211.trans K0,f46:=⟨f327.name,by decide,func327.trans K0⟩,f47:=func237.trans K0,f48:=func238.trans K0,f49:=⟨f328.name,by decide,func328.trans K0⟩,f50:=⟨f329.name,by decide,func329.trans K0⟩,f57:=⟨f330.name,by decide,func330.trans K0⟩,t0:=underlying0,a0:=isAgg0,z0:=sizeOf0,v0:=zeroValue0,t3:=underlying3,a3:=isAgg3,z3:=sizeOf3,v3:=zeroValue3,t4:=underlying4,a4:=isAgg4,z4:=sizeOf4,v4:=zeroValue4,t5:=underlying5,a5:=isAgg5,z5:=sizeOf5,v5:=zeroValue5,t9:=underlying9,a9:=isAgg9,z9:=sizeOf9,v9:=zeroValue9,t22:=underlying22,a22:=isAgg22,z22:=sizeOf22,v22:=zeroValue22,a24:=isAgg3,z24:=sizeOf3,t25:=underlying162,a25:=isAgg162,z25:=sizeOf162,v25:=zeroValue162,t39:=underlying196,a39:=isAgg196,z39:=sizeOf196,v39:=zeroValue196,t45:=underlying267,a45:=isAgg267,z45:=sizeOf267,v45:=zeroValue267,t46:=underlying268,a46:=isAgg268,z46:=sizeOf268,v46:=zeroValue268,t50:=underlying57,a50:=isAgg57,z50:=sizeOf57,v50:=zeroValue57,t53:=underlying253,a53:=isAgg253,z53:=sizeOf253,v53:=zeroValue253,t55:=underlying59,a55:=isAgg59,z55:=sizeOf59,v55:=zeroValue59,t66:=underlying302,a66:=isAgg302,z66:=sizeOf302,v66:=zeroValue302,t70:=underlying305,a70:=isAgg305,z70:=sizeOf305,v70:=zeroValue305,t76:=underlying339,a76:=isAgg339,z76:=sizeOf339,v76:=zeroValue339,t77:=underlying176,a77:=isAgg176,z77:=sizeOf176,v77:=zeroValue176}
def laysSlF06_f311_ren:Go.Shelf.Ren:=⟨fun|6=>311|15=>179|14=>317|28=>210|29=>211|20=>319|21=>320|22=>321|23=>322|24=>323|25=>324|26=>325|27=>326|46=>327|47=>237|48=>238|49=>328|50=>329|57=>330|n=>n,fun|22=>22|24=>3|25=>162|3=>3|39=>196|0=>0|53=>253|55=>59|4=>4|46=>268|45=>267|50=>57|5=>5|9=>9|66=>302|70=>305|76=>339|77=>176|n=>n,fun|n=>n⟩
def laysSlF06_f311:Go.Proofs.SlLaysF0.n6 prog laysSlF06_f311_ren:={mixed:=by kernel_rfl,f6:=⟨f311.name,by decide,func311.trans K0⟩,f14:=⟨f317.name,by decide,func317.trans K0⟩,f15:=func179.trans K0,f20:=⟨f319.name,by decide,func319.trans K0⟩,f21:=⟨f320.name,by decide,func320.trans K0⟩,f22:=⟨f321.name,by decide,func321.trans K0⟩,f23:=⟨f322.name,by decide,func322.trans K0⟩,f24:=⟨f323.name,by decide,func323.trans K0⟩,f25:=⟨f324.name,by decide,func324.trans K0⟩,f26:=⟨f325.name,by decide,func325.trans K0⟩,f27:=⟨f326.name,by decide,func326.trans K0⟩,f28:=func210.trans K0,f29:=func211.trans K0,f46:=⟨f327.name,by decide,func327.trans K0⟩,f47:=func237.trans K0,f48:=func238.trans K0,f49:=⟨f328.name,by decide,func328.trans K0⟩,f50:=⟨f329.name,by decide,func329.trans K0⟩,f57:=⟨f330.name,by decide,func330.trans K0⟩,t0:=underlying0,a0:=isAgg0,z0:=sizeOf0,v0:=zeroValue0,t3:=underlying3,a3:=isAgg3,z3:=sizeOf3,v3:=zeroValue3,t4:=underlying4,a4:=isAgg4,z4:=sizeOf4,v4:=zeroValue4,t5:=underlying5,a5:=isAgg5,z5:=sizeOf5,v5:=zeroValue5,t9:=underlying9,a9:=isAgg9,z9:=sizeOf9,v9:=zeroValue9,t22:=underlying22,a22:=isAgg22,z22:=sizeOf22,v22:=zeroValue22,t25:=underlying162,a25:=isAgg162,z25:=sizeOf162,v25:=zeroValue162,t39:=underlying196,a39:=isAgg196,z39:=sizeOf196,v39:=zeroValue196,t45:=underlying267,a45:=isAgg267,z45:=sizeOf267,v45:=zeroValue267,t46:=underlying268,a46:=isAgg268,z46:=sizeOf268,v46:=zeroValue268,t50:=underlying57,a50:=isAgg57,z50:=sizeOf57,v50:=zeroValue57,t53:=underlying253,a53:=isAgg253,z53:=sizeOf253,v53:=zeroValue253,t55:=underlying59,a55:=isAgg59,z55:=sizeOf59,v55:=zeroValue59,t66:=underlying302,a66:=isAgg302,z66:=sizeOf302,v66:=zeroValue302,t70:=underlying305,a70:=isAgg305,z70:=sizeOf305,v70:=zeroValue305,t76:=underlying339,a76:=isAgg339,z76:=sizeOf339,v76:=zeroValue339,t77:=underlying176,a77:=isAgg176,z77:=sizeOf176,v77:=zeroValue176}
open Go.RowKit Go.Lib Go.Sort in
def slices_SortFunc_none{α:Type}[Inhabited α](p:Option Addr)(cap:Nat)(fv:Value)(w:World):Calls prog 311 #[.slice p 0 cap,fv] w fun e w'=>e= .returned (.tuple #[])/\w'=w:=AnyF.slices_SortFunc_none laysSlF06_f311 p cap fv w
open Go.RowKit Go.Lib Go.Sort in
def slices_SortFunc_total{α:Type}[Inhabited α](enc:α->Value)(h1:OneCell enc)(cf:α->α->Int)(hO:SWO (ltOf cf))(g:Nat)(cb:Array Value)(blk off cap:Nat)(d:Array α)(w:World)(eg:∀args w,(callFunc g args).run prog w= .ok (.enter g args) w)(hcmp:CmpLays1 prog g cb enc cf blk off d.size w)(hH:Holds enc w blk off d)(hblk:blk<w.heap.size)(hsz:d.size<4611686018427387904)(hT:∀x y,(ltOf cf) x y=false->(ltOf cf) y x=false->x=y):Calls prog 311 #[.slice (some ⟨blk,off,none⟩) d.size cap,.func (.func g) #[] cb] w fun e w'=>e= .returned (.tuple #[])/\∃n os,w'=sortWorld enc w blk off n (d.toList.mergeSort fun x y=> !(ltOf cf) y x).toArray os:=Any.slices_SortFunc_total laysSlF6_f311 enc h1 cf hO g cb blk off cap d w eg hcmp hH hblk hsz hT
end Go.Proofs.Tryz
