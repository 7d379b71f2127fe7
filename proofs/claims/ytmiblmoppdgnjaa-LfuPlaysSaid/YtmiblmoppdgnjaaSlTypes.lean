/- What the program says of its types and functions. -/
import Derived.Test.YtmiblmoppdgnjaaSlM
import Derived.Test.YtmiblmoppdgnjaaRows
namespace Go.Proofs.Ytmiblmoppdgnjaa
open Go.Sl
instance ul1 : UL Try.prog 1 (.func #[] #[] false) := ⟨Try.underlying1⟩
instance ti1 : TI Try.prog 1 (.nilFunc) 1 8 := ⟨by kernel_rfl⟩
instance na1 : NAgg Try.prog 1 := ⟨fun _ => by kernel_rfl⟩
instance ul2 : UL Try.prog 2 (.int .i64) := ⟨Try.underlying2⟩
instance ti2 : TI Try.prog 2 (.int .i64 0) 1 8 := ⟨by kernel_rfl⟩
instance na2 : NAgg Try.prog 2 := ⟨fun _ => by kernel_rfl⟩
instance ul3 : UL Try.prog 3 (.int .i64) := ⟨Try.underlying3⟩
instance ti3 : TI Try.prog 3 (.int .i64 0) 1 8 := ⟨by kernel_rfl⟩
instance na3 : NAgg Try.prog 3 := ⟨fun _ => by kernel_rfl⟩
instance ul4 : UL Try.prog 4 (.bool) := ⟨Try.underlying4⟩
instance ti4 : TI Try.prog 4 (.bool false) 1 1 := ⟨by kernel_rfl⟩
instance na4 : NAgg Try.prog 4 := ⟨fun _ => by kernel_rfl⟩
instance ul5 : UL Try.prog 5 (.int .u8) := ⟨Try.underlying5⟩
instance ti5 : TI Try.prog 5 (.int .u8 0) 1 1 := ⟨by kernel_rfl⟩
instance na5 : NAgg Try.prog 5 := ⟨fun _ => by kernel_rfl⟩
instance ul9 : UL Try.prog 9 (.string) := ⟨Try.underlying9⟩
instance ti9 : TI Try.prog 9 (.string ByteArray.empty) 1 16 := ⟨by kernel_rfl⟩
instance na9 : NAgg Try.prog 9 := ⟨fun _ => by kernel_rfl⟩
instance ul12 : UL Try.prog 12 (.int .u64) := ⟨Try.underlying12⟩
instance ti12 : TI Try.prog 12 (.int .u64 0) 1 8 := ⟨by kernel_rfl⟩
instance na12 : NAgg Try.prog 12 := ⟨fun _ => by kernel_rfl⟩
instance ti20 : TI Try.prog 20 (.nilIface) 1 16 := ⟨by kernel_rfl⟩
instance na20 : NAgg Try.prog 20 := ⟨fun _ => by kernel_rfl⟩
instance ul21 : UL Try.prog 21 (.int .i32) := ⟨Try.underlying21⟩
instance ti21 : TI Try.prog 21 (.int .i32 0) 1 4 := ⟨by kernel_rfl⟩
instance na21 : NAgg Try.prog 21 := ⟨fun _ => by kernel_rfl⟩
instance ul22 : UL Try.prog 22 (.func #[] #[4] false) := ⟨Try.underlying22⟩
instance ti22 : TI Try.prog 22 (.nilFunc) 1 8 := ⟨by kernel_rfl⟩
instance na22 : NAgg Try.prog 22 := ⟨fun _ => by kernel_rfl⟩
instance ul23 : UL Try.prog 23 (.pointer 57) := ⟨Try.underlying23⟩
instance ti23 : TI Try.prog 23 (.pointer none) 1 8 := ⟨by kernel_rfl⟩
instance na23 : NAgg Try.prog 23 := ⟨fun _ => by kernel_rfl⟩
instance ul24 : UL Try.prog 24 (.int .i64) := ⟨Try.underlying24⟩
instance ti24 : TI Try.prog 24 (.int .i64 0) 1 8 := ⟨by kernel_rfl⟩
instance na24 : NAgg Try.prog 24 := ⟨fun _ => by kernel_rfl⟩
instance ul26 : UL Try.prog 26 (.func #[3, 3] #[23, 24] false) := ⟨Try.underlying26⟩
instance ti26 : TI Try.prog 26 (.nilFunc) 1 8 := ⟨by kernel_rfl⟩
instance na26 : NAgg Try.prog 26 := ⟨fun _ => by kernel_rfl⟩
instance ul27 : UL Try.prog 27 (.func #[23, 28, 30] #[4] false) := ⟨Try.underlying27⟩
instance ti27 : TI Try.prog 27 (.nilFunc) 1 8 := ⟨by kernel_rfl⟩
instance na27 : NAgg Try.prog 27 := ⟨fun _ => by kernel_rfl⟩
instance ul28 : UL Try.prog 28 (.int .u32) := ⟨Try.underlying28⟩
instance ti28 : TI Try.prog 28 (.int .u32 0) 1 4 := ⟨by kernel_rfl⟩
instance na28 : NAgg Try.prog 28 := ⟨fun _ => by kernel_rfl⟩
instance ti29 : TI Try.prog 29 (.agg #[.bool false, .bool false, .int .u32 0]) 3 8 := ⟨by kernel_rfl⟩
instance ia29 : IAgg Try.prog 29 3 := ⟨fun _ => ⟨by kernel_rfl, by kernel_rfl⟩⟩
instance fa29_0 : FA Try.prog 29 0 0 := ⟨fun _ _ => by kernel_rfl⟩
instance fd29_0 : FD Try.prog 29 0 0 := fd_mk (ft := 4) Try.underlying29 rfl
instance fa29_1 : FA Try.prog 29 1 1 := ⟨fun _ _ => by kernel_rfl⟩
instance fd29_1 : FD Try.prog 29 1 1 := fd_mk (ft := 4) Try.underlying29 rfl
instance fa29_2 : FA Try.prog 29 2 2 := ⟨fun _ _ => by kernel_rfl⟩
instance fd29_2 : FD Try.prog 29 2 2 := fd_mk (ft := 28) Try.underlying29 rfl
instance bl29 : BL Try.prog 29 [(0, 1), (1, 1), (2, 1)] [.bool false, .bool false, .int .u32 0] := bl_mk Try.underlying29 (fun _ => by kernel_rfl)
instance ti30 : TI Try.prog 30 (.agg #[.bool false, .bool false, .int .u32 0]) 3 8 := ⟨by kernel_rfl⟩
instance ia30 : IAgg Try.prog 30 3 := ⟨fun _ => ⟨by kernel_rfl, by kernel_rfl⟩⟩
instance fa30_0 : FA Try.prog 30 0 0 := ⟨fun _ _ => by kernel_rfl⟩
instance fd30_0 : FD Try.prog 30 0 0 := fd_mk (ft := 4) Try.underlying30 rfl
instance fa30_1 : FA Try.prog 30 1 1 := ⟨fun _ _ => by kernel_rfl⟩
instance fd30_1 : FD Try.prog 30 1 1 := fd_mk (ft := 4) Try.underlying30 rfl
instance fa30_2 : FA Try.prog 30 2 2 := ⟨fun _ _ => by kernel_rfl⟩
instance fd30_2 : FD Try.prog 30 2 2 := fd_mk (ft := 28) Try.underlying30 rfl
instance bl30 : BL Try.prog 30 [(0, 1), (1, 1), (2, 1)] [.bool false, .bool false, .int .u32 0] := bl_mk Try.underlying30 (fun _ => by kernel_rfl)
instance ul31 : UL Try.prog 31 (.func #[28] #[3] false) := ⟨Try.underlying31⟩
instance ti31 : TI Try.prog 31 (.nilFunc) 1 8 := ⟨by kernel_rfl⟩
instance na31 : NAgg Try.prog 31 := ⟨fun _ => by kernel_rfl⟩
instance ul32 : UL Try.prog 32 (.func #[3, 5] #[4] false) := ⟨Try.underlying32⟩
instance ti32 : TI Try.prog 32 (.nilFunc) 1 8 := ⟨by kernel_rfl⟩
instance na32 : NAgg Try.prog 32 := ⟨fun _ => by kernel_rfl⟩
instance ul33 : UL Try.prog 33 (.slice 36) := ⟨Try.underlying33⟩
instance ti33 : TI Try.prog 33 (.slice none 0 0) 1 24 := ⟨by kernel_rfl⟩
instance na33 : NAgg Try.prog 33 := ⟨fun _ => by kernel_rfl⟩
instance mt34 : MTyA Try.prog 34 Int .u32 (fun z : Int => .int .i64 z) := ⟨trivial⟩
instance ul34 : UL Try.prog 34 (.map 28 3) := ⟨Try.underlying34⟩
instance ti34 : TI Try.prog 34 (.map none) 1 8 := ⟨by kernel_rfl⟩
instance na34 : NAgg Try.prog 34 := ⟨fun _ => by kernel_rfl⟩
instance ti35 : TI Try.prog 35 (.agg #[.int .i64 0, .int .u32 0]) 2 16 := ⟨by kernel_rfl⟩
instance ia35 : IAgg Try.prog 35 2 := ⟨fun _ => ⟨by kernel_rfl, by kernel_rfl⟩⟩
instance fa35_0 : FA Try.prog 35 0 0 := ⟨fun _ _ => by kernel_rfl⟩
instance fd35_0 : FD Try.prog 35 0 0 := fd_mk (ft := 3) Try.underlying35 rfl
instance fa35_1 : FA Try.prog 35 1 1 := ⟨fun _ _ => by kernel_rfl⟩
instance fd35_1 : FD Try.prog 35 1 1 := fd_mk (ft := 28) Try.underlying35 rfl
instance bl35 : BL Try.prog 35 [(0, 1), (1, 1)] [.int .i64 0, .int .u32 0] := bl_mk Try.underlying35 (fun _ => by kernel_rfl)
instance ti36 : TI Try.prog 36 (.agg #[.int .i64 0, .int .u32 0]) 2 16 := ⟨by kernel_rfl⟩
instance ia36 : IAgg Try.prog 36 2 := ⟨fun _ => ⟨by kernel_rfl, by kernel_rfl⟩⟩
instance fa36_0 : FA Try.prog 36 0 0 := ⟨fun _ _ => by kernel_rfl⟩
instance fd36_0 : FD Try.prog 36 0 0 := fd_mk (ft := 3) Try.underlying36 rfl
instance fa36_1 : FA Try.prog 36 1 1 := ⟨fun _ _ => by kernel_rfl⟩
instance fd36_1 : FD Try.prog 36 1 1 := fd_mk (ft := 28) Try.underlying36 rfl
instance bl36 : BL Try.prog 36 [(0, 1), (1, 1)] [.int .i64 0, .int .u32 0] := bl_mk Try.underlying36 (fun _ => by kernel_rfl)
instance ul38 : UL Try.prog 38 (.func #[28] #[30, 24] false) := ⟨Try.underlying38⟩
instance ti38 : TI Try.prog 38 (.nilFunc) 1 8 := ⟨by kernel_rfl⟩
instance na38 : NAgg Try.prog 38 := ⟨fun _ => by kernel_rfl⟩
instance ul40 : UL Try.prog 40 (.func #[28] #[4, 24] false) := ⟨Try.underlying40⟩
instance ti40 : TI Try.prog 40 (.nilFunc) 1 8 := ⟨by kernel_rfl⟩
instance na40 : NAgg Try.prog 40 := ⟨fun _ => by kernel_rfl⟩
instance ul41 : UL Try.prog 41 (.slice 28) := ⟨Try.underlying41⟩
instance ti41 : TI Try.prog 41 (.slice none 0 0) 1 24 := ⟨by kernel_rfl⟩
instance na41 : NAgg Try.prog 41 := ⟨fun _ => by kernel_rfl⟩
instance ul42 : UL Try.prog 42 (.func #[] #[41] false) := ⟨Try.underlying42⟩
instance ti42 : TI Try.prog 42 (.nilFunc) 1 8 := ⟨by kernel_rfl⟩
instance na42 : NAgg Try.prog 42 := ⟨fun _ => by kernel_rfl⟩
instance ul43 : UL Try.prog 43 (.func #[] #[3] false) := ⟨Try.underlying43⟩
instance ti43 : TI Try.prog 43 (.nilFunc) 1 8 := ⟨by kernel_rfl⟩
instance na43 : NAgg Try.prog 43 := ⟨fun _ => by kernel_rfl⟩
instance ul44 : UL Try.prog 44 (.func #[28] #[4] false) := ⟨Try.underlying44⟩
instance ti44 : TI Try.prog 44 (.nilFunc) 1 8 := ⟨by kernel_rfl⟩
instance na44 : NAgg Try.prog 44 := ⟨fun _ => by kernel_rfl⟩
instance ul45 : UL Try.prog 45 (.func #[3, 3, 33] #[4] false) := ⟨Try.underlying45⟩
instance ti45 : TI Try.prog 45 (.nilFunc) 1 8 := ⟨by kernel_rfl⟩
instance na45 : NAgg Try.prog 45 := ⟨fun _ => by kernel_rfl⟩
instance ul46 : UL Try.prog 46 (.slice 73) := ⟨Try.underlying46⟩
instance ti46 : TI Try.prog 46 (.slice none 0 0) 1 24 := ⟨by kernel_rfl⟩
instance na46 : NAgg Try.prog 46 := ⟨fun _ => by kernel_rfl⟩
instance ti47 : TI Try.prog 47 (.agg #[.int .i64 0, .int .i64 0, .int .i64 0, .slice none 0 0]) 4 48 := ⟨by kernel_rfl⟩
instance ia47 : IAgg Try.prog 47 4 := ⟨fun _ => ⟨by kernel_rfl, by kernel_rfl⟩⟩
instance fa47_0 : FA Try.prog 47 0 0 := ⟨fun _ _ => by kernel_rfl⟩
instance fd47_0 : FD Try.prog 47 0 0 := fd_mk (ft := 3) Try.underlying47 rfl
instance fa47_1 : FA Try.prog 47 1 1 := ⟨fun _ _ => by kernel_rfl⟩
instance fd47_1 : FD Try.prog 47 1 1 := fd_mk (ft := 3) Try.underlying47 rfl
instance fa47_2 : FA Try.prog 47 2 2 := ⟨fun _ _ => by kernel_rfl⟩
instance fd47_2 : FD Try.prog 47 2 2 := fd_mk (ft := 3) Try.underlying47 rfl
instance fa47_3 : FA Try.prog 47 3 3 := ⟨fun _ _ => by kernel_rfl⟩
instance fd47_3 : FD Try.prog 47 3 3 := fd_mk (ft := 46) Try.underlying47 rfl
instance bl47 : BL Try.prog 47 [(0, 1), (1, 1), (2, 1), (3, 1)] [.int .i64 0, .int .i64 0, .int .i64 0, .slice none 0 0] := bl_mk Try.underlying47 (fun _ => by kernel_rfl)
instance ti48 : TI Try.prog 48 (.agg #[.int .i64 0, .int .i64 0, .int .i64 0, .slice none 0 0]) 4 48 := ⟨by kernel_rfl⟩
instance ia48 : IAgg Try.prog 48 4 := ⟨fun _ => ⟨by kernel_rfl, by kernel_rfl⟩⟩
instance fa48_0 : FA Try.prog 48 0 0 := ⟨fun _ _ => by kernel_rfl⟩
instance fd48_0 : FD Try.prog 48 0 0 := fd_mk (ft := 3) Try.underlying48 rfl
instance fa48_1 : FA Try.prog 48 1 1 := ⟨fun _ _ => by kernel_rfl⟩
instance fd48_1 : FD Try.prog 48 1 1 := fd_mk (ft := 3) Try.underlying48 rfl
instance fa48_2 : FA Try.prog 48 2 2 := ⟨fun _ _ => by kernel_rfl⟩
instance fd48_2 : FD Try.prog 48 2 2 := fd_mk (ft := 3) Try.underlying48 rfl
instance fa48_3 : FA Try.prog 48 3 3 := ⟨fun _ _ => by kernel_rfl⟩
instance fd48_3 : FD Try.prog 48 3 3 := fd_mk (ft := 46) Try.underlying48 rfl
instance bl48 : BL Try.prog 48 [(0, 1), (1, 1), (2, 1), (3, 1)] [.int .i64 0, .int .i64 0, .int .i64 0, .slice none 0 0] := bl_mk Try.underlying48 (fun _ => by kernel_rfl)
instance ul50 : UL Try.prog 50 (.func #[3, 3] #[48, 3] false) := ⟨Try.underlying50⟩
instance ti50 : TI Try.prog 50 (.nilFunc) 1 8 := ⟨by kernel_rfl⟩
instance na50 : NAgg Try.prog 50 := ⟨fun _ => by kernel_rfl⟩
instance ul51 : UL Try.prog 51 (.func #[23, 48, 28] #[4] false) := ⟨Try.underlying51⟩
instance ti51 : TI Try.prog 51 (.nilFunc) 1 8 := ⟨by kernel_rfl⟩
instance na51 : NAgg Try.prog 51 := ⟨fun _ => by kernel_rfl⟩
instance ul52 : UL Try.prog 52 (.func #[3, 3] #[4] false) := ⟨Try.underlying52⟩
instance ti52 : TI Try.prog 52 (.nilFunc) 1 8 := ⟨by kernel_rfl⟩
instance na52 : NAgg Try.prog 52 := ⟨fun _ => by kernel_rfl⟩
instance ul53 : UL Try.prog 53 (.func #[23, 48, 33] #[4] false) := ⟨Try.underlying53⟩
instance ti53 : TI Try.prog 53 (.nilFunc) 1 8 := ⟨by kernel_rfl⟩
instance na53 : NAgg Try.prog 53 := ⟨fun _ => by kernel_rfl⟩
instance ul54 : UL Try.prog 54 (.pointer 84) := ⟨Try.underlying54⟩
instance ti54 : TI Try.prog 54 (.pointer none) 1 8 := ⟨by kernel_rfl⟩
instance na54 : NAgg Try.prog 54 := ⟨fun _ => by kernel_rfl⟩
instance mt55 : MTyA Try.prog 55 Nat .u32 (fun n : Nat => .int .u32 (n : Nat)) := ⟨trivial⟩
instance ul55 : UL Try.prog 55 (.map 28 28) := ⟨Try.underlying55⟩
instance ti55 : TI Try.prog 55 (.map none) 1 8 := ⟨by kernel_rfl⟩
instance na55 : NAgg Try.prog 55 := ⟨fun _ => by kernel_rfl⟩
instance ti56 : TI Try.prog 56 (.agg #[.int .i64 0, .int .i64 0, .int .i64 0, .pointer none, .slice none 0 0, .map none]) 6 64 := ⟨by kernel_rfl⟩
instance ia56 : IAgg Try.prog 56 6 := ⟨fun _ => ⟨by kernel_rfl, by kernel_rfl⟩⟩
instance fa56_0 : FA Try.prog 56 0 0 := ⟨fun _ _ => by kernel_rfl⟩
instance fd56_0 : FD Try.prog 56 0 0 := fd_mk (ft := 3) Try.underlying56 rfl
instance fa56_1 : FA Try.prog 56 1 1 := ⟨fun _ _ => by kernel_rfl⟩
instance fd56_1 : FD Try.prog 56 1 1 := fd_mk (ft := 3) Try.underlying56 rfl
instance fa56_2 : FA Try.prog 56 2 2 := ⟨fun _ _ => by kernel_rfl⟩
instance fd56_2 : FD Try.prog 56 2 2 := fd_mk (ft := 3) Try.underlying56 rfl
instance fa56_3 : FA Try.prog 56 3 3 := ⟨fun _ _ => by kernel_rfl⟩
instance fd56_3 : FD Try.prog 56 3 3 := fd_mk (ft := 54) Try.underlying56 rfl
instance fa56_4 : FA Try.prog 56 4 4 := ⟨fun _ _ => by kernel_rfl⟩
instance fd56_4 : FD Try.prog 56 4 4 := fd_mk (ft := 41) Try.underlying56 rfl
instance fa56_5 : FA Try.prog 56 5 5 := ⟨fun _ _ => by kernel_rfl⟩
instance fd56_5 : FD Try.prog 56 5 5 := fd_mk (ft := 55) Try.underlying56 rfl
instance bl56 : BL Try.prog 56 [(0, 1), (1, 1), (2, 1), (3, 1), (4, 1), (5, 1)] [.int .i64 0, .int .i64 0, .int .i64 0, .pointer none, .slice none 0 0, .map none] := bl_mk Try.underlying56 (fun _ => by kernel_rfl)
instance ti57 : TI Try.prog 57 (.agg #[.int .i64 0, .int .i64 0, .int .i64 0, .pointer none, .slice none 0 0, .map none]) 6 64 := ⟨by kernel_rfl⟩
instance ia57 : IAgg Try.prog 57 6 := ⟨fun _ => ⟨by kernel_rfl, by kernel_rfl⟩⟩
instance fa57_0 : FA Try.prog 57 0 0 := ⟨fun _ _ => by kernel_rfl⟩
instance fd57_0 : FD Try.prog 57 0 0 := fd_mk (ft := 3) Try.underlying57 rfl
instance fa57_1 : FA Try.prog 57 1 1 := ⟨fun _ _ => by kernel_rfl⟩
instance fd57_1 : FD Try.prog 57 1 1 := fd_mk (ft := 3) Try.underlying57 rfl
instance fa57_2 : FA Try.prog 57 2 2 := ⟨fun _ _ => by kernel_rfl⟩
instance fd57_2 : FD Try.prog 57 2 2 := fd_mk (ft := 3) Try.underlying57 rfl
instance fa57_3 : FA Try.prog 57 3 3 := ⟨fun _ _ => by kernel_rfl⟩
instance fd57_3 : FD Try.prog 57 3 3 := fd_mk (ft := 54) Try.underlying57 rfl
instance fa57_4 : FA Try.prog 57 4 4 := ⟨fun _ _ => by kernel_rfl⟩
instance fd57_4 : FD Try.prog 57 4 4 := fd_mk (ft := 41) Try.underlying57 rfl
instance fa57_5 : FA Try.prog 57 5 5 := ⟨fun _ _ => by kernel_rfl⟩
instance fd57_5 : FD Try.prog 57 5 5 := fd_mk (ft := 55) Try.underlying57 rfl
instance bl57 : BL Try.prog 57 [(0, 1), (1, 1), (2, 1), (3, 1), (4, 1), (5, 1)] [.int .i64 0, .int .i64 0, .int .i64 0, .pointer none, .slice none 0 0, .map none] := bl_mk Try.underlying57 (fun _ => by kernel_rfl)
instance ul58 : UL Try.prog 58 (.slice 23) := ⟨Try.underlying58⟩
instance ti58 : TI Try.prog 58 (.slice none 0 0) 1 24 := ⟨by kernel_rfl⟩
instance na58 : NAgg Try.prog 58 := ⟨fun _ => by kernel_rfl⟩
instance ul59 : UL Try.prog 59 (.func #[] #[23] false) := ⟨Try.underlying59⟩
instance ti59 : TI Try.prog 59 (.nilFunc) 1 8 := ⟨by kernel_rfl⟩
instance na59 : NAgg Try.prog 59 := ⟨fun _ => by kernel_rfl⟩
instance ul60 : UL Try.prog 60 (.func #[41, 41] #[4] false) := ⟨Try.underlying60⟩
instance ti60 : TI Try.prog 60 (.nilFunc) 1 8 := ⟨by kernel_rfl⟩
instance na60 : NAgg Try.prog 60 := ⟨fun _ => by kernel_rfl⟩
instance ul62 : UL Try.prog 62 (.func #[3, 3] #[54, 24] false) := ⟨Try.underlying62⟩
instance ti62 : TI Try.prog 62 (.nilFunc) 1 8 := ⟨by kernel_rfl⟩
instance na62 : NAgg Try.prog 62 := ⟨fun _ => by kernel_rfl⟩
instance ul63 : UL Try.prog 63 (.func #[3, 28] #[24] false) := ⟨Try.underlying63⟩
instance ti63 : TI Try.prog 63 (.nilFunc) 1 8 := ⟨by kernel_rfl⟩
instance na63 : NAgg Try.prog 63 := ⟨fun _ => by kernel_rfl⟩
instance ul66 : UL Try.prog 66 (.func #[28] #[3, 24] false) := ⟨Try.underlying66⟩
instance ti66 : TI Try.prog 66 (.nilFunc) 1 8 := ⟨by kernel_rfl⟩
instance na66 : NAgg Try.prog 66 := ⟨fun _ => by kernel_rfl⟩
instance ul67 : UL Try.prog 67 (.func #[] #[28] false) := ⟨Try.underlying67⟩
instance ti67 : TI Try.prog 67 (.nilFunc) 1 8 := ⟨by kernel_rfl⟩
instance na67 : NAgg Try.prog 67 := ⟨fun _ => by kernel_rfl⟩
instance ul68 : UL Try.prog 68 (.func #[28] #[] false) := ⟨Try.underlying68⟩
instance ti68 : TI Try.prog 68 (.nilFunc) 1 8 := ⟨by kernel_rfl⟩
instance na68 : NAgg Try.prog 68 := ⟨fun _ => by kernel_rfl⟩
instance ul70 : UL Try.prog 70 (.func #[3] #[28, 24] false) := ⟨Try.underlying70⟩
instance ti70 : TI Try.prog 70 (.nilFunc) 1 8 := ⟨by kernel_rfl⟩
instance na70 : NAgg Try.prog 70 := ⟨fun _ => by kernel_rfl⟩
instance ul71 : UL Try.prog 71 (.func #[68] #[] false) := ⟨Try.underlying71⟩
instance ti71 : TI Try.prog 71 (.nilFunc) 1 8 := ⟨by kernel_rfl⟩
instance na71 : NAgg Try.prog 71 := ⟨fun _ => by kernel_rfl⟩
instance ti72 : TI Try.prog 72 (.agg #[.int .u32 0, .int .i64 0]) 2 16 := ⟨by kernel_rfl⟩
instance ia72 : IAgg Try.prog 72 2 := ⟨fun _ => ⟨by kernel_rfl, by kernel_rfl⟩⟩
instance fa72_0 : FA Try.prog 72 0 0 := ⟨fun _ _ => by kernel_rfl⟩
instance fd72_0 : FD Try.prog 72 0 0 := fd_mk (ft := 28) Try.underlying72 rfl
instance fa72_1 : FA Try.prog 72 1 1 := ⟨fun _ _ => by kernel_rfl⟩
instance fd72_1 : FD Try.prog 72 1 1 := fd_mk (ft := 3) Try.underlying72 rfl
instance bl72 : BL Try.prog 72 [(0, 1), (1, 1)] [.int .u32 0, .int .i64 0] := bl_mk Try.underlying72 (fun _ => by kernel_rfl)
instance ti73 : TI Try.prog 73 (.agg #[.int .u32 0, .int .i64 0]) 2 16 := ⟨by kernel_rfl⟩
instance ia73 : IAgg Try.prog 73 2 := ⟨fun _ => ⟨by kernel_rfl, by kernel_rfl⟩⟩
instance fa73_0 : FA Try.prog 73 0 0 := ⟨fun _ _ => by kernel_rfl⟩
instance fd73_0 : FD Try.prog 73 0 0 := fd_mk (ft := 28) Try.underlying73 rfl
instance fa73_1 : FA Try.prog 73 1 1 := ⟨fun _ _ => by kernel_rfl⟩
instance fd73_1 : FD Try.prog 73 1 1 := fd_mk (ft := 3) Try.underlying73 rfl
instance bl73 : BL Try.prog 73 [(0, 1), (1, 1)] [.int .u32 0, .int .i64 0] := bl_mk Try.underlying73 (fun _ => by kernel_rfl)
instance ul75 : UL Try.prog 75 (.func #[28] #[48, 30] false) := ⟨Try.underlying75⟩
instance ti75 : TI Try.prog 75 (.nilFunc) 1 8 := ⟨by kernel_rfl⟩
instance na75 : NAgg Try.prog 75 := ⟨fun _ => by kernel_rfl⟩
instance ul77 : UL Try.prog 77 (.func #[28] #[48, 4] false) := ⟨Try.underlying77⟩
instance ti77 : TI Try.prog 77 (.nilFunc) 1 8 := ⟨by kernel_rfl⟩
instance na77 : NAgg Try.prog 77 := ⟨fun _ => by kernel_rfl⟩
instance ul78 : UL Try.prog 78 (.func #[] #[54] false) := ⟨Try.underlying78⟩
instance ti78 : TI Try.prog 78 (.nilFunc) 1 8 := ⟨by kernel_rfl⟩
instance na78 : NAgg Try.prog 78 := ⟨fun _ => by kernel_rfl⟩
instance ul79 : UL Try.prog 79 (.func #[41] #[41] false) := ⟨Try.underlying79⟩
instance ti79 : TI Try.prog 79 (.nilFunc) 1 8 := ⟨by kernel_rfl⟩
instance na79 : NAgg Try.prog 79 := ⟨fun _ => by kernel_rfl⟩
instance ul80 : UL Try.prog 80 (.func #[55] #[55] false) := ⟨Try.underlying80⟩
instance ti80 : TI Try.prog 80 (.nilFunc) 1 8 := ⟨by kernel_rfl⟩
instance na80 : NAgg Try.prog 80 := ⟨fun _ => by kernel_rfl⟩
instance ul81 : UL Try.prog 81 (.slice 88) := ⟨Try.underlying81⟩
instance ti81 : TI Try.prog 81 (.slice none 0 0) 1 24 := ⟨by kernel_rfl⟩
instance na81 : NAgg Try.prog 81 := ⟨fun _ => by kernel_rfl⟩
instance ul82 : UL Try.prog 82 (.slice 3) := ⟨Try.underlying82⟩
instance ti82 : TI Try.prog 82 (.slice none 0 0) 1 24 := ⟨by kernel_rfl⟩
instance na82 : NAgg Try.prog 82 := ⟨fun _ => by kernel_rfl⟩
instance ti83 : TI Try.prog 83 (.agg #[.slice none 0 0, .int .i64 0, .slice none 0 0]) 3 56 := ⟨by kernel_rfl⟩
instance ia83 : IAgg Try.prog 83 3 := ⟨fun _ => ⟨by kernel_rfl, by kernel_rfl⟩⟩
instance fa83_0 : FA Try.prog 83 0 0 := ⟨fun _ _ => by kernel_rfl⟩
instance fd83_0 : FD Try.prog 83 0 0 := fd_mk (ft := 81) Try.underlying83 rfl
instance fa83_1 : FA Try.prog 83 1 1 := ⟨fun _ _ => by kernel_rfl⟩
instance fd83_1 : FD Try.prog 83 1 1 := fd_mk (ft := 3) Try.underlying83 rfl
instance fa83_2 : FA Try.prog 83 2 2 := ⟨fun _ _ => by kernel_rfl⟩
instance fd83_2 : FD Try.prog 83 2 2 := fd_mk (ft := 82) Try.underlying83 rfl
instance bl83 : BL Try.prog 83 [(0, 1), (1, 1), (2, 1)] [.slice none 0 0, .int .i64 0, .slice none 0 0] := bl_mk Try.underlying83 (fun _ => by kernel_rfl)
instance ti84 : TI Try.prog 84 (.agg #[.slice none 0 0, .int .i64 0, .slice none 0 0]) 3 56 := ⟨by kernel_rfl⟩
instance ia84 : IAgg Try.prog 84 3 := ⟨fun _ => ⟨by kernel_rfl, by kernel_rfl⟩⟩
instance fa84_0 : FA Try.prog 84 0 0 := ⟨fun _ _ => by kernel_rfl⟩
instance fd84_0 : FD Try.prog 84 0 0 := fd_mk (ft := 81) Try.underlying84 rfl
instance fa84_1 : FA Try.prog 84 1 1 := ⟨fun _ _ => by kernel_rfl⟩
instance fd84_1 : FD Try.prog 84 1 1 := fd_mk (ft := 3) Try.underlying84 rfl
instance fa84_2 : FA Try.prog 84 2 2 := ⟨fun _ _ => by kernel_rfl⟩
instance fd84_2 : FD Try.prog 84 2 2 := fd_mk (ft := 82) Try.underlying84 rfl
instance bl84 : BL Try.prog 84 [(0, 1), (1, 1), (2, 1)] [.slice none 0 0, .int .i64 0, .slice none 0 0] := bl_mk Try.underlying84 (fun _ => by kernel_rfl)
instance ul85 : UL Try.prog 85 (.int .i64) := ⟨Try.underlying85⟩
instance ti85 : TI Try.prog 85 (.int .i64 0) 1 8 := ⟨by kernel_rfl⟩
instance na85 : NAgg Try.prog 85 := ⟨fun _ => by kernel_rfl⟩
instance ul86 : UL Try.prog 86 (.func #[54] #[28] false) := ⟨Try.underlying86⟩
instance ti86 : TI Try.prog 86 (.nilFunc) 1 8 := ⟨by kernel_rfl⟩
instance na86 : NAgg Try.prog 86 := ⟨fun _ => by kernel_rfl⟩
instance ti87 : TI Try.prog 87 (.agg #[.int .u32 0, .int .u32 0, .int .u32 0]) 3 12 := ⟨by kernel_rfl⟩
instance ia87 : IAgg Try.prog 87 3 := ⟨fun _ => ⟨by kernel_rfl, by kernel_rfl⟩⟩
instance fa87_0 : FA Try.prog 87 0 0 := ⟨fun _ _ => by kernel_rfl⟩
instance fd87_0 : FD Try.prog 87 0 0 := fd_mk (ft := 28) Try.underlying87 rfl
instance fa87_1 : FA Try.prog 87 1 1 := ⟨fun _ _ => by kernel_rfl⟩
instance fd87_1 : FD Try.prog 87 1 1 := fd_mk (ft := 28) Try.underlying87 rfl
instance fa87_2 : FA Try.prog 87 2 2 := ⟨fun _ _ => by kernel_rfl⟩
instance fd87_2 : FD Try.prog 87 2 2 := fd_mk (ft := 28) Try.underlying87 rfl
instance bl87 : BL Try.prog 87 [(0, 1), (1, 1), (2, 1)] [.int .u32 0, .int .u32 0, .int .u32 0] := bl_mk Try.underlying87 (fun _ => by kernel_rfl)
instance ti88 : TI Try.prog 88 (.agg #[.int .u32 0, .int .u32 0, .int .u32 0]) 3 12 := ⟨by kernel_rfl⟩
instance ia88 : IAgg Try.prog 88 3 := ⟨fun _ => ⟨by kernel_rfl, by kernel_rfl⟩⟩
instance fa88_0 : FA Try.prog 88 0 0 := ⟨fun _ _ => by kernel_rfl⟩
instance fd88_0 : FD Try.prog 88 0 0 := fd_mk (ft := 28) Try.underlying88 rfl
instance fa88_1 : FA Try.prog 88 1 1 := ⟨fun _ _ => by kernel_rfl⟩
instance fd88_1 : FD Try.prog 88 1 1 := fd_mk (ft := 28) Try.underlying88 rfl
instance fa88_2 : FA Try.prog 88 2 2 := ⟨fun _ _ => by kernel_rfl⟩
instance fd88_2 : FD Try.prog 88 2 2 := fd_mk (ft := 28) Try.underlying88 rfl
instance bl88 : BL Try.prog 88 [(0, 1), (1, 1), (2, 1)] [.int .u32 0, .int .u32 0, .int .u32 0] := bl_mk Try.underlying88 (fun _ => by kernel_rfl)
instance ul89 : UL Try.prog 89 (.func #[3, 28, 4] #[24] false) := ⟨Try.underlying89⟩
instance ti89 : TI Try.prog 89 (.nilFunc) 1 8 := ⟨by kernel_rfl⟩
instance na89 : NAgg Try.prog 89 := ⟨fun _ => by kernel_rfl⟩
instance ul90 : UL Try.prog 90 (.func #[28] #[24] false) := ⟨Try.underlying90⟩
instance ti90 : TI Try.prog 90 (.nilFunc) 1 8 := ⟨by kernel_rfl⟩
instance na90 : NAgg Try.prog 90 := ⟨fun _ => by kernel_rfl⟩
instance ul91 : UL Try.prog 91 (.func #[3] #[24] false) := ⟨Try.underlying91⟩
instance ti91 : TI Try.prog 91 (.nilFunc) 1 8 := ⟨by kernel_rfl⟩
instance na91 : NAgg Try.prog 91 := ⟨fun _ => by kernel_rfl⟩
instance ul92 : UL Try.prog 92 (.func #[28] #[28, 24] false) := ⟨Try.underlying92⟩
instance ti92 : TI Try.prog 92 (.nilFunc) 1 8 := ⟨by kernel_rfl⟩
instance na92 : NAgg Try.prog 92 := ⟨fun _ => by kernel_rfl⟩
instance ul93 : UL Try.prog 93 (.func #[3, 82] #[] true) := ⟨Try.underlying93⟩
instance ti93 : TI Try.prog 93 (.nilFunc) 1 8 := ⟨by kernel_rfl⟩
instance na93 : NAgg Try.prog 93 := ⟨fun _ => by kernel_rfl⟩
instance ul94 : UL Try.prog 94 (.func #[44] #[] false) := ⟨Try.underlying94⟩
instance ti94 : TI Try.prog 94 (.nilFunc) 1 8 := ⟨by kernel_rfl⟩
instance na94 : NAgg Try.prog 94 := ⟨fun _ => by kernel_rfl⟩
instance ul95 : UL Try.prog 95 (.func #[44] #[] false) := ⟨Try.underlying95⟩
instance ti95 : TI Try.prog 95 (.nilFunc) 1 8 := ⟨by kernel_rfl⟩
instance na95 : NAgg Try.prog 95 := ⟨fun _ => by kernel_rfl⟩
instance ul96 : UL Try.prog 96 (.func #[3] #[95] false) := ⟨Try.underlying96⟩
instance ti96 : TI Try.prog 96 (.nilFunc) 1 8 := ⟨by kernel_rfl⟩
instance na96 : NAgg Try.prog 96 := ⟨fun _ => by kernel_rfl⟩
instance ul97 : UL Try.prog 97 (.func #[46, 73] #[46] false) := ⟨Try.underlying97⟩
instance ti97 : TI Try.prog 97 (.nilFunc) 1 8 := ⟨by kernel_rfl⟩
instance na97 : NAgg Try.prog 97 := ⟨fun _ => by kernel_rfl⟩
instance ul98 : UL Try.prog 98 (.func #[28] #[46] false) := ⟨Try.underlying98⟩
instance ti98 : TI Try.prog 98 (.nilFunc) 1 8 := ⟨by kernel_rfl⟩
instance na98 : NAgg Try.prog 98 := ⟨fun _ => by kernel_rfl⟩
instance ul99 : UL Try.prog 99 (.func #[20] #[20] false) := ⟨Try.underlying99⟩
instance ti99 : TI Try.prog 99 (.nilFunc) 1 8 := ⟨by kernel_rfl⟩
instance na99 : NAgg Try.prog 99 := ⟨fun _ => by kernel_rfl⟩
instance ul100 : UL Try.prog 100 (.func #[28, 28] #[] false) := ⟨Try.underlying100⟩
instance ti100 : TI Try.prog 100 (.nilFunc) 1 8 := ⟨by kernel_rfl⟩
instance na100 : NAgg Try.prog 100 := ⟨fun _ => by kernel_rfl⟩
instance ul101 : UL Try.prog 101 (.func #[3, 3] #[24] false) := ⟨Try.underlying101⟩
instance ti101 : TI Try.prog 101 (.nilFunc) 1 8 := ⟨by kernel_rfl⟩
instance na101 : NAgg Try.prog 101 := ⟨fun _ => by kernel_rfl⟩
instance ul102 : UL Try.prog 102 (.func #[3] #[41] false) := ⟨Try.underlying102⟩
instance ti102 : TI Try.prog 102 (.nilFunc) 1 8 := ⟨by kernel_rfl⟩
instance na102 : NAgg Try.prog 102 := ⟨fun _ => by kernel_rfl⟩
instance ul103 : UL Try.prog 103 (.array 2 3) := ⟨Try.underlying103⟩
instance ti103 : TI Try.prog 103 (.agg #[.int .i64 0, .int .i64 0]) 2 16 := ⟨by kernel_rfl⟩
instance ia103 : IAgg Try.prog 103 2 := ⟨fun _ => ⟨by kernel_rfl, by kernel_rfl⟩⟩
instance ul104 : UL Try.prog 104 (.func #[] #[9] false) := ⟨Try.underlying104⟩
instance ti104 : TI Try.prog 104 (.nilFunc) 1 8 := ⟨by kernel_rfl⟩
instance na104 : NAgg Try.prog 104 := ⟨fun _ => by kernel_rfl⟩
instance ul107 : UL Try.prog 107 (.array 0 16) := ⟨Try.underlying107⟩
instance ti107 : TI Try.prog 107 (.agg #[]) 0 0 := ⟨by kernel_rfl⟩
instance ia107 : IAgg Try.prog 107 0 := ⟨fun _ => ⟨by kernel_rfl, by kernel_rfl⟩⟩
instance ul112 : UL Try.prog 112 (.func #[118, 118] #[4] false) := ⟨Try.underlying112⟩
instance ti112 : TI Try.prog 112 (.nilFunc) 1 8 := ⟨by kernel_rfl⟩
instance na112 : NAgg Try.prog 112 := ⟨fun _ => by kernel_rfl⟩
instance ul113 : UL Try.prog 113 (.pointer 5) := ⟨Try.underlying113⟩
instance ti113 : TI Try.prog 113 (.pointer none) 1 8 := ⟨by kernel_rfl⟩
instance na113 : NAgg Try.prog 113 := ⟨fun _ => by kernel_rfl⟩
instance ti118 : TI Try.prog 118 (.pointer none) 1 8 := ⟨by kernel_rfl⟩
instance na118 : NAgg Try.prog 118 := ⟨fun _ => by kernel_rfl⟩
instance cf3 : CF Try.prog 3 := ⟨fun _ _ => by kernel_rfl⟩
instance cf4 : CF Try.prog 4 := ⟨fun _ _ => by kernel_rfl⟩
instance cf5 : CF Try.prog 5 := ⟨fun _ _ => by kernel_rfl⟩
instance cf6 : CF Try.prog 6 := ⟨fun _ _ => by kernel_rfl⟩
instance cf7 : CF Try.prog 7 := ⟨fun _ _ => by kernel_rfl⟩
instance cf8 : CF Try.prog 8 := ⟨fun _ _ => by kernel_rfl⟩
instance cf9 : CF Try.prog 9 := ⟨fun _ _ => by kernel_rfl⟩
instance cf10 : CF Try.prog 10 := ⟨fun _ _ => by kernel_rfl⟩
instance cf11 : CF Try.prog 11 := ⟨fun _ _ => by kernel_rfl⟩
instance cf12 : CF Try.prog 12 := ⟨fun _ _ => by kernel_rfl⟩
instance cf13 : CF Try.prog 13 := ⟨fun _ _ => by kernel_rfl⟩
instance cf14 : CF Try.prog 14 := ⟨fun _ _ => by kernel_rfl⟩
instance cf15 : CF Try.prog 15 := ⟨fun _ _ => by kernel_rfl⟩
instance cf16 : CF Try.prog 16 := ⟨fun _ _ => by kernel_rfl⟩
instance cf17 : CF Try.prog 17 := ⟨fun _ _ => by kernel_rfl⟩
instance cf18 : CF Try.prog 18 := ⟨fun _ _ => by kernel_rfl⟩
instance cf19 : CF Try.prog 19 := ⟨fun _ _ => by kernel_rfl⟩
instance cf20 : CF Try.prog 20 := ⟨fun _ _ => by kernel_rfl⟩
instance cf21 : CF Try.prog 21 := ⟨fun _ _ => by kernel_rfl⟩
instance cf22 : CF Try.prog 22 := ⟨fun _ _ => by kernel_rfl⟩
instance cf23 : CF Try.prog 23 := ⟨fun _ _ => by kernel_rfl⟩
instance cf24 : CF Try.prog 24 := ⟨fun _ _ => by kernel_rfl⟩
instance cf25 : CF Try.prog 25 := ⟨fun _ _ => by kernel_rfl⟩
instance cf26 : CF Try.prog 26 := ⟨fun _ _ => by kernel_rfl⟩
instance cf27 : CF Try.prog 27 := ⟨fun _ _ => by kernel_rfl⟩
instance cf28 : CF Try.prog 28 := ⟨fun _ _ => by kernel_rfl⟩
instance cf29 : CF Try.prog 29 := ⟨fun _ _ => by kernel_rfl⟩
instance cf30 : CF Try.prog 30 := ⟨fun _ _ => by kernel_rfl⟩
instance cf31 : CF Try.prog 31 := ⟨fun _ _ => by kernel_rfl⟩
instance cf32 : CF Try.prog 32 := ⟨fun _ _ => by kernel_rfl⟩
instance cf33 : CF Try.prog 33 := ⟨fun _ _ => by kernel_rfl⟩
instance cf34 : CF Try.prog 34 := ⟨fun _ _ => by kernel_rfl⟩
instance cf35 : CF Try.prog 35 := ⟨fun _ _ => by kernel_rfl⟩
instance cf36 : CF Try.prog 36 := ⟨fun _ _ => by kernel_rfl⟩
instance cf37 : CF Try.prog 37 := ⟨fun _ _ => by kernel_rfl⟩
instance cf38 : CF Try.prog 38 := ⟨fun _ _ => by kernel_rfl⟩
instance cf39 : CF Try.prog 39 := ⟨fun _ _ => by kernel_rfl⟩
instance cf40 : CF Try.prog 40 := ⟨fun _ _ => by kernel_rfl⟩
instance cf41 : CF Try.prog 41 := ⟨fun _ _ => by kernel_rfl⟩
instance cf42 : CF Try.prog 42 := ⟨fun _ _ => by kernel_rfl⟩
instance cf43 : CF Try.prog 43 := ⟨fun _ _ => by kernel_rfl⟩
instance cf44 : CF Try.prog 44 := ⟨fun _ _ => by kernel_rfl⟩
instance cf45 : CF Try.prog 45 := ⟨fun _ _ => by kernel_rfl⟩
instance cf46 : CF Try.prog 46 := ⟨fun _ _ => by kernel_rfl⟩
instance cf47 : CF Try.prog 47 := ⟨fun _ _ => by kernel_rfl⟩
instance cf48 : CF Try.prog 48 := ⟨fun _ _ => by kernel_rfl⟩
instance cf49 : CF Try.prog 49 := ⟨fun _ _ => by kernel_rfl⟩
instance cf50 : CF Try.prog 50 := ⟨fun _ _ => by kernel_rfl⟩
instance cf51 : CF Try.prog 51 := ⟨fun _ _ => by kernel_rfl⟩
instance cf53 : CF Try.prog 53 := ⟨fun _ _ => by kernel_rfl⟩
instance cf54 : CF Try.prog 54 := ⟨fun _ _ => by kernel_rfl⟩
instance cf55 : CF Try.prog 55 := ⟨fun _ _ => by kernel_rfl⟩
instance cf56 : CF Try.prog 56 := ⟨fun _ _ => by kernel_rfl⟩
instance cf57 : CF Try.prog 57 := ⟨fun _ _ => by kernel_rfl⟩
instance ex52 : EX Try.prog 52 Extern.MapsClone.clone := ⟨fun args w => run_callFunc_extern Try.func52 (by kernel_rfl) (by kernel_rfl) (by kernel_rfl) (by kernel_rfl) args w⟩
instance mz3 : MZ Try.prog 3 (fun z : Int => .int .i64 z) 0 := ⟨fun w => by have h := (mz_of (P := Try.prog) (e := 3) (V := fun v : Value => v)).out w; exact h⟩
instance mz28 : MZ Try.prog 28 (fun n : Nat => .int .u32 (n : Nat)) 0 := ⟨fun w => by have h := (mz_of (P := Try.prog) (e := 28) (V := fun v : Value => v)).out w; exact h⟩
end Go.Proofs.Ytmiblmoppdgnjaa
