/- What the program says of its types and functions. -/
import Derived.Test.YtbdiabakcgafgaaSlM
import Derived.Test.YtbdiabakcgafgaaRows
namespace Go.Proofs.Ytbdiabakcgafgaa
open Go.Sl
instance ul1 : UL Try.prog 1 (.func #[] #[] false) := ⟨Try.underlying1⟩
instance ti1 : TI Try.prog 1 (.nilFunc) 1 8 := ⟨by kernel_rfl⟩
instance na1 : NAgg Try.prog 1 := ⟨fun _ => by kernel_rfl⟩
instance ul2 : UL Try.prog 2 (.int .i64) := ⟨Try.underlying2⟩
instance ti2 : TI Try.prog 2 (.int .i64 0) 1 8 := ⟨by kernel_rfl⟩
instance na2 : NAgg Try.prog 2 := ⟨fun _ => by kernel_rfl⟩
instance ul3 : UL Try.prog 3 (.int .i64) := ⟨Try.underlying3⟩
instance ti3 : TI Try.prog 3 (.int .i64 0) 1 8 := ⟨by kernel_rfl⟩
instance na3 : NAgg Try.prog 3 := ⟨fun _ => by kernel_rfl⟩
instance ul4 : UL Try.prog 4 (.bool) := ⟨Try.underlying4⟩
instance ti4 : TI Try.prog 4 (.bool false) 1 1 := ⟨by kernel_rfl⟩
instance na4 : NAgg Try.prog 4 := ⟨fun _ => by kernel_rfl⟩
instance ul5 : UL Try.prog 5 (.int .u8) := ⟨Try.underlying5⟩
instance ti5 : TI Try.prog 5 (.int .u8 0) 1 1 := ⟨by kernel_rfl⟩
instance na5 : NAgg Try.prog 5 := ⟨fun _ => by kernel_rfl⟩
instance ul9 : UL Try.prog 9 (.string) := ⟨Try.underlying9⟩
instance ti9 : TI Try.prog 9 (.string ByteArray.empty) 1 16 := ⟨by kernel_rfl⟩
instance na9 : NAgg Try.prog 9 := ⟨fun _ => by kernel_rfl⟩
instance ul12 : UL Try.prog 12 (.int .u64) := ⟨Try.underlying12⟩
instance ti12 : TI Try.prog 12 (.int .u64 0) 1 8 := ⟨by kernel_rfl⟩
instance na12 : NAgg Try.prog 12 := ⟨fun _ => by kernel_rfl⟩
instance ti20 : TI Try.prog 20 (.nilIface) 1 16 := ⟨by kernel_rfl⟩
instance na20 : NAgg Try.prog 20 := ⟨fun _ => by kernel_rfl⟩
instance ul21 : UL Try.prog 21 (.int .i32) := ⟨Try.underlying21⟩
instance ti21 : TI Try.prog 21 (.int .i32 0) 1 4 := ⟨by kernel_rfl⟩
instance na21 : NAgg Try.prog 21 := ⟨fun _ => by kernel_rfl⟩
instance ul22 : UL Try.prog 22 (.func #[] #[4] false) := ⟨Try.underlying22⟩
instance ti22 : TI Try.prog 22 (.nilFunc) 1 8 := ⟨by kernel_rfl⟩
instance na22 : NAgg Try.prog 22 := ⟨fun _ => by kernel_rfl⟩
instance ul23 : UL Try.prog 23 (.pointer 60) := ⟨Try.underlying23⟩
instance ti23 : TI Try.prog 23 (.pointer none) 1 8 := ⟨by kernel_rfl⟩
instance na23 : NAgg Try.prog 23 := ⟨fun _ => by kernel_rfl⟩
instance ul24 : UL Try.prog 24 (.int .i64) := ⟨Try.underlying24⟩
instance ti24 : TI Try.prog 24 (.int .i64 0) 1 8 := ⟨by kernel_rfl⟩
instance na24 : NAgg Try.prog 24 := ⟨fun _ => by kernel_rfl⟩
instance ul26 : UL Try.prog 26 (.func #[3] #[23, 24] false) := ⟨Try.underlying26⟩
instance ti26 : TI Try.prog 26 (.nilFunc) 1 8 := ⟨by kernel_rfl⟩
instance na26 : NAgg Try.prog 26 := ⟨fun _ => by kernel_rfl⟩
instance ul27 : UL Try.prog 27 (.func #[23, 28, 28, 4] #[4] false) := ⟨Try.underlying27⟩
instance ti27 : TI Try.prog 27 (.nilFunc) 1 8 := ⟨by kernel_rfl⟩
instance na27 : NAgg Try.prog 27 := ⟨fun _ => by kernel_rfl⟩
instance ul28 : UL Try.prog 28 (.int .u32) := ⟨Try.underlying28⟩
instance ti28 : TI Try.prog 28 (.int .u32 0) 1 4 := ⟨by kernel_rfl⟩
instance na28 : NAgg Try.prog 28 := ⟨fun _ => by kernel_rfl⟩
instance ul29 : UL Try.prog 29 (.func #[4] #[3] false) := ⟨Try.underlying29⟩
instance ti29 : TI Try.prog 29 (.nilFunc) 1 8 := ⟨by kernel_rfl⟩
instance na29 : NAgg Try.prog 29 := ⟨fun _ => by kernel_rfl⟩
instance ul30 : UL Try.prog 30 (.func #[] #[3] false) := ⟨Try.underlying30⟩
instance ti30 : TI Try.prog 30 (.nilFunc) 1 8 := ⟨by kernel_rfl⟩
instance na30 : NAgg Try.prog 30 := ⟨fun _ => by kernel_rfl⟩
instance ul31 : UL Try.prog 31 (.func #[28] #[4] false) := ⟨Try.underlying31⟩
instance ti31 : TI Try.prog 31 (.nilFunc) 1 8 := ⟨by kernel_rfl⟩
instance na31 : NAgg Try.prog 31 := ⟨fun _ => by kernel_rfl⟩
instance ul32 : UL Try.prog 32 (.func #[3, 5] #[4] false) := ⟨Try.underlying32⟩
instance ti32 : TI Try.prog 32 (.nilFunc) 1 8 := ⟨by kernel_rfl⟩
instance na32 : NAgg Try.prog 32 := ⟨fun _ => by kernel_rfl⟩
instance ul33 : UL Try.prog 33 (.slice 28) := ⟨Try.underlying33⟩
instance ti33 : TI Try.prog 33 (.slice none 0 0) 1 24 := ⟨by kernel_rfl⟩
instance na33 : NAgg Try.prog 33 := ⟨fun _ => by kernel_rfl⟩
instance ti34 : TI Try.prog 34 (.agg #[.int .i64 0, .slice none 0 0]) 2 32 := ⟨by kernel_rfl⟩
instance ia34 : IAgg Try.prog 34 2 := ⟨fun _ => ⟨by kernel_rfl, by kernel_rfl⟩⟩
instance fa34_0 : FA Try.prog 34 0 0 := ⟨fun _ _ => by kernel_rfl⟩
instance fd34_0 : FD Try.prog 34 0 0 := fd_mk (ft := 3) Try.underlying34 rfl
instance fa34_1 : FA Try.prog 34 1 1 := ⟨fun _ _ => by kernel_rfl⟩
instance fd34_1 : FD Try.prog 34 1 1 := fd_mk (ft := 33) Try.underlying34 rfl
instance bl34 : BL Try.prog 34 [(0, 1), (1, 1)] [.int .i64 0, .slice none 0 0] := bl_mk Try.underlying34 (fun _ => by kernel_rfl)
instance ti35 : TI Try.prog 35 (.agg #[.int .i64 0, .slice none 0 0]) 2 32 := ⟨by kernel_rfl⟩
instance ia35 : IAgg Try.prog 35 2 := ⟨fun _ => ⟨by kernel_rfl, by kernel_rfl⟩⟩
instance fa35_0 : FA Try.prog 35 0 0 := ⟨fun _ _ => by kernel_rfl⟩
instance fd35_0 : FD Try.prog 35 0 0 := fd_mk (ft := 3) Try.underlying35 rfl
instance fa35_1 : FA Try.prog 35 1 1 := ⟨fun _ _ => by kernel_rfl⟩
instance fd35_1 : FD Try.prog 35 1 1 := fd_mk (ft := 33) Try.underlying35 rfl
instance bl35 : BL Try.prog 35 [(0, 1), (1, 1)] [.int .i64 0, .slice none 0 0] := bl_mk Try.underlying35 (fun _ => by kernel_rfl)
instance ul37 : UL Try.prog 37 (.func #[3] #[35, 3] false) := ⟨Try.underlying37⟩
instance ti37 : TI Try.prog 37 (.nilFunc) 1 8 := ⟨by kernel_rfl⟩
instance na37 : NAgg Try.prog 37 := ⟨fun _ => by kernel_rfl⟩
instance ul38 : UL Try.prog 38 (.func #[23, 35, 28] #[4] false) := ⟨Try.underlying38⟩
instance ti38 : TI Try.prog 38 (.nilFunc) 1 8 := ⟨by kernel_rfl⟩
instance na38 : NAgg Try.prog 38 := ⟨fun _ => by kernel_rfl⟩
instance ul39 : UL Try.prog 39 (.func #[3] #[4] false) := ⟨Try.underlying39⟩
instance ti39 : TI Try.prog 39 (.nilFunc) 1 8 := ⟨by kernel_rfl⟩
instance na39 : NAgg Try.prog 39 := ⟨fun _ => by kernel_rfl⟩
instance ul40 : UL Try.prog 40 (.slice 43) := ⟨Try.underlying40⟩
instance ti40 : TI Try.prog 40 (.slice none 0 0) 1 24 := ⟨by kernel_rfl⟩
instance na40 : NAgg Try.prog 40 := ⟨fun _ => by kernel_rfl⟩
instance mt41 : MTyA Try.prog 41 Int .u32 (fun z : Int => .int .i64 z) := ⟨trivial⟩
instance ul41 : UL Try.prog 41 (.map 28 3) := ⟨Try.underlying41⟩
instance ti41 : TI Try.prog 41 (.map none) 1 8 := ⟨by kernel_rfl⟩
instance na41 : NAgg Try.prog 41 := ⟨fun _ => by kernel_rfl⟩
instance ti42 : TI Try.prog 42 (.agg #[.int .i64 0, .int .u32 0, .int .i64 0]) 3 24 := ⟨by kernel_rfl⟩
instance ia42 : IAgg Try.prog 42 3 := ⟨fun _ => ⟨by kernel_rfl, by kernel_rfl⟩⟩
instance fa42_0 : FA Try.prog 42 0 0 := ⟨fun _ _ => by kernel_rfl⟩
instance fd42_0 : FD Try.prog 42 0 0 := fd_mk (ft := 3) Try.underlying42 rfl
instance fa42_1 : FA Try.prog 42 1 1 := ⟨fun _ _ => by kernel_rfl⟩
instance fd42_1 : FD Try.prog 42 1 1 := fd_mk (ft := 28) Try.underlying42 rfl
instance fa42_2 : FA Try.prog 42 2 2 := ⟨fun _ _ => by kernel_rfl⟩
instance fd42_2 : FD Try.prog 42 2 2 := fd_mk (ft := 3) Try.underlying42 rfl
instance bl42 : BL Try.prog 42 [(0, 1), (1, 1), (2, 1)] [.int .i64 0, .int .u32 0, .int .i64 0] := bl_mk Try.underlying42 (fun _ => by kernel_rfl)
instance ti43 : TI Try.prog 43 (.agg #[.int .i64 0, .int .u32 0, .int .i64 0]) 3 24 := ⟨by kernel_rfl⟩
instance ia43 : IAgg Try.prog 43 3 := ⟨fun _ => ⟨by kernel_rfl, by kernel_rfl⟩⟩
instance fa43_0 : FA Try.prog 43 0 0 := ⟨fun _ _ => by kernel_rfl⟩
instance fd43_0 : FD Try.prog 43 0 0 := fd_mk (ft := 3) Try.underlying43 rfl
instance fa43_1 : FA Try.prog 43 1 1 := ⟨fun _ _ => by kernel_rfl⟩
instance fd43_1 : FD Try.prog 43 1 1 := fd_mk (ft := 28) Try.underlying43 rfl
instance fa43_2 : FA Try.prog 43 2 2 := ⟨fun _ _ => by kernel_rfl⟩
instance fd43_2 : FD Try.prog 43 2 2 := fd_mk (ft := 3) Try.underlying43 rfl
instance bl43 : BL Try.prog 43 [(0, 1), (1, 1), (2, 1)] [.int .i64 0, .int .u32 0, .int .i64 0] := bl_mk Try.underlying43 (fun _ => by kernel_rfl)
instance ul45 : UL Try.prog 45 (.func #[28] #[28, 4, 24] false) := ⟨Try.underlying45⟩
instance ti45 : TI Try.prog 45 (.nilFunc) 1 8 := ⟨by kernel_rfl⟩
instance na45 : NAgg Try.prog 45 := ⟨fun _ => by kernel_rfl⟩
instance ul46 : UL Try.prog 46 (.func #[41, 28, 4] #[4] false) := ⟨Try.underlying46⟩
instance ti46 : TI Try.prog 46 (.nilFunc) 1 8 := ⟨by kernel_rfl⟩
instance na46 : NAgg Try.prog 46 := ⟨fun _ => by kernel_rfl⟩
instance ul47 : UL Try.prog 47 (.func #[] #[33] false) := ⟨Try.underlying47⟩
instance ti47 : TI Try.prog 47 (.nilFunc) 1 8 := ⟨by kernel_rfl⟩
instance na47 : NAgg Try.prog 47 := ⟨fun _ => by kernel_rfl⟩
instance ul49 : UL Try.prog 49 (.func #[28] #[4, 24] false) := ⟨Try.underlying49⟩
instance ti49 : TI Try.prog 49 (.nilFunc) 1 8 := ⟨by kernel_rfl⟩
instance na49 : NAgg Try.prog 49 := ⟨fun _ => by kernel_rfl⟩
instance ul52 : UL Try.prog 52 (.func #[] #[28, 24] false) := ⟨Try.underlying52⟩
instance ti52 : TI Try.prog 52 (.nilFunc) 1 8 := ⟨by kernel_rfl⟩
instance na52 : NAgg Try.prog 52 := ⟨fun _ => by kernel_rfl⟩
instance ul54 : UL Try.prog 54 (.func #[3] #[33, 24] false) := ⟨Try.underlying54⟩
instance ti54 : TI Try.prog 54 (.nilFunc) 1 8 := ⟨by kernel_rfl⟩
instance na54 : NAgg Try.prog 54 := ⟨fun _ => by kernel_rfl⟩
instance ul55 : UL Try.prog 55 (.func #[3, 40] #[4] false) := ⟨Try.underlying55⟩
instance ti55 : TI Try.prog 55 (.nilFunc) 1 8 := ⟨by kernel_rfl⟩
instance na55 : NAgg Try.prog 55 := ⟨fun _ => by kernel_rfl⟩
instance ul56 : UL Try.prog 56 (.func #[23, 35, 40] #[4] false) := ⟨Try.underlying56⟩
instance ti56 : TI Try.prog 56 (.nilFunc) 1 8 := ⟨by kernel_rfl⟩
instance na56 : NAgg Try.prog 56 := ⟨fun _ => by kernel_rfl⟩
instance ul57 : UL Try.prog 57 (.pointer 119) := ⟨Try.underlying57⟩
instance ti57 : TI Try.prog 57 (.pointer none) 1 8 := ⟨by kernel_rfl⟩
instance na57 : NAgg Try.prog 57 := ⟨fun _ => by kernel_rfl⟩
instance mt58 : MTyA Try.prog 58 Nat .u32 (fun n : Nat => .int .u32 (n : Nat)) := ⟨trivial⟩
instance ul58 : UL Try.prog 58 (.map 28 28) := ⟨Try.underlying58⟩
instance ti58 : TI Try.prog 58 (.map none) 1 8 := ⟨by kernel_rfl⟩
instance na58 : NAgg Try.prog 58 := ⟨fun _ => by kernel_rfl⟩
instance ti59 : TI Try.prog 59 (.agg #[.int .i64 0, .pointer none, .slice none 0 0, .map none]) 4 48 := ⟨by kernel_rfl⟩
instance ia59 : IAgg Try.prog 59 4 := ⟨fun _ => ⟨by kernel_rfl, by kernel_rfl⟩⟩
instance fa59_0 : FA Try.prog 59 0 0 := ⟨fun _ _ => by kernel_rfl⟩
instance fd59_0 : FD Try.prog 59 0 0 := fd_mk (ft := 3) Try.underlying59 rfl
instance fa59_1 : FA Try.prog 59 1 1 := ⟨fun _ _ => by kernel_rfl⟩
instance fd59_1 : FD Try.prog 59 1 1 := fd_mk (ft := 57) Try.underlying59 rfl
instance fa59_2 : FA Try.prog 59 2 2 := ⟨fun _ _ => by kernel_rfl⟩
instance fd59_2 : FD Try.prog 59 2 2 := fd_mk (ft := 33) Try.underlying59 rfl
instance fa59_3 : FA Try.prog 59 3 3 := ⟨fun _ _ => by kernel_rfl⟩
instance fd59_3 : FD Try.prog 59 3 3 := fd_mk (ft := 58) Try.underlying59 rfl
instance bl59 : BL Try.prog 59 [(0, 1), (1, 1), (2, 1), (3, 1)] [.int .i64 0, .pointer none, .slice none 0 0, .map none] := bl_mk Try.underlying59 (fun _ => by kernel_rfl)
instance ti60 : TI Try.prog 60 (.agg #[.int .i64 0, .pointer none, .slice none 0 0, .map none]) 4 48 := ⟨by kernel_rfl⟩
instance ia60 : IAgg Try.prog 60 4 := ⟨fun _ => ⟨by kernel_rfl, by kernel_rfl⟩⟩
instance fa60_0 : FA Try.prog 60 0 0 := ⟨fun _ _ => by kernel_rfl⟩
instance fd60_0 : FD Try.prog 60 0 0 := fd_mk (ft := 3) Try.underlying60 rfl
instance fa60_1 : FA Try.prog 60 1 1 := ⟨fun _ _ => by kernel_rfl⟩
instance fd60_1 : FD Try.prog 60 1 1 := fd_mk (ft := 57) Try.underlying60 rfl
instance fa60_2 : FA Try.prog 60 2 2 := ⟨fun _ _ => by kernel_rfl⟩
instance fd60_2 : FD Try.prog 60 2 2 := fd_mk (ft := 33) Try.underlying60 rfl
instance fa60_3 : FA Try.prog 60 3 3 := ⟨fun _ _ => by kernel_rfl⟩
instance fd60_3 : FD Try.prog 60 3 3 := fd_mk (ft := 58) Try.underlying60 rfl
instance bl60 : BL Try.prog 60 [(0, 1), (1, 1), (2, 1), (3, 1)] [.int .i64 0, .pointer none, .slice none 0 0, .map none] := bl_mk Try.underlying60 (fun _ => by kernel_rfl)
instance ul61 : UL Try.prog 61 (.slice 23) := ⟨Try.underlying61⟩
instance ti61 : TI Try.prog 61 (.slice none 0 0) 1 24 := ⟨by kernel_rfl⟩
instance na61 : NAgg Try.prog 61 := ⟨fun _ => by kernel_rfl⟩
instance ul62 : UL Try.prog 62 (.func #[] #[23] false) := ⟨Try.underlying62⟩
instance ti62 : TI Try.prog 62 (.nilFunc) 1 8 := ⟨by kernel_rfl⟩
instance na62 : NAgg Try.prog 62 := ⟨fun _ => by kernel_rfl⟩
instance ul63 : UL Try.prog 63 (.func #[28, 3] #[4] false) := ⟨Try.underlying63⟩
instance ti63 : TI Try.prog 63 (.nilFunc) 1 8 := ⟨by kernel_rfl⟩
instance na63 : NAgg Try.prog 63 := ⟨fun _ => by kernel_rfl⟩
instance ul64 : UL Try.prog 64 (.pointer 85) := ⟨Try.underlying64⟩
instance ti64 : TI Try.prog 64 (.pointer none) 1 8 := ⟨by kernel_rfl⟩
instance na64 : NAgg Try.prog 64 := ⟨fun _ => by kernel_rfl⟩
instance ul65 : UL Try.prog 65 (.func #[] #[64] false) := ⟨Try.underlying65⟩
instance ti65 : TI Try.prog 65 (.nilFunc) 1 8 := ⟨by kernel_rfl⟩
instance na65 : NAgg Try.prog 65 := ⟨fun _ => by kernel_rfl⟩
instance ul66 : UL Try.prog 66 (.func #[33, 28] #[33, 24] false) := ⟨Try.underlying66⟩
instance ti66 : TI Try.prog 66 (.nilFunc) 1 8 := ⟨by kernel_rfl⟩
instance na66 : NAgg Try.prog 66 := ⟨fun _ => by kernel_rfl⟩
instance ul67 : UL Try.prog 67 (.func #[28] #[24] false) := ⟨Try.underlying67⟩
instance ti67 : TI Try.prog 67 (.nilFunc) 1 8 := ⟨by kernel_rfl⟩
instance na67 : NAgg Try.prog 67 := ⟨fun _ => by kernel_rfl⟩
instance ul68 : UL Try.prog 68 (.func #[31] #[] false) := ⟨Try.underlying68⟩
instance ti68 : TI Try.prog 68 (.nilFunc) 1 8 := ⟨by kernel_rfl⟩
instance na68 : NAgg Try.prog 68 := ⟨fun _ => by kernel_rfl⟩
instance ul69 : UL Try.prog 69 (.func #[31] #[] false) := ⟨Try.underlying69⟩
instance ti69 : TI Try.prog 69 (.nilFunc) 1 8 := ⟨by kernel_rfl⟩
instance na69 : NAgg Try.prog 69 := ⟨fun _ => by kernel_rfl⟩
instance ul70 : UL Try.prog 70 (.func #[] #[69] false) := ⟨Try.underlying70⟩
instance ti70 : TI Try.prog 70 (.nilFunc) 1 8 := ⟨by kernel_rfl⟩
instance na70 : NAgg Try.prog 70 := ⟨fun _ => by kernel_rfl⟩
instance ul71 : UL Try.prog 71 (.func #[33, 5] #[4] false) := ⟨Try.underlying71⟩
instance ti71 : TI Try.prog 71 (.nilFunc) 1 8 := ⟨by kernel_rfl⟩
instance na71 : NAgg Try.prog 71 := ⟨fun _ => by kernel_rfl⟩
instance ul72 : UL Try.prog 72 (.func #[64, 33, 28] #[4] false) := ⟨Try.underlying72⟩
instance ti72 : TI Try.prog 72 (.nilFunc) 1 8 := ⟨by kernel_rfl⟩
instance na72 : NAgg Try.prog 72 := ⟨fun _ => by kernel_rfl⟩
instance ul73 : UL Try.prog 73 (.func #[64, 28, 3] #[4] false) := ⟨Try.underlying73⟩
instance ti73 : TI Try.prog 73 (.nilFunc) 1 8 := ⟨by kernel_rfl⟩
instance na73 : NAgg Try.prog 73 := ⟨fun _ => by kernel_rfl⟩
instance ul74 : UL Try.prog 74 (.func #[33, 33] #[4] false) := ⟨Try.underlying74⟩
instance ti74 : TI Try.prog 74 (.nilFunc) 1 8 := ⟨by kernel_rfl⟩
instance na74 : NAgg Try.prog 74 := ⟨fun _ => by kernel_rfl⟩
instance ul75 : UL Try.prog 75 (.func #[64] #[33] false) := ⟨Try.underlying75⟩
instance ti75 : TI Try.prog 75 (.nilFunc) 1 8 := ⟨by kernel_rfl⟩
instance na75 : NAgg Try.prog 75 := ⟨fun _ => by kernel_rfl⟩
instance ul76 : UL Try.prog 76 (.func #[33, 3] #[33] false) := ⟨Try.underlying76⟩
instance ti76 : TI Try.prog 76 (.nilFunc) 1 8 := ⟨by kernel_rfl⟩
instance na76 : NAgg Try.prog 76 := ⟨fun _ => by kernel_rfl⟩
instance ul77 : UL Try.prog 77 (.func #[33, 5, 5] #[4] false) := ⟨Try.underlying77⟩
instance ti77 : TI Try.prog 77 (.nilFunc) 1 8 := ⟨by kernel_rfl⟩
instance na77 : NAgg Try.prog 77 := ⟨fun _ => by kernel_rfl⟩
instance ul78 : UL Try.prog 78 (.slice 83) := ⟨Try.underlying78⟩
instance ti78 : TI Try.prog 78 (.slice none 0 0) 1 24 := ⟨by kernel_rfl⟩
instance na78 : NAgg Try.prog 78 := ⟨fun _ => by kernel_rfl⟩
instance ul79 : UL Try.prog 79 (.func #[78] #[4] false) := ⟨Try.underlying79⟩
instance ti79 : TI Try.prog 79 (.nilFunc) 1 8 := ⟨by kernel_rfl⟩
instance na79 : NAgg Try.prog 79 := ⟨fun _ => by kernel_rfl⟩
instance ul81 : UL Try.prog 81 (.func #[64, 33, 83] #[64, 33, 4] false) := ⟨Try.underlying81⟩
instance ti81 : TI Try.prog 81 (.nilFunc) 1 8 := ⟨by kernel_rfl⟩
instance na81 : NAgg Try.prog 81 := ⟨fun _ => by kernel_rfl⟩
instance ti82 : TI Try.prog 82 (.agg #[.int .i64 0, .int .u32 0, .slice none 0 0]) 3 40 := ⟨by kernel_rfl⟩
instance ia82 : IAgg Try.prog 82 3 := ⟨fun _ => ⟨by kernel_rfl, by kernel_rfl⟩⟩
instance fa82_0 : FA Try.prog 82 0 0 := ⟨fun _ _ => by kernel_rfl⟩
instance fd82_0 : FD Try.prog 82 0 0 := fd_mk (ft := 3) Try.underlying82 rfl
instance fa82_1 : FA Try.prog 82 1 1 := ⟨fun _ _ => by kernel_rfl⟩
instance fd82_1 : FD Try.prog 82 1 1 := fd_mk (ft := 28) Try.underlying82 rfl
instance fa82_2 : FA Try.prog 82 2 2 := ⟨fun _ _ => by kernel_rfl⟩
instance fd82_2 : FD Try.prog 82 2 2 := fd_mk (ft := 33) Try.underlying82 rfl
instance bl82 : BL Try.prog 82 [(0, 1), (1, 1), (2, 1)] [.int .i64 0, .int .u32 0, .slice none 0 0] := bl_mk Try.underlying82 (fun _ => by kernel_rfl)
instance ti83 : TI Try.prog 83 (.agg #[.int .i64 0, .int .u32 0, .slice none 0 0]) 3 40 := ⟨by kernel_rfl⟩
instance ia83 : IAgg Try.prog 83 3 := ⟨fun _ => ⟨by kernel_rfl, by kernel_rfl⟩⟩
instance fa83_0 : FA Try.prog 83 0 0 := ⟨fun _ _ => by kernel_rfl⟩
instance fd83_0 : FD Try.prog 83 0 0 := fd_mk (ft := 3) Try.underlying83 rfl
instance fa83_1 : FA Try.prog 83 1 1 := ⟨fun _ _ => by kernel_rfl⟩
instance fd83_1 : FD Try.prog 83 1 1 := fd_mk (ft := 28) Try.underlying83 rfl
instance fa83_2 : FA Try.prog 83 2 2 := ⟨fun _ _ => by kernel_rfl⟩
instance fd83_2 : FD Try.prog 83 2 2 := fd_mk (ft := 33) Try.underlying83 rfl
instance bl83 : BL Try.prog 83 [(0, 1), (1, 1), (2, 1)] [.int .i64 0, .int .u32 0, .slice none 0 0] := bl_mk Try.underlying83 (fun _ => by kernel_rfl)
instance ti84 : TI Try.prog 84 (.agg #[.pointer none]) 1 8 := ⟨by kernel_rfl⟩
instance ia84 : IAgg Try.prog 84 1 := ⟨fun _ => ⟨by kernel_rfl, by kernel_rfl⟩⟩
instance fa84_0 : FA Try.prog 84 0 0 := ⟨fun _ _ => by kernel_rfl⟩
instance fd84_0 : FD Try.prog 84 0 0 := fd_mk (ft := 57) Try.underlying84 rfl
instance bl84 : BL Try.prog 84 [(0, 1)] [.pointer none] := bl_mk Try.underlying84 (fun _ => by kernel_rfl)
instance ti85 : TI Try.prog 85 (.agg #[.pointer none]) 1 8 := ⟨by kernel_rfl⟩
instance ia85 : IAgg Try.prog 85 1 := ⟨fun _ => ⟨by kernel_rfl, by kernel_rfl⟩⟩
instance fa85_0 : FA Try.prog 85 0 0 := ⟨fun _ _ => by kernel_rfl⟩
instance fd85_0 : FD Try.prog 85 0 0 := fd_mk (ft := 57) Try.underlying85 rfl
instance bl85 : BL Try.prog 85 [(0, 1)] [.pointer none] := bl_mk Try.underlying85 (fun _ => by kernel_rfl)
instance ul86 : UL Try.prog 86 (.slice 64) := ⟨Try.underlying86⟩
instance ti86 : TI Try.prog 86 (.slice none 0 0) 1 24 := ⟨by kernel_rfl⟩
instance na86 : NAgg Try.prog 86 := ⟨fun _ => by kernel_rfl⟩
instance ul87 : UL Try.prog 87 (.func #[64, 28, 28, 24] #[4] false) := ⟨Try.underlying87⟩
instance ti87 : TI Try.prog 87 (.nilFunc) 1 8 := ⟨by kernel_rfl⟩
instance na87 : NAgg Try.prog 87 := ⟨fun _ => by kernel_rfl⟩
instance ul88 : UL Try.prog 88 (.func #[33] #[24] false) := ⟨Try.underlying88⟩
instance ti88 : TI Try.prog 88 (.nilFunc) 1 8 := ⟨by kernel_rfl⟩
instance na88 : NAgg Try.prog 88 := ⟨fun _ => by kernel_rfl⟩
instance ul90 : UL Try.prog 90 (.func #[3, 3] #[57, 24] false) := ⟨Try.underlying90⟩
instance ti90 : TI Try.prog 90 (.nilFunc) 1 8 := ⟨by kernel_rfl⟩
instance na90 : NAgg Try.prog 90 := ⟨fun _ => by kernel_rfl⟩
instance ul91 : UL Try.prog 91 (.func #[3, 28] #[24] false) := ⟨Try.underlying91⟩
instance ti91 : TI Try.prog 91 (.nilFunc) 1 8 := ⟨by kernel_rfl⟩
instance na91 : NAgg Try.prog 91 := ⟨fun _ => by kernel_rfl⟩
instance ul93 : UL Try.prog 93 (.func #[3] #[28, 24] false) := ⟨Try.underlying93⟩
instance ti93 : TI Try.prog 93 (.nilFunc) 1 8 := ⟨by kernel_rfl⟩
instance na93 : NAgg Try.prog 93 := ⟨fun _ => by kernel_rfl⟩
instance ul94 : UL Try.prog 94 (.func #[3] #[69] false) := ⟨Try.underlying94⟩
instance ti94 : TI Try.prog 94 (.nilFunc) 1 8 := ⟨by kernel_rfl⟩
instance na94 : NAgg Try.prog 94 := ⟨fun _ => by kernel_rfl⟩
instance ul95 : UL Try.prog 95 (.func #[28] #[28] false) := ⟨Try.underlying95⟩
instance ti95 : TI Try.prog 95 (.nilFunc) 1 8 := ⟨by kernel_rfl⟩
instance na95 : NAgg Try.prog 95 := ⟨fun _ => by kernel_rfl⟩
instance ul96 : UL Try.prog 96 (.func #[128] #[] false) := ⟨Try.underlying96⟩
instance ti96 : TI Try.prog 96 (.nilFunc) 1 8 := ⟨by kernel_rfl⟩
instance na96 : NAgg Try.prog 96 := ⟨fun _ => by kernel_rfl⟩
instance ul97 : UL Try.prog 97 (.func #[128] #[] false) := ⟨Try.underlying97⟩
instance ti97 : TI Try.prog 97 (.nilFunc) 1 8 := ⟨by kernel_rfl⟩
instance na97 : NAgg Try.prog 97 := ⟨fun _ => by kernel_rfl⟩
instance ul98 : UL Try.prog 98 (.func #[33] #[97] false) := ⟨Try.underlying98⟩
instance ti98 : TI Try.prog 98 (.nilFunc) 1 8 := ⟨by kernel_rfl⟩
instance na98 : NAgg Try.prog 98 := ⟨fun _ => by kernel_rfl⟩
instance ul100 : UL Try.prog 100 (.func #[28] #[35, 28, 4] false) := ⟨Try.underlying100⟩
instance ti100 : TI Try.prog 100 (.nilFunc) 1 8 := ⟨by kernel_rfl⟩
instance na100 : NAgg Try.prog 100 := ⟨fun _ => by kernel_rfl⟩
instance ul102 : UL Try.prog 102 (.func #[28] #[35, 4] false) := ⟨Try.underlying102⟩
instance ti102 : TI Try.prog 102 (.nilFunc) 1 8 := ⟨by kernel_rfl⟩
instance na102 : NAgg Try.prog 102 := ⟨fun _ => by kernel_rfl⟩
instance ul104 : UL Try.prog 104 (.func #[] #[35, 28, 3] false) := ⟨Try.underlying104⟩
instance ti104 : TI Try.prog 104 (.nilFunc) 1 8 := ⟨by kernel_rfl⟩
instance na104 : NAgg Try.prog 104 := ⟨fun _ => by kernel_rfl⟩
instance ul106 : UL Try.prog 106 (.func #[3] #[35, 33, 3] false) := ⟨Try.underlying106⟩
instance ti106 : TI Try.prog 106 (.nilFunc) 1 8 := ⟨by kernel_rfl⟩
instance na106 : NAgg Try.prog 106 := ⟨fun _ => by kernel_rfl⟩
instance ul107 : UL Try.prog 107 (.func #[] #[57] false) := ⟨Try.underlying107⟩
instance ti107 : TI Try.prog 107 (.nilFunc) 1 8 := ⟨by kernel_rfl⟩
instance na107 : NAgg Try.prog 107 := ⟨fun _ => by kernel_rfl⟩
instance ul108 : UL Try.prog 108 (.func #[33] #[33] false) := ⟨Try.underlying108⟩
instance ti108 : TI Try.prog 108 (.nilFunc) 1 8 := ⟨by kernel_rfl⟩
instance na108 : NAgg Try.prog 108 := ⟨fun _ => by kernel_rfl⟩
instance ul109 : UL Try.prog 109 (.func #[58] #[58] false) := ⟨Try.underlying109⟩
instance ti109 : TI Try.prog 109 (.nilFunc) 1 8 := ⟨by kernel_rfl⟩
instance na109 : NAgg Try.prog 109 := ⟨fun _ => by kernel_rfl⟩
instance ul110 : UL Try.prog 110 (.func #[33, 28] #[3] false) := ⟨Try.underlying110⟩
instance ti110 : TI Try.prog 110 (.nilFunc) 1 8 := ⟨by kernel_rfl⟩
instance na110 : NAgg Try.prog 110 := ⟨fun _ => by kernel_rfl⟩
instance ul111 : UL Try.prog 111 (.func #[28] #[] false) := ⟨Try.underlying111⟩
instance ti111 : TI Try.prog 111 (.nilFunc) 1 8 := ⟨by kernel_rfl⟩
instance na111 : NAgg Try.prog 111 := ⟨fun _ => by kernel_rfl⟩
instance ul113 : UL Try.prog 113 (.func #[28] #[3, 24] false) := ⟨Try.underlying113⟩
instance ti113 : TI Try.prog 113 (.nilFunc) 1 8 := ⟨by kernel_rfl⟩
instance na113 : NAgg Try.prog 113 := ⟨fun _ => by kernel_rfl⟩
instance ul114 : UL Try.prog 114 (.func #[33, 33] #[33, 24] false) := ⟨Try.underlying114⟩
instance ti114 : TI Try.prog 114 (.nilFunc) 1 8 := ⟨by kernel_rfl⟩
instance na114 : NAgg Try.prog 114 := ⟨fun _ => by kernel_rfl⟩
instance ul115 : UL Try.prog 115 (.func #[3] #[3] false) := ⟨Try.underlying115⟩
instance ti115 : TI Try.prog 115 (.nilFunc) 1 8 := ⟨by kernel_rfl⟩
instance na115 : NAgg Try.prog 115 := ⟨fun _ => by kernel_rfl⟩
instance ul116 : UL Try.prog 116 (.slice 123) := ⟨Try.underlying116⟩
instance ti116 : TI Try.prog 116 (.slice none 0 0) 1 24 := ⟨by kernel_rfl⟩
instance na116 : NAgg Try.prog 116 := ⟨fun _ => by kernel_rfl⟩
instance ul117 : UL Try.prog 117 (.slice 3) := ⟨Try.underlying117⟩
instance ti117 : TI Try.prog 117 (.slice none 0 0) 1 24 := ⟨by kernel_rfl⟩
instance na117 : NAgg Try.prog 117 := ⟨fun _ => by kernel_rfl⟩
instance ti118 : TI Try.prog 118 (.agg #[.slice none 0 0, .int .i64 0, .slice none 0 0]) 3 56 := ⟨by kernel_rfl⟩
instance ia118 : IAgg Try.prog 118 3 := ⟨fun _ => ⟨by kernel_rfl, by kernel_rfl⟩⟩
instance fa118_0 : FA Try.prog 118 0 0 := ⟨fun _ _ => by kernel_rfl⟩
instance fd118_0 : FD Try.prog 118 0 0 := fd_mk (ft := 116) Try.underlying118 rfl
instance fa118_1 : FA Try.prog 118 1 1 := ⟨fun _ _ => by kernel_rfl⟩
instance fd118_1 : FD Try.prog 118 1 1 := fd_mk (ft := 3) Try.underlying118 rfl
instance fa118_2 : FA Try.prog 118 2 2 := ⟨fun _ _ => by kernel_rfl⟩
instance fd118_2 : FD Try.prog 118 2 2 := fd_mk (ft := 117) Try.underlying118 rfl
instance bl118 : BL Try.prog 118 [(0, 1), (1, 1), (2, 1)] [.slice none 0 0, .int .i64 0, .slice none 0 0] := bl_mk Try.underlying118 (fun _ => by kernel_rfl)
instance ti119 : TI Try.prog 119 (.agg #[.slice none 0 0, .int .i64 0, .slice none 0 0]) 3 56 := ⟨by kernel_rfl⟩
instance ia119 : IAgg Try.prog 119 3 := ⟨fun _ => ⟨by kernel_rfl, by kernel_rfl⟩⟩
instance fa119_0 : FA Try.prog 119 0 0 := ⟨fun _ _ => by kernel_rfl⟩
instance fd119_0 : FD Try.prog 119 0 0 := fd_mk (ft := 116) Try.underlying119 rfl
instance fa119_1 : FA Try.prog 119 1 1 := ⟨fun _ _ => by kernel_rfl⟩
instance fd119_1 : FD Try.prog 119 1 1 := fd_mk (ft := 3) Try.underlying119 rfl
instance fa119_2 : FA Try.prog 119 2 2 := ⟨fun _ _ => by kernel_rfl⟩
instance fd119_2 : FD Try.prog 119 2 2 := fd_mk (ft := 117) Try.underlying119 rfl
instance bl119 : BL Try.prog 119 [(0, 1), (1, 1), (2, 1)] [.slice none 0 0, .int .i64 0, .slice none 0 0] := bl_mk Try.underlying119 (fun _ => by kernel_rfl)
instance ul120 : UL Try.prog 120 (.int .i64) := ⟨Try.underlying120⟩
instance ti120 : TI Try.prog 120 (.int .i64 0) 1 8 := ⟨by kernel_rfl⟩
instance na120 : NAgg Try.prog 120 := ⟨fun _ => by kernel_rfl⟩
instance ul121 : UL Try.prog 121 (.func #[57] #[28] false) := ⟨Try.underlying121⟩
instance ti121 : TI Try.prog 121 (.nilFunc) 1 8 := ⟨by kernel_rfl⟩
instance na121 : NAgg Try.prog 121 := ⟨fun _ => by kernel_rfl⟩
instance ti122 : TI Try.prog 122 (.agg #[.int .u32 0, .int .u32 0, .int .u32 0]) 3 12 := ⟨by kernel_rfl⟩
instance ia122 : IAgg Try.prog 122 3 := ⟨fun _ => ⟨by kernel_rfl, by kernel_rfl⟩⟩
instance fa122_0 : FA Try.prog 122 0 0 := ⟨fun _ _ => by kernel_rfl⟩
instance fd122_0 : FD Try.prog 122 0 0 := fd_mk (ft := 28) Try.underlying122 rfl
instance fa122_1 : FA Try.prog 122 1 1 := ⟨fun _ _ => by kernel_rfl⟩
instance fd122_1 : FD Try.prog 122 1 1 := fd_mk (ft := 28) Try.underlying122 rfl
instance fa122_2 : FA Try.prog 122 2 2 := ⟨fun _ _ => by kernel_rfl⟩
instance fd122_2 : FD Try.prog 122 2 2 := fd_mk (ft := 28) Try.underlying122 rfl
instance bl122 : BL Try.prog 122 [(0, 1), (1, 1), (2, 1)] [.int .u32 0, .int .u32 0, .int .u32 0] := bl_mk Try.underlying122 (fun _ => by kernel_rfl)
instance ti123 : TI Try.prog 123 (.agg #[.int .u32 0, .int .u32 0, .int .u32 0]) 3 12 := ⟨by kernel_rfl⟩
instance ia123 : IAgg Try.prog 123 3 := ⟨fun _ => ⟨by kernel_rfl, by kernel_rfl⟩⟩
instance fa123_0 : FA Try.prog 123 0 0 := ⟨fun _ _ => by kernel_rfl⟩
instance fd123_0 : FD Try.prog 123 0 0 := fd_mk (ft := 28) Try.underlying123 rfl
instance fa123_1 : FA Try.prog 123 1 1 := ⟨fun _ _ => by kernel_rfl⟩
instance fd123_1 : FD Try.prog 123 1 1 := fd_mk (ft := 28) Try.underlying123 rfl
instance fa123_2 : FA Try.prog 123 2 2 := ⟨fun _ _ => by kernel_rfl⟩
instance fd123_2 : FD Try.prog 123 2 2 := fd_mk (ft := 28) Try.underlying123 rfl
instance bl123 : BL Try.prog 123 [(0, 1), (1, 1), (2, 1)] [.int .u32 0, .int .u32 0, .int .u32 0] := bl_mk Try.underlying123 (fun _ => by kernel_rfl)
instance ul124 : UL Try.prog 124 (.func #[3, 28, 4] #[24] false) := ⟨Try.underlying124⟩
instance ti124 : TI Try.prog 124 (.nilFunc) 1 8 := ⟨by kernel_rfl⟩
instance na124 : NAgg Try.prog 124 := ⟨fun _ => by kernel_rfl⟩
instance ul125 : UL Try.prog 125 (.func #[3] #[24] false) := ⟨Try.underlying125⟩
instance ti125 : TI Try.prog 125 (.nilFunc) 1 8 := ⟨by kernel_rfl⟩
instance na125 : NAgg Try.prog 125 := ⟨fun _ => by kernel_rfl⟩
instance ul126 : UL Try.prog 126 (.func #[28] #[28, 24] false) := ⟨Try.underlying126⟩
instance ti126 : TI Try.prog 126 (.nilFunc) 1 8 := ⟨by kernel_rfl⟩
instance na126 : NAgg Try.prog 126 := ⟨fun _ => by kernel_rfl⟩
instance ul127 : UL Try.prog 127 (.func #[3] #[33] false) := ⟨Try.underlying127⟩
instance ti127 : TI Try.prog 127 (.nilFunc) 1 8 := ⟨by kernel_rfl⟩
instance na127 : NAgg Try.prog 127 := ⟨fun _ => by kernel_rfl⟩
instance ul128 : UL Try.prog 128 (.func #[3, 28] #[4] false) := ⟨Try.underlying128⟩
instance ti128 : TI Try.prog 128 (.nilFunc) 1 8 := ⟨by kernel_rfl⟩
instance na128 : NAgg Try.prog 128 := ⟨fun _ => by kernel_rfl⟩
instance ul129 : UL Try.prog 129 (.func #[33, 28] #[33] false) := ⟨Try.underlying129⟩
instance ti129 : TI Try.prog 129 (.nilFunc) 1 8 := ⟨by kernel_rfl⟩
instance na129 : NAgg Try.prog 129 := ⟨fun _ => by kernel_rfl⟩
instance ul130 : UL Try.prog 130 (.func #[20] #[20] false) := ⟨Try.underlying130⟩
instance ti130 : TI Try.prog 130 (.nilFunc) 1 8 := ⟨by kernel_rfl⟩
instance na130 : NAgg Try.prog 130 := ⟨fun _ => by kernel_rfl⟩
instance ul131 : UL Try.prog 131 (.func #[33, 3] #[24] false) := ⟨Try.underlying131⟩
instance ti131 : TI Try.prog 131 (.nilFunc) 1 8 := ⟨by kernel_rfl⟩
instance na131 : NAgg Try.prog 131 := ⟨fun _ => by kernel_rfl⟩
instance ul132 : UL Try.prog 132 (.func #[133] #[28, 24] false) := ⟨Try.underlying132⟩
instance ti132 : TI Try.prog 132 (.nilFunc) 1 8 := ⟨by kernel_rfl⟩
instance na132 : NAgg Try.prog 132 := ⟨fun _ => by kernel_rfl⟩
instance ul133 : UL Try.prog 133 (.func #[57, 3] #[28, 24] false) := ⟨Try.underlying133⟩
instance ti133 : TI Try.prog 133 (.nilFunc) 1 8 := ⟨by kernel_rfl⟩
instance na133 : NAgg Try.prog 133 := ⟨fun _ => by kernel_rfl⟩
instance ul134 : UL Try.prog 134 (.func #[28, 28] #[] false) := ⟨Try.underlying134⟩
instance ti134 : TI Try.prog 134 (.nilFunc) 1 8 := ⟨by kernel_rfl⟩
instance na134 : NAgg Try.prog 134 := ⟨fun _ => by kernel_rfl⟩
instance ul135 : UL Try.prog 135 (.func #[] #[9] false) := ⟨Try.underlying135⟩
instance ti135 : TI Try.prog 135 (.nilFunc) 1 8 := ⟨by kernel_rfl⟩
instance na135 : NAgg Try.prog 135 := ⟨fun _ => by kernel_rfl⟩
instance ul138 : UL Try.prog 138 (.array 0 16) := ⟨Try.underlying138⟩
instance ti138 : TI Try.prog 138 (.agg #[]) 0 0 := ⟨by kernel_rfl⟩
instance ia138 : IAgg Try.prog 138 0 := ⟨fun _ => ⟨by kernel_rfl, by kernel_rfl⟩⟩
instance ul143 : UL Try.prog 143 (.func #[149, 149] #[4] false) := ⟨Try.underlying143⟩
instance ti143 : TI Try.prog 143 (.nilFunc) 1 8 := ⟨by kernel_rfl⟩
instance na143 : NAgg Try.prog 143 := ⟨fun _ => by kernel_rfl⟩
instance ul144 : UL Try.prog 144 (.pointer 5) := ⟨Try.underlying144⟩
instance ti144 : TI Try.prog 144 (.pointer none) 1 8 := ⟨by kernel_rfl⟩
instance na144 : NAgg Try.prog 144 := ⟨fun _ => by kernel_rfl⟩
instance ti149 : TI Try.prog 149 (.pointer none) 1 8 := ⟨by kernel_rfl⟩
instance na149 : NAgg Try.prog 149 := ⟨fun _ => by kernel_rfl⟩
instance cf3 : CF Try.prog 3 := ⟨fun _ _ => by kernel_rfl⟩
instance cf4 : CF Try.prog 4 := ⟨fun _ _ => by kernel_rfl⟩
instance cf5 : CF Try.prog 5 := ⟨fun _ _ => by kernel_rfl⟩
instance cf6 : CF Try.prog 6 := ⟨fun _ _ => by kernel_rfl⟩
instance cf7 : CF Try.prog 7 := ⟨fun _ _ => by kernel_rfl⟩
instance cf8 : CF Try.prog 8 := ⟨fun _ _ => by kernel_rfl⟩
instance cf9 : CF Try.prog 9 := ⟨fun _ _ => by kernel_rfl⟩
instance cf10 : CF Try.prog 10 := ⟨fun _ _ => by kernel_rfl⟩
instance cf11 : CF Try.prog 11 := ⟨fun _ _ => by kernel_rfl⟩
instance cf12 : CF Try.prog 12 := ⟨fun _ _ => by kernel_rfl⟩
instance cf13 : CF Try.prog 13 := ⟨fun _ _ => by kernel_rfl⟩
instance cf14 : CF Try.prog 14 := ⟨fun _ _ => by kernel_rfl⟩
instance cf15 : CF Try.prog 15 := ⟨fun _ _ => by kernel_rfl⟩
instance cf16 : CF Try.prog 16 := ⟨fun _ _ => by kernel_rfl⟩
instance cf17 : CF Try.prog 17 := ⟨fun _ _ => by kernel_rfl⟩
instance cf18 : CF Try.prog 18 := ⟨fun _ _ => by kernel_rfl⟩
instance cf19 : CF Try.prog 19 := ⟨fun _ _ => by kernel_rfl⟩
instance cf20 : CF Try.prog 20 := ⟨fun _ _ => by kernel_rfl⟩
instance cf21 : CF Try.prog 21 := ⟨fun _ _ => by kernel_rfl⟩
instance cf22 : CF Try.prog 22 := ⟨fun _ _ => by kernel_rfl⟩
instance cf23 : CF Try.prog 23 := ⟨fun _ _ => by kernel_rfl⟩
instance cf24 : CF Try.prog 24 := ⟨fun _ _ => by kernel_rfl⟩
instance cf25 : CF Try.prog 25 := ⟨fun _ _ => by kernel_rfl⟩
instance cf26 : CF Try.prog 26 := ⟨fun _ _ => by kernel_rfl⟩
instance cf27 : CF Try.prog 27 := ⟨fun _ _ => by kernel_rfl⟩
instance cf28 : CF Try.prog 28 := ⟨fun _ _ => by kernel_rfl⟩
instance cf29 : CF Try.prog 29 := ⟨fun _ _ => by kernel_rfl⟩
instance cf30 : CF Try.prog 30 := ⟨fun _ _ => by kernel_rfl⟩
instance cf31 : CF Try.prog 31 := ⟨fun _ _ => by kernel_rfl⟩
instance cf32 : CF Try.prog 32 := ⟨fun _ _ => by kernel_rfl⟩
instance cf33 : CF Try.prog 33 := ⟨fun _ _ => by kernel_rfl⟩
instance cf34 : CF Try.prog 34 := ⟨fun _ _ => by kernel_rfl⟩
instance cf35 : CF Try.prog 35 := ⟨fun _ _ => by kernel_rfl⟩
instance cf36 : CF Try.prog 36 := ⟨fun _ _ => by kernel_rfl⟩
instance cf37 : CF Try.prog 37 := ⟨fun _ _ => by kernel_rfl⟩
instance cf38 : CF Try.prog 38 := ⟨fun _ _ => by kernel_rfl⟩
instance cf39 : CF Try.prog 39 := ⟨fun _ _ => by kernel_rfl⟩
instance cf40 : CF Try.prog 40 := ⟨fun _ _ => by kernel_rfl⟩
instance cf41 : CF Try.prog 41 := ⟨fun _ _ => by kernel_rfl⟩
instance cf42 : CF Try.prog 42 := ⟨fun _ _ => by kernel_rfl⟩
instance cf43 : CF Try.prog 43 := ⟨fun _ _ => by kernel_rfl⟩
instance cf44 : CF Try.prog 44 := ⟨fun _ _ => by kernel_rfl⟩
instance cf45 : CF Try.prog 45 := ⟨fun _ _ => by kernel_rfl⟩
instance cf46 : CF Try.prog 46 := ⟨fun _ _ => by kernel_rfl⟩
instance cf47 : CF Try.prog 47 := ⟨fun _ _ => by kernel_rfl⟩
instance cf48 : CF Try.prog 48 := ⟨fun _ _ => by kernel_rfl⟩
instance cf49 : CF Try.prog 49 := ⟨fun _ _ => by kernel_rfl⟩
instance cf50 : CF Try.prog 50 := ⟨fun _ _ => by kernel_rfl⟩
instance cf51 : CF Try.prog 51 := ⟨fun _ _ => by kernel_rfl⟩
instance cf52 : CF Try.prog 52 := ⟨fun _ _ => by kernel_rfl⟩
instance cf53 : CF Try.prog 53 := ⟨fun _ _ => by kernel_rfl⟩
instance cf54 : CF Try.prog 54 := ⟨fun _ _ => by kernel_rfl⟩
instance cf55 : CF Try.prog 55 := ⟨fun _ _ => by kernel_rfl⟩
instance cf56 : CF Try.prog 56 := ⟨fun _ _ => by kernel_rfl⟩
instance cf57 : CF Try.prog 57 := ⟨fun _ _ => by kernel_rfl⟩
instance cf58 : CF Try.prog 58 := ⟨fun _ _ => by kernel_rfl⟩
instance cf59 : CF Try.prog 59 := ⟨fun _ _ => by kernel_rfl⟩
instance cf60 : CF Try.prog 60 := ⟨fun _ _ => by kernel_rfl⟩
instance cf61 : CF Try.prog 61 := ⟨fun _ _ => by kernel_rfl⟩
instance cf62 : CF Try.prog 62 := ⟨fun _ _ => by kernel_rfl⟩
instance cf63 : CF Try.prog 63 := ⟨fun _ _ => by kernel_rfl⟩
instance cf64 : CF Try.prog 64 := ⟨fun _ _ => by kernel_rfl⟩
instance cf65 : CF Try.prog 65 := ⟨fun _ _ => by kernel_rfl⟩
instance cf66 : CF Try.prog 66 := ⟨fun _ _ => by kernel_rfl⟩
instance cf67 : CF Try.prog 67 := ⟨fun _ _ => by kernel_rfl⟩
instance cf68 : CF Try.prog 68 := ⟨fun _ _ => by kernel_rfl⟩
instance cf69 : CF Try.prog 69 := ⟨fun _ _ => by kernel_rfl⟩
instance cf70 : CF Try.prog 70 := ⟨fun _ _ => by kernel_rfl⟩
instance cf71 : CF Try.prog 71 := ⟨fun _ _ => by kernel_rfl⟩
instance cf72 : CF Try.prog 72 := ⟨fun _ _ => by kernel_rfl⟩
instance cf74 : CF Try.prog 74 := ⟨fun _ _ => by kernel_rfl⟩
instance cf75 : CF Try.prog 75 := ⟨fun _ _ => by kernel_rfl⟩
instance cf76 : CF Try.prog 76 := ⟨fun _ _ => by kernel_rfl⟩
instance cf77 : CF Try.prog 77 := ⟨fun _ _ => by kernel_rfl⟩
instance cf78 : CF Try.prog 78 := ⟨fun _ _ => by kernel_rfl⟩
instance cf79 : CF Try.prog 79 := ⟨fun _ _ => by kernel_rfl⟩
instance cf80 : CF Try.prog 80 := ⟨fun _ _ => by kernel_rfl⟩
instance cf81 : CF Try.prog 81 := ⟨fun _ _ => by kernel_rfl⟩
instance cf82 : CF Try.prog 82 := ⟨fun _ _ => by kernel_rfl⟩
instance cf83 : CF Try.prog 83 := ⟨fun _ _ => by kernel_rfl⟩
instance cf84 : CF Try.prog 84 := ⟨fun _ _ => by kernel_rfl⟩
instance cf85 : CF Try.prog 85 := ⟨fun _ _ => by kernel_rfl⟩
instance cf86 : CF Try.prog 86 := ⟨fun _ _ => by kernel_rfl⟩
instance cf87 : CF Try.prog 87 := ⟨fun _ _ => by kernel_rfl⟩
instance cf88 : CF Try.prog 88 := ⟨fun _ _ => by kernel_rfl⟩
instance cf89 : CF Try.prog 89 := ⟨fun _ _ => by kernel_rfl⟩
instance cf90 : CF Try.prog 90 := ⟨fun _ _ => by kernel_rfl⟩
instance cf92 : CF Try.prog 92 := ⟨fun _ _ => by kernel_rfl⟩
instance cf93 : CF Try.prog 93 := ⟨fun _ _ => by kernel_rfl⟩
instance cf94 : CF Try.prog 94 := ⟨fun _ _ => by kernel_rfl⟩
instance cf95 : CF Try.prog 95 := ⟨fun _ _ => by kernel_rfl⟩
instance cf96 : CF Try.prog 96 := ⟨fun _ _ => by kernel_rfl⟩
instance cf97 : CF Try.prog 97 := ⟨fun _ _ => by kernel_rfl⟩
instance ex91 : EX Try.prog 91 Extern.MapsClone.clone := ⟨fun args w => run_callFunc_extern Try.func91 (by kernel_rfl) (by kernel_rfl) (by kernel_rfl) (by kernel_rfl) args w⟩
instance mz3 : MZ Try.prog 3 (fun z : Int => .int .i64 z) 0 := ⟨fun w => by have h := (mz_of (P := Try.prog) (e := 3) (V := fun v : Value => v)).out w; exact h⟩
instance mz28 : MZ Try.prog 28 (fun n : Nat => .int .u32 (n : Nat)) 0 := ⟨fun w => by have h := (mz_of (P := Try.prog) (e := 28) (V := fun v : Value => v)).out w; exact h⟩
end Go.Proofs.Ytbdiabakcgafgaa
