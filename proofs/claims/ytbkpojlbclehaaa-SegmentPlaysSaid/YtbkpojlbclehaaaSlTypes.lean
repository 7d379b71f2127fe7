/- What the program says of its types and functions. -/
import Derived.Test.YtbkpojlbclehaaaSlM
import Derived.Test.YtbkpojlbclehaaaRows
namespace Go.Proofs.Ytbkpojlbclehaaa
open Go.Sl
instance ul1 : UL Try.prog 1 (.func #[] #[] false) := ⟨Try.underlying1⟩
instance ti1 : TI Try.prog 1 (.nilFunc) 1 8 := ⟨by kernel_rfl⟩
instance na1 : NAgg Try.prog 1 := ⟨fun _ => by kernel_rfl⟩
instance ul2 : UL Try.prog 2 (.int .i64) := ⟨Try.underlying2⟩
instance ti2 : TI Try.prog 2 (.int .i64 0) 1 8 := ⟨by kernel_rfl⟩
instance na2 : NAgg Try.prog 2 := ⟨fun _ => by kernel_rfl⟩
instance ul3 : UL Try.prog 3 (.int .i64) := ⟨Try.underlying3⟩
instance ti3 : TI Try.prog 3 (.int .i64 0) 1 8 := ⟨by kernel_rfl⟩
instance na3 : NAgg Try.prog 3 := ⟨fun _ => by kernel_rfl⟩
instance ul4 : UL Try.prog 4 (.bool) := ⟨Try.underlying4⟩
instance ti4 : TI Try.prog 4 (.bool false) 1 1 := ⟨by kernel_rfl⟩
instance na4 : NAgg Try.prog 4 := ⟨fun _ => by kernel_rfl⟩
instance ul5 : UL Try.prog 5 (.int .u8) := ⟨Try.underlying5⟩
instance ti5 : TI Try.prog 5 (.int .u8 0) 1 1 := ⟨by kernel_rfl⟩
instance na5 : NAgg Try.prog 5 := ⟨fun _ => by kernel_rfl⟩
instance ul9 : UL Try.prog 9 (.string) := ⟨Try.underlying9⟩
instance ti9 : TI Try.prog 9 (.string ByteArray.empty) 1 16 := ⟨by kernel_rfl⟩
instance na9 : NAgg Try.prog 9 := ⟨fun _ => by kernel_rfl⟩
instance ul12 : UL Try.prog 12 (.int .u64) := ⟨Try.underlying12⟩
instance ti12 : TI Try.prog 12 (.int .u64 0) 1 8 := ⟨by kernel_rfl⟩
instance na12 : NAgg Try.prog 12 := ⟨fun _ => by kernel_rfl⟩
instance ti20 : TI Try.prog 20 (.nilIface) 1 16 := ⟨by kernel_rfl⟩
instance na20 : NAgg Try.prog 20 := ⟨fun _ => by kernel_rfl⟩
instance ul21 : UL Try.prog 21 (.int .i32) := ⟨Try.underlying21⟩
instance ti21 : TI Try.prog 21 (.int .i32 0) 1 4 := ⟨by kernel_rfl⟩
instance na21 : NAgg Try.prog 21 := ⟨fun _ => by kernel_rfl⟩
instance ul22 : UL Try.prog 22 (.pointer 68) := ⟨Try.underlying22⟩
instance ti22 : TI Try.prog 22 (.pointer none) 1 8 := ⟨by kernel_rfl⟩
instance na22 : NAgg Try.prog 22 := ⟨fun _ => by kernel_rfl⟩
instance ul23 : UL Try.prog 23 (.int .i64) := ⟨Try.underlying23⟩
instance ti23 : TI Try.prog 23 (.int .i64 0) 1 8 := ⟨by kernel_rfl⟩
instance na23 : NAgg Try.prog 23 := ⟨fun _ => by kernel_rfl⟩
instance ul25 : UL Try.prog 25 (.func #[3] #[22, 23] false) := ⟨Try.underlying25⟩
instance ti25 : TI Try.prog 25 (.nilFunc) 1 8 := ⟨by kernel_rfl⟩
instance na25 : NAgg Try.prog 25 := ⟨fun _ => by kernel_rfl⟩
instance ul26 : UL Try.prog 26 (.slice 50) := ⟨Try.underlying26⟩
instance ti26 : TI Try.prog 26 (.slice none 0 0) 1 24 := ⟨by kernel_rfl⟩
instance na26 : NAgg Try.prog 26 := ⟨fun _ => by kernel_rfl⟩
instance ul27 : UL Try.prog 27 (.array 2 26) := ⟨Try.underlying27⟩
instance ti27 : TI Try.prog 27 (.agg #[.slice none 0 0, .slice none 0 0]) 2 48 := ⟨by kernel_rfl⟩
instance ia27 : IAgg Try.prog 27 2 := ⟨fun _ => ⟨by kernel_rfl, by kernel_rfl⟩⟩
instance ti28 : TI Try.prog 28 (.agg #[.slice none 0 0, .slice none 0 0, .int .i64 0]) 3 56 := ⟨by kernel_rfl⟩
instance ia28 : IAgg Try.prog 28 3 := ⟨fun _ => ⟨by kernel_rfl, by kernel_rfl⟩⟩
instance fa28_0 : FA Try.prog 28 0 0 := ⟨fun _ _ => by kernel_rfl⟩
instance fa28_1 : FA Try.prog 28 1 2 := ⟨fun _ _ => by kernel_rfl⟩
instance fd28_1 : FD Try.prog 28 1 2 := fd_mk (ft := 3) Try.underlying28 rfl
instance bl28 : BL Try.prog 28 [(0, 2), (2, 1)] [.slice none 0 0, .slice none 0 0, .int .i64 0] := bl_mk Try.underlying28 (fun _ => by kernel_rfl)
instance ti29 : TI Try.prog 29 (.agg #[.slice none 0 0, .slice none 0 0, .int .i64 0]) 3 56 := ⟨by kernel_rfl⟩
instance ia29 : IAgg Try.prog 29 3 := ⟨fun _ => ⟨by kernel_rfl, by kernel_rfl⟩⟩
instance fa29_0 : FA Try.prog 29 0 0 := ⟨fun _ _ => by kernel_rfl⟩
instance fa29_1 : FA Try.prog 29 1 2 := ⟨fun _ _ => by kernel_rfl⟩
instance fd29_1 : FD Try.prog 29 1 2 := fd_mk (ft := 3) Try.underlying29 rfl
instance bl29 : BL Try.prog 29 [(0, 2), (2, 1)] [.slice none 0 0, .slice none 0 0, .int .i64 0] := bl_mk Try.underlying29 (fun _ => by kernel_rfl)
instance ul31 : UL Try.prog 31 (.func #[3] #[29, 4] false) := ⟨Try.underlying31⟩
instance ti31 : TI Try.prog 31 (.nilFunc) 1 8 := ⟨by kernel_rfl⟩
instance na31 : NAgg Try.prog 31 := ⟨fun _ => by kernel_rfl⟩
instance ul32 : UL Try.prog 32 (.func #[] #[4] false) := ⟨Try.underlying32⟩
instance ti32 : TI Try.prog 32 (.nilFunc) 1 8 := ⟨by kernel_rfl⟩
instance na32 : NAgg Try.prog 32 := ⟨fun _ => by kernel_rfl⟩
instance ul33 : UL Try.prog 33 (.func #[22, 29, 34] #[4] false) := ⟨Try.underlying33⟩
instance ti33 : TI Try.prog 33 (.nilFunc) 1 8 := ⟨by kernel_rfl⟩
instance na33 : NAgg Try.prog 33 := ⟨fun _ => by kernel_rfl⟩
instance ul34 : UL Try.prog 34 (.int .u32) := ⟨Try.underlying34⟩
instance ti34 : TI Try.prog 34 (.int .u32 0) 1 4 := ⟨by kernel_rfl⟩
instance na34 : NAgg Try.prog 34 := ⟨fun _ => by kernel_rfl⟩
instance ul35 : UL Try.prog 35 (.func #[3] #[4] false) := ⟨Try.underlying35⟩
instance ti35 : TI Try.prog 35 (.nilFunc) 1 8 := ⟨by kernel_rfl⟩
instance na35 : NAgg Try.prog 35 := ⟨fun _ => by kernel_rfl⟩
instance ul36 : UL Try.prog 36 (.slice 40) := ⟨Try.underlying36⟩
instance ti36 : TI Try.prog 36 (.slice none 0 0) 1 24 := ⟨by kernel_rfl⟩
instance na36 : NAgg Try.prog 36 := ⟨fun _ => by kernel_rfl⟩
instance ul37 : UL Try.prog 37 (.func #[36] #[4] false) := ⟨Try.underlying37⟩
instance ti37 : TI Try.prog 37 (.nilFunc) 1 8 := ⟨by kernel_rfl⟩
instance na37 : NAgg Try.prog 37 := ⟨fun _ => by kernel_rfl⟩
instance ul38 : UL Try.prog 38 (.slice 34) := ⟨Try.underlying38⟩
instance ti38 : TI Try.prog 38 (.slice none 0 0) 1 24 := ⟨by kernel_rfl⟩
instance na38 : NAgg Try.prog 38 := ⟨fun _ => by kernel_rfl⟩
instance ti39 : TI Try.prog 39 (.agg #[.int .i64 0, .int .u32 0, .int .i64 0, .slice none 0 0]) 4 48 := ⟨by kernel_rfl⟩
instance ia39 : IAgg Try.prog 39 4 := ⟨fun _ => ⟨by kernel_rfl, by kernel_rfl⟩⟩
instance fa39_0 : FA Try.prog 39 0 0 := ⟨fun _ _ => by kernel_rfl⟩
instance fd39_0 : FD Try.prog 39 0 0 := fd_mk (ft := 3) Try.underlying39 rfl
instance fa39_1 : FA Try.prog 39 1 1 := ⟨fun _ _ => by kernel_rfl⟩
instance fd39_1 : FD Try.prog 39 1 1 := fd_mk (ft := 34) Try.underlying39 rfl
instance fa39_2 : FA Try.prog 39 2 2 := ⟨fun _ _ => by kernel_rfl⟩
instance fd39_2 : FD Try.prog 39 2 2 := fd_mk (ft := 3) Try.underlying39 rfl
instance fa39_3 : FA Try.prog 39 3 3 := ⟨fun _ _ => by kernel_rfl⟩
instance fd39_3 : FD Try.prog 39 3 3 := fd_mk (ft := 38) Try.underlying39 rfl
instance bl39 : BL Try.prog 39 [(0, 1), (1, 1), (2, 1), (3, 1)] [.int .i64 0, .int .u32 0, .int .i64 0, .slice none 0 0] := bl_mk Try.underlying39 (fun _ => by kernel_rfl)
instance ti40 : TI Try.prog 40 (.agg #[.int .i64 0, .int .u32 0, .int .i64 0, .slice none 0 0]) 4 48 := ⟨by kernel_rfl⟩
instance ia40 : IAgg Try.prog 40 4 := ⟨fun _ => ⟨by kernel_rfl, by kernel_rfl⟩⟩
instance fa40_0 : FA Try.prog 40 0 0 := ⟨fun _ _ => by kernel_rfl⟩
instance fd40_0 : FD Try.prog 40 0 0 := fd_mk (ft := 3) Try.underlying40 rfl
instance fa40_1 : FA Try.prog 40 1 1 := ⟨fun _ _ => by kernel_rfl⟩
instance fd40_1 : FD Try.prog 40 1 1 := fd_mk (ft := 34) Try.underlying40 rfl
instance fa40_2 : FA Try.prog 40 2 2 := ⟨fun _ _ => by kernel_rfl⟩
instance fd40_2 : FD Try.prog 40 2 2 := fd_mk (ft := 3) Try.underlying40 rfl
instance fa40_3 : FA Try.prog 40 3 3 := ⟨fun _ _ => by kernel_rfl⟩
instance fd40_3 : FD Try.prog 40 3 3 := fd_mk (ft := 38) Try.underlying40 rfl
instance bl40 : BL Try.prog 40 [(0, 1), (1, 1), (2, 1), (3, 1)] [.int .i64 0, .int .u32 0, .int .i64 0, .slice none 0 0] := bl_mk Try.underlying40 (fun _ => by kernel_rfl)
instance ul41 : UL Try.prog 41 (.func #[42] #[3] false) := ⟨Try.underlying41⟩
instance ti41 : TI Try.prog 41 (.nilFunc) 1 8 := ⟨by kernel_rfl⟩
instance na41 : NAgg Try.prog 41 := ⟨fun _ => by kernel_rfl⟩
instance ul42 : UL Try.prog 42 (.int .i64) := ⟨Try.underlying42⟩
instance ti42 : TI Try.prog 42 (.int .i64 0) 1 8 := ⟨by kernel_rfl⟩
instance na42 : NAgg Try.prog 42 := ⟨fun _ => by kernel_rfl⟩
instance ul43 : UL Try.prog 43 (.func #[34, 3] #[23] false) := ⟨Try.underlying43⟩
instance ti43 : TI Try.prog 43 (.nilFunc) 1 8 := ⟨by kernel_rfl⟩
instance na43 : NAgg Try.prog 43 := ⟨fun _ => by kernel_rfl⟩
instance ul45 : UL Try.prog 45 (.func #[34, 3] #[38, 23] false) := ⟨Try.underlying45⟩
instance ti45 : TI Try.prog 45 (.nilFunc) 1 8 := ⟨by kernel_rfl⟩
instance na45 : NAgg Try.prog 45 := ⟨fun _ => by kernel_rfl⟩
instance ul46 : UL Try.prog 46 (.func #[34] #[23] false) := ⟨Try.underlying46⟩
instance ti46 : TI Try.prog 46 (.nilFunc) 1 8 := ⟨by kernel_rfl⟩
instance na46 : NAgg Try.prog 46 := ⟨fun _ => by kernel_rfl⟩
instance ul47 : UL Try.prog 47 (.func #[3] #[38, 23] false) := ⟨Try.underlying47⟩
instance ti47 : TI Try.prog 47 (.nilFunc) 1 8 := ⟨by kernel_rfl⟩
instance na47 : NAgg Try.prog 47 := ⟨fun _ => by kernel_rfl⟩
instance ul48 : UL Try.prog 48 (.func #[42] #[26] false) := ⟨Try.underlying48⟩
instance ti48 : TI Try.prog 48 (.nilFunc) 1 8 := ⟨by kernel_rfl⟩
instance na48 : NAgg Try.prog 48 := ⟨fun _ => by kernel_rfl⟩
instance ti49 : TI Try.prog 49 (.agg #[.int .u32 0, .int .i64 0]) 2 16 := ⟨by kernel_rfl⟩
instance ia49 : IAgg Try.prog 49 2 := ⟨fun _ => ⟨by kernel_rfl, by kernel_rfl⟩⟩
instance fa49_0 : FA Try.prog 49 0 0 := ⟨fun _ _ => by kernel_rfl⟩
instance fd49_0 : FD Try.prog 49 0 0 := fd_mk (ft := 34) Try.underlying49 rfl
instance fa49_1 : FA Try.prog 49 1 1 := ⟨fun _ _ => by kernel_rfl⟩
instance fd49_1 : FD Try.prog 49 1 1 := fd_mk (ft := 3) Try.underlying49 rfl
instance bl49 : BL Try.prog 49 [(0, 1), (1, 1)] [.int .u32 0, .int .i64 0] := bl_mk Try.underlying49 (fun _ => by kernel_rfl)
instance ti50 : TI Try.prog 50 (.agg #[.int .u32 0, .int .i64 0]) 2 16 := ⟨by kernel_rfl⟩
instance ia50 : IAgg Try.prog 50 2 := ⟨fun _ => ⟨by kernel_rfl, by kernel_rfl⟩⟩
instance fa50_0 : FA Try.prog 50 0 0 := ⟨fun _ _ => by kernel_rfl⟩
instance fd50_0 : FD Try.prog 50 0 0 := fd_mk (ft := 34) Try.underlying50 rfl
instance fa50_1 : FA Try.prog 50 1 1 := ⟨fun _ _ => by kernel_rfl⟩
instance fd50_1 : FD Try.prog 50 1 1 := fd_mk (ft := 3) Try.underlying50 rfl
instance bl50 : BL Try.prog 50 [(0, 1), (1, 1)] [.int .u32 0, .int .i64 0] := bl_mk Try.underlying50 (fun _ => by kernel_rfl)
instance ul51 : UL Try.prog 51 (.func #[3, 36] #[4] false) := ⟨Try.underlying51⟩
instance ti51 : TI Try.prog 51 (.nilFunc) 1 8 := ⟨by kernel_rfl⟩
instance na51 : NAgg Try.prog 51 := ⟨fun _ => by kernel_rfl⟩
instance ul52 : UL Try.prog 52 (.slice 55) := ⟨Try.underlying52⟩
instance ti52 : TI Try.prog 52 (.slice none 0 0) 1 24 := ⟨by kernel_rfl⟩
instance na52 : NAgg Try.prog 52 := ⟨fun _ => by kernel_rfl⟩
instance ul53 : UL Try.prog 53 (.pointer 105) := ⟨Try.underlying53⟩
instance ti53 : TI Try.prog 53 (.pointer none) 1 8 := ⟨by kernel_rfl⟩
instance na53 : NAgg Try.prog 53 := ⟨fun _ => by kernel_rfl⟩
instance ul54 : UL Try.prog 54 (.func #[] #[53] false) := ⟨Try.underlying54⟩
instance ti54 : TI Try.prog 54 (.nilFunc) 1 8 := ⟨by kernel_rfl⟩
instance na54 : NAgg Try.prog 54 := ⟨fun _ => by kernel_rfl⟩
instance ul55 : UL Try.prog 55 (.int .u16) := ⟨Try.underlying55⟩
instance ti55 : TI Try.prog 55 (.int .u16 0) 1 2 := ⟨by kernel_rfl⟩
instance na55 : NAgg Try.prog 55 := ⟨fun _ => by kernel_rfl⟩
instance ul56 : UL Try.prog 56 (.func #[34] #[4] false) := ⟨Try.underlying56⟩
instance ti56 : TI Try.prog 56 (.nilFunc) 1 8 := ⟨by kernel_rfl⟩
instance na56 : NAgg Try.prog 56 := ⟨fun _ => by kernel_rfl⟩
instance ul57 : UL Try.prog 57 (.func #[38, 38] #[4] false) := ⟨Try.underlying57⟩
instance ti57 : TI Try.prog 57 (.nilFunc) 1 8 := ⟨by kernel_rfl⟩
instance na57 : NAgg Try.prog 57 := ⟨fun _ => by kernel_rfl⟩
instance ul58 : UL Try.prog 58 (.func #[56] #[] false) := ⟨Try.underlying58⟩
instance ti58 : TI Try.prog 58 (.nilFunc) 1 8 := ⟨by kernel_rfl⟩
instance na58 : NAgg Try.prog 58 := ⟨fun _ => by kernel_rfl⟩
instance ul59 : UL Try.prog 59 (.func #[56] #[] false) := ⟨Try.underlying59⟩
instance ti59 : TI Try.prog 59 (.nilFunc) 1 8 := ⟨by kernel_rfl⟩
instance na59 : NAgg Try.prog 59 := ⟨fun _ => by kernel_rfl⟩
instance ul60 : UL Try.prog 60 (.func #[] #[59] false) := ⟨Try.underlying60⟩
instance ti60 : TI Try.prog 60 (.nilFunc) 1 8 := ⟨by kernel_rfl⟩
instance na60 : NAgg Try.prog 60 := ⟨fun _ => by kernel_rfl⟩
instance ul61 : UL Try.prog 61 (.func #[38, 52, 4] #[4] false) := ⟨Try.underlying61⟩
instance ti61 : TI Try.prog 61 (.nilFunc) 1 8 := ⟨by kernel_rfl⟩
instance na61 : NAgg Try.prog 61 := ⟨fun _ => by kernel_rfl⟩
instance ul63 : UL Try.prog 63 (.func #[22, 29, 40] #[22, 29, 4] false) := ⟨Try.underlying63⟩
instance ti63 : TI Try.prog 63 (.nilFunc) 1 8 := ⟨by kernel_rfl⟩
instance na63 : NAgg Try.prog 63 := ⟨fun _ => by kernel_rfl⟩
instance ul64 : UL Try.prog 64 (.array 2 53) := ⟨Try.underlying64⟩
instance ti64 : TI Try.prog 64 (.agg #[.pointer none, .pointer none]) 2 16 := ⟨by kernel_rfl⟩
instance ia64 : IAgg Try.prog 64 2 := ⟨fun _ => ⟨by kernel_rfl, by kernel_rfl⟩⟩
instance ul65 : UL Try.prog 65 (.array 2 3) := ⟨Try.underlying65⟩
instance ti65 : TI Try.prog 65 (.agg #[.int .i64 0, .int .i64 0]) 2 16 := ⟨by kernel_rfl⟩
instance ia65 : IAgg Try.prog 65 2 := ⟨fun _ => ⟨by kernel_rfl, by kernel_rfl⟩⟩
instance mt66 : MTyA Try.prog 66 Int .u32 (fun z : Int => .int .i64 z) := ⟨trivial⟩
instance ul66 : UL Try.prog 66 (.map 34 3) := ⟨Try.underlying66⟩
instance ti66 : TI Try.prog 66 (.map none) 1 8 := ⟨by kernel_rfl⟩
instance na66 : NAgg Try.prog 66 := ⟨fun _ => by kernel_rfl⟩
instance ti67 : TI Try.prog 67 (.agg #[.pointer none, .pointer none, .int .i64 0, .int .i64 0, .map none, .int .i64 0]) 6 48 := ⟨by kernel_rfl⟩
instance ia67 : IAgg Try.prog 67 6 := ⟨fun _ => ⟨by kernel_rfl, by kernel_rfl⟩⟩
instance fa67_0 : FA Try.prog 67 0 0 := ⟨fun _ _ => by kernel_rfl⟩
instance fa67_1 : FA Try.prog 67 1 2 := ⟨fun _ _ => by kernel_rfl⟩
instance fa67_2 : FA Try.prog 67 2 4 := ⟨fun _ _ => by kernel_rfl⟩
instance fd67_2 : FD Try.prog 67 2 4 := fd_mk (ft := 66) Try.underlying67 rfl
instance fa67_3 : FA Try.prog 67 3 5 := ⟨fun _ _ => by kernel_rfl⟩
instance fd67_3 : FD Try.prog 67 3 5 := fd_mk (ft := 3) Try.underlying67 rfl
instance bl67 : BL Try.prog 67 [(0, 2), (2, 2), (4, 1), (5, 1)] [.pointer none, .pointer none, .int .i64 0, .int .i64 0, .map none, .int .i64 0] := bl_mk Try.underlying67 (fun _ => by kernel_rfl)
instance ti68 : TI Try.prog 68 (.agg #[.pointer none, .pointer none, .int .i64 0, .int .i64 0, .map none, .int .i64 0]) 6 48 := ⟨by kernel_rfl⟩
instance ia68 : IAgg Try.prog 68 6 := ⟨fun _ => ⟨by kernel_rfl, by kernel_rfl⟩⟩
instance fa68_0 : FA Try.prog 68 0 0 := ⟨fun _ _ => by kernel_rfl⟩
instance fa68_1 : FA Try.prog 68 1 2 := ⟨fun _ _ => by kernel_rfl⟩
instance fa68_2 : FA Try.prog 68 2 4 := ⟨fun _ _ => by kernel_rfl⟩
instance fd68_2 : FD Try.prog 68 2 4 := fd_mk (ft := 66) Try.underlying68 rfl
instance fa68_3 : FA Try.prog 68 3 5 := ⟨fun _ _ => by kernel_rfl⟩
instance fd68_3 : FD Try.prog 68 3 5 := fd_mk (ft := 3) Try.underlying68 rfl
instance bl68 : BL Try.prog 68 [(0, 2), (2, 2), (4, 1), (5, 1)] [.pointer none, .pointer none, .int .i64 0, .int .i64 0, .map none, .int .i64 0] := bl_mk Try.underlying68 (fun _ => by kernel_rfl)
instance ul69 : UL Try.prog 69 (.slice 22) := ⟨Try.underlying69⟩
instance ti69 : TI Try.prog 69 (.slice none 0 0) 1 24 := ⟨by kernel_rfl⟩
instance na69 : NAgg Try.prog 69 := ⟨fun _ => by kernel_rfl⟩
instance ul70 : UL Try.prog 70 (.func #[22, 34, 3, 38, 23] #[4] false) := ⟨Try.underlying70⟩
instance ti70 : TI Try.prog 70 (.nilFunc) 1 8 := ⟨by kernel_rfl⟩
instance na70 : NAgg Try.prog 70 := ⟨fun _ => by kernel_rfl⟩
instance ul71 : UL Try.prog 71 (.func #[22, 3, 38, 23] #[4] false) := ⟨Try.underlying71⟩
instance ti71 : TI Try.prog 71 (.nilFunc) 1 8 := ⟨by kernel_rfl⟩
instance na71 : NAgg Try.prog 71 := ⟨fun _ => by kernel_rfl⟩
instance ul72 : UL Try.prog 72 (.func #[22, 34, 42, 3, 23] #[4] false) := ⟨Try.underlying72⟩
instance ti72 : TI Try.prog 72 (.nilFunc) 1 8 := ⟨by kernel_rfl⟩
instance na72 : NAgg Try.prog 72 := ⟨fun _ => by kernel_rfl⟩
instance ul73 : UL Try.prog 73 (.func #[38] #[23] false) := ⟨Try.underlying73⟩
instance ti73 : TI Try.prog 73 (.nilFunc) 1 8 := ⟨by kernel_rfl⟩
instance na73 : NAgg Try.prog 73 := ⟨fun _ => by kernel_rfl⟩
instance ul74 : UL Try.prog 74 (.func #[] #[22] false) := ⟨Try.underlying74⟩
instance ti74 : TI Try.prog 74 (.nilFunc) 1 8 := ⟨by kernel_rfl⟩
instance na74 : NAgg Try.prog 74 := ⟨fun _ => by kernel_rfl⟩
instance ul75 : UL Try.prog 75 (.func #[34, 3] #[4] false) := ⟨Try.underlying75⟩
instance ti75 : TI Try.prog 75 (.nilFunc) 1 8 := ⟨by kernel_rfl⟩
instance na75 : NAgg Try.prog 75 := ⟨fun _ => by kernel_rfl⟩
instance ul76 : UL Try.prog 76 (.slice 3) := ⟨Try.underlying76⟩
instance ti76 : TI Try.prog 76 (.slice none 0 0) 1 24 := ⟨by kernel_rfl⟩
instance na76 : NAgg Try.prog 76 := ⟨fun _ => by kernel_rfl⟩
instance ul78 : UL Try.prog 78 (.func #[38] #[76, 23] false) := ⟨Try.underlying78⟩
instance ti78 : TI Try.prog 78 (.nilFunc) 1 8 := ⟨by kernel_rfl⟩
instance na78 : NAgg Try.prog 78 := ⟨fun _ => by kernel_rfl⟩
instance ul79 : UL Try.prog 79 (.func #[38] #[38, 23] false) := ⟨Try.underlying79⟩
instance ti79 : TI Try.prog 79 (.nilFunc) 1 8 := ⟨by kernel_rfl⟩
instance na79 : NAgg Try.prog 79 := ⟨fun _ => by kernel_rfl⟩
instance ul80 : UL Try.prog 80 (.func #[76, 76] #[4] false) := ⟨Try.underlying80⟩
instance ti80 : TI Try.prog 80 (.nilFunc) 1 8 := ⟨by kernel_rfl⟩
instance na80 : NAgg Try.prog 80 := ⟨fun _ => by kernel_rfl⟩
instance ul81 : UL Try.prog 81 (.func #[38] #[76] false) := ⟨Try.underlying81⟩
instance ti81 : TI Try.prog 81 (.nilFunc) 1 8 := ⟨by kernel_rfl⟩
instance na81 : NAgg Try.prog 81 := ⟨fun _ => by kernel_rfl⟩
instance ul82 : UL Try.prog 82 (.func #[38] #[38] false) := ⟨Try.underlying82⟩
instance ti82 : TI Try.prog 82 (.nilFunc) 1 8 := ⟨by kernel_rfl⟩
instance na82 : NAgg Try.prog 82 := ⟨fun _ => by kernel_rfl⟩
instance ul83 : UL Try.prog 83 (.func #[38] #[4] false) := ⟨Try.underlying83⟩
instance ti83 : TI Try.prog 83 (.nilFunc) 1 8 := ⟨by kernel_rfl⟩
instance na83 : NAgg Try.prog 83 := ⟨fun _ => by kernel_rfl⟩
instance ul85 : UL Try.prog 85 (.func #[38, 3] #[3, 23] false) := ⟨Try.underlying85⟩
instance ti85 : TI Try.prog 85 (.nilFunc) 1 8 := ⟨by kernel_rfl⟩
instance na85 : NAgg Try.prog 85 := ⟨fun _ => by kernel_rfl⟩
instance ul86 : UL Try.prog 86 (.func #[38, 3] #[4] false) := ⟨Try.underlying86⟩
instance ti86 : TI Try.prog 86 (.nilFunc) 1 8 := ⟨by kernel_rfl⟩
instance na86 : NAgg Try.prog 86 := ⟨fun _ => by kernel_rfl⟩
instance ul87 : UL Try.prog 87 (.func #[3, 3] #[4] false) := ⟨Try.underlying87⟩
instance ti87 : TI Try.prog 87 (.nilFunc) 1 8 := ⟨by kernel_rfl⟩
instance na87 : NAgg Try.prog 87 := ⟨fun _ => by kernel_rfl⟩
instance ul88 : UL Try.prog 88 (.func #[38, 34] #[4] false) := ⟨Try.underlying88⟩
instance ti88 : TI Try.prog 88 (.nilFunc) 1 8 := ⟨by kernel_rfl⟩
instance na88 : NAgg Try.prog 88 := ⟨fun _ => by kernel_rfl⟩
instance ul89 : UL Try.prog 89 (.func #[] #[3] false) := ⟨Try.underlying89⟩
instance ti89 : TI Try.prog 89 (.nilFunc) 1 8 := ⟨by kernel_rfl⟩
instance na89 : NAgg Try.prog 89 := ⟨fun _ => by kernel_rfl⟩
instance ul91 : UL Try.prog 91 (.func #[] #[34, 23] false) := ⟨Try.underlying91⟩
instance ti91 : TI Try.prog 91 (.nilFunc) 1 8 := ⟨by kernel_rfl⟩
instance na91 : NAgg Try.prog 91 := ⟨fun _ => by kernel_rfl⟩
instance ul92 : UL Try.prog 92 (.func #[22, 42, 76] #[4] false) := ⟨Try.underlying92⟩
instance ti92 : TI Try.prog 92 (.nilFunc) 1 8 := ⟨by kernel_rfl⟩
instance na92 : NAgg Try.prog 92 := ⟨fun _ => by kernel_rfl⟩
instance ul93 : UL Try.prog 93 (.func #[26, 26] #[4] false) := ⟨Try.underlying93⟩
instance ti93 : TI Try.prog 93 (.nilFunc) 1 8 := ⟨by kernel_rfl⟩
instance na93 : NAgg Try.prog 93 := ⟨fun _ => by kernel_rfl⟩
instance ul94 : UL Try.prog 94 (.func #[3] #[3] false) := ⟨Try.underlying94⟩
instance ti94 : TI Try.prog 94 (.nilFunc) 1 8 := ⟨by kernel_rfl⟩
instance na94 : NAgg Try.prog 94 := ⟨fun _ => by kernel_rfl⟩
instance ul96 : UL Try.prog 96 (.func #[34] #[3, 3] false) := ⟨Try.underlying96⟩
instance ti96 : TI Try.prog 96 (.nilFunc) 1 8 := ⟨by kernel_rfl⟩
instance na96 : NAgg Try.prog 96 := ⟨fun _ => by kernel_rfl⟩
instance ul97 : UL Try.prog 97 (.func #[42] #[4] false) := ⟨Try.underlying97⟩
instance ti97 : TI Try.prog 97 (.nilFunc) 1 8 := ⟨by kernel_rfl⟩
instance na97 : NAgg Try.prog 97 := ⟨fun _ => by kernel_rfl⟩
instance ul99 : UL Try.prog 99 (.func #[42, 34, 3] #[] false) := ⟨Try.underlying99⟩
instance ti99 : TI Try.prog 99 (.nilFunc) 1 8 := ⟨by kernel_rfl⟩
instance na99 : NAgg Try.prog 99 := ⟨fun _ => by kernel_rfl⟩
instance ul100 : UL Try.prog 100 (.func #[] #[38] false) := ⟨Try.underlying100⟩
instance ti100 : TI Try.prog 100 (.nilFunc) 1 8 := ⟨by kernel_rfl⟩
instance na100 : NAgg Try.prog 100 := ⟨fun _ => by kernel_rfl⟩
instance ul101 : UL Try.prog 101 (.pointer 134) := ⟨Try.underlying101⟩
instance ti101 : TI Try.prog 101 (.pointer none) 1 8 := ⟨by kernel_rfl⟩
instance na101 : NAgg Try.prog 101 := ⟨fun _ => by kernel_rfl⟩
instance ul103 : UL Try.prog 103 (.func #[3, 3] #[101, 23] false) := ⟨Try.underlying103⟩
instance ti103 : TI Try.prog 103 (.nilFunc) 1 8 := ⟨by kernel_rfl⟩
instance na103 : NAgg Try.prog 103 := ⟨fun _ => by kernel_rfl⟩
instance ti104 : TI Try.prog 104 (.agg #[.pointer none]) 1 8 := ⟨by kernel_rfl⟩
instance ia104 : IAgg Try.prog 104 1 := ⟨fun _ => ⟨by kernel_rfl, by kernel_rfl⟩⟩
instance fa104_0 : FA Try.prog 104 0 0 := ⟨fun _ _ => by kernel_rfl⟩
instance fd104_0 : FD Try.prog 104 0 0 := fd_mk (ft := 101) Try.underlying104 rfl
instance bl104 : BL Try.prog 104 [(0, 1)] [.pointer none] := bl_mk Try.underlying104 (fun _ => by kernel_rfl)
instance ti105 : TI Try.prog 105 (.agg #[.pointer none]) 1 8 := ⟨by kernel_rfl⟩
instance ia105 : IAgg Try.prog 105 1 := ⟨fun _ => ⟨by kernel_rfl, by kernel_rfl⟩⟩
instance fa105_0 : FA Try.prog 105 0 0 := ⟨fun _ _ => by kernel_rfl⟩
instance fd105_0 : FD Try.prog 105 0 0 := fd_mk (ft := 101) Try.underlying105 rfl
instance bl105 : BL Try.prog 105 [(0, 1)] [.pointer none] := bl_mk Try.underlying105 (fun _ => by kernel_rfl)
instance ul106 : UL Try.prog 106 (.func #[34] #[3, 23] false) := ⟨Try.underlying106⟩
instance ti106 : TI Try.prog 106 (.nilFunc) 1 8 := ⟨by kernel_rfl⟩
instance na106 : NAgg Try.prog 106 := ⟨fun _ => by kernel_rfl⟩
instance ul107 : UL Try.prog 107 (.func #[3, 34] #[23] false) := ⟨Try.underlying107⟩
instance ti107 : TI Try.prog 107 (.nilFunc) 1 8 := ⟨by kernel_rfl⟩
instance na107 : NAgg Try.prog 107 := ⟨fun _ => by kernel_rfl⟩
instance ul108 : UL Try.prog 108 (.func #[34] #[] false) := ⟨Try.underlying108⟩
instance ti108 : TI Try.prog 108 (.nilFunc) 1 8 := ⟨by kernel_rfl⟩
instance na108 : NAgg Try.prog 108 := ⟨fun _ => by kernel_rfl⟩
instance ul109 : UL Try.prog 109 (.func #[3] #[59] false) := ⟨Try.underlying109⟩
instance ti109 : TI Try.prog 109 (.nilFunc) 1 8 := ⟨by kernel_rfl⟩
instance na109 : NAgg Try.prog 109 := ⟨fun _ => by kernel_rfl⟩
instance ul111 : UL Try.prog 111 (.func #[34, 3] #[29, 23] false) := ⟨Try.underlying111⟩
instance ti111 : TI Try.prog 111 (.nilFunc) 1 8 := ⟨by kernel_rfl⟩
instance na111 : NAgg Try.prog 111 := ⟨fun _ => by kernel_rfl⟩
instance ul113 : UL Try.prog 113 (.func #[34, 3] #[29, 38, 23] false) := ⟨Try.underlying113⟩
instance ti113 : TI Try.prog 113 (.nilFunc) 1 8 := ⟨by kernel_rfl⟩
instance na113 : NAgg Try.prog 113 := ⟨fun _ => by kernel_rfl⟩
instance ul114 : UL Try.prog 114 (.func #[34] #[29, 23] false) := ⟨Try.underlying114⟩
instance ti114 : TI Try.prog 114 (.nilFunc) 1 8 := ⟨by kernel_rfl⟩
instance na114 : NAgg Try.prog 114 := ⟨fun _ => by kernel_rfl⟩
instance ul115 : UL Try.prog 115 (.func #[3] #[29, 38, 23] false) := ⟨Try.underlying115⟩
instance ti115 : TI Try.prog 115 (.nilFunc) 1 8 := ⟨by kernel_rfl⟩
instance na115 : NAgg Try.prog 115 := ⟨fun _ => by kernel_rfl⟩
instance ul116 : UL Try.prog 116 (.func #[38] #[29, 23] false) := ⟨Try.underlying116⟩
instance ti116 : TI Try.prog 116 (.nilFunc) 1 8 := ⟨by kernel_rfl⟩
instance na116 : NAgg Try.prog 116 := ⟨fun _ => by kernel_rfl⟩
instance ul118 : UL Try.prog 118 (.func #[34] #[42, 3, 23] false) := ⟨Try.underlying118⟩
instance ti118 : TI Try.prog 118 (.nilFunc) 1 8 := ⟨by kernel_rfl⟩
instance na118 : NAgg Try.prog 118 := ⟨fun _ => by kernel_rfl⟩
instance ul119 : UL Try.prog 119 (.func #[3, 3, 23] #[4] false) := ⟨Try.underlying119⟩
instance ti119 : TI Try.prog 119 (.nilFunc) 1 8 := ⟨by kernel_rfl⟩
instance na119 : NAgg Try.prog 119 := ⟨fun _ => by kernel_rfl⟩
instance ul120 : UL Try.prog 120 (.slice 3) := ⟨Try.underlying120⟩
instance ti120 : TI Try.prog 120 (.slice none 0 0) 1 24 := ⟨by kernel_rfl⟩
instance na120 : NAgg Try.prog 120 := ⟨fun _ => by kernel_rfl⟩
instance ul121 : UL Try.prog 121 (.func #[3, 3] #[] false) := ⟨Try.underlying121⟩
instance ti121 : TI Try.prog 121 (.nilFunc) 1 8 := ⟨by kernel_rfl⟩
instance na121 : NAgg Try.prog 121 := ⟨fun _ => by kernel_rfl⟩
instance mt122 : MTyA Try.prog 122 Nat .u32 (fun n : Nat => .int .u32 (n : Nat)) := ⟨trivial⟩
instance ul122 : UL Try.prog 122 (.map 34 34) := ⟨Try.underlying122⟩
instance ti122 : TI Try.prog 122 (.map none) 1 8 := ⟨by kernel_rfl⟩
instance na122 : NAgg Try.prog 122 := ⟨fun _ => by kernel_rfl⟩
instance ul124 : UL Try.prog 124 (.func #[38] #[] false) := ⟨Try.underlying124⟩
instance ti124 : TI Try.prog 124 (.nilFunc) 1 8 := ⟨by kernel_rfl⟩
instance na124 : NAgg Try.prog 124 := ⟨fun _ => by kernel_rfl⟩
instance ul125 : UL Try.prog 125 (.func #[38, 3] #[3] false) := ⟨Try.underlying125⟩
instance ti125 : TI Try.prog 125 (.nilFunc) 1 8 := ⟨by kernel_rfl⟩
instance na125 : NAgg Try.prog 125 := ⟨fun _ => by kernel_rfl⟩
instance ul126 : UL Try.prog 126 (.func #[76, 3] #[3, 4] false) := ⟨Try.underlying126⟩
instance ti126 : TI Try.prog 126 (.nilFunc) 1 8 := ⟨by kernel_rfl⟩
instance na126 : NAgg Try.prog 126 := ⟨fun _ => by kernel_rfl⟩
instance ul127 : UL Try.prog 127 (.func #[128] #[34, 23] false) := ⟨Try.underlying127⟩
instance ti127 : TI Try.prog 127 (.nilFunc) 1 8 := ⟨by kernel_rfl⟩
instance na127 : NAgg Try.prog 127 := ⟨fun _ => by kernel_rfl⟩
instance ul128 : UL Try.prog 128 (.func #[101, 3] #[34, 23] false) := ⟨Try.underlying128⟩
instance ti128 : TI Try.prog 128 (.nilFunc) 1 8 := ⟨by kernel_rfl⟩
instance na128 : NAgg Try.prog 128 := ⟨fun _ => by kernel_rfl⟩
instance ul129 : UL Try.prog 129 (.func #[3] #[34, 23] false) := ⟨Try.underlying129⟩
instance ti129 : TI Try.prog 129 (.nilFunc) 1 8 := ⟨by kernel_rfl⟩
instance na129 : NAgg Try.prog 129 := ⟨fun _ => by kernel_rfl⟩
instance ul130 : UL Try.prog 130 (.func #[76] #[26] false) := ⟨Try.underlying130⟩
instance ti130 : TI Try.prog 130 (.nilFunc) 1 8 := ⟨by kernel_rfl⟩
instance na130 : NAgg Try.prog 130 := ⟨fun _ => by kernel_rfl⟩
instance ul131 : UL Try.prog 131 (.func #[34] #[42] false) := ⟨Try.underlying131⟩
instance ti131 : TI Try.prog 131 (.nilFunc) 1 8 := ⟨by kernel_rfl⟩
instance na131 : NAgg Try.prog 131 := ⟨fun _ => by kernel_rfl⟩
instance ul132 : UL Try.prog 132 (.slice 138) := ⟨Try.underlying132⟩
instance ti132 : TI Try.prog 132 (.slice none 0 0) 1 24 := ⟨by kernel_rfl⟩
instance na132 : NAgg Try.prog 132 := ⟨fun _ => by kernel_rfl⟩
instance ti133 : TI Try.prog 133 (.agg #[.slice none 0 0, .int .i64 0, .slice none 0 0]) 3 56 := ⟨by kernel_rfl⟩
instance ia133 : IAgg Try.prog 133 3 := ⟨fun _ => ⟨by kernel_rfl, by kernel_rfl⟩⟩
instance fa133_0 : FA Try.prog 133 0 0 := ⟨fun _ _ => by kernel_rfl⟩
instance fd133_0 : FD Try.prog 133 0 0 := fd_mk (ft := 132) Try.underlying133 rfl
instance fa133_1 : FA Try.prog 133 1 1 := ⟨fun _ _ => by kernel_rfl⟩
instance fd133_1 : FD Try.prog 133 1 1 := fd_mk (ft := 3) Try.underlying133 rfl
instance fa133_2 : FA Try.prog 133 2 2 := ⟨fun _ _ => by kernel_rfl⟩
instance fd133_2 : FD Try.prog 133 2 2 := fd_mk (ft := 76) Try.underlying133 rfl
instance bl133 : BL Try.prog 133 [(0, 1), (1, 1), (2, 1)] [.slice none 0 0, .int .i64 0, .slice none 0 0] := bl_mk Try.underlying133 (fun _ => by kernel_rfl)
instance ti134 : TI Try.prog 134 (.agg #[.slice none 0 0, .int .i64 0, .slice none 0 0]) 3 56 := ⟨by kernel_rfl⟩
instance ia134 : IAgg Try.prog 134 3 := ⟨fun _ => ⟨by kernel_rfl, by kernel_rfl⟩⟩
instance fa134_0 : FA Try.prog 134 0 0 := ⟨fun _ _ => by kernel_rfl⟩
instance fd134_0 : FD Try.prog 134 0 0 := fd_mk (ft := 132) Try.underlying134 rfl
instance fa134_1 : FA Try.prog 134 1 1 := ⟨fun _ _ => by kernel_rfl⟩
instance fd134_1 : FD Try.prog 134 1 1 := fd_mk (ft := 3) Try.underlying134 rfl
instance fa134_2 : FA Try.prog 134 2 2 := ⟨fun _ _ => by kernel_rfl⟩
instance fd134_2 : FD Try.prog 134 2 2 := fd_mk (ft := 76) Try.underlying134 rfl
instance bl134 : BL Try.prog 134 [(0, 1), (1, 1), (2, 1)] [.slice none 0 0, .int .i64 0, .slice none 0 0] := bl_mk Try.underlying134 (fun _ => by kernel_rfl)
instance ul135 : UL Try.prog 135 (.int .i64) := ⟨Try.underlying135⟩
instance ti135 : TI Try.prog 135 (.int .i64 0) 1 8 := ⟨by kernel_rfl⟩
instance na135 : NAgg Try.prog 135 := ⟨fun _ => by kernel_rfl⟩
instance ul136 : UL Try.prog 136 (.func #[101] #[34] false) := ⟨Try.underlying136⟩
instance ti136 : TI Try.prog 136 (.nilFunc) 1 8 := ⟨by kernel_rfl⟩
instance na136 : NAgg Try.prog 136 := ⟨fun _ => by kernel_rfl⟩
instance ti137 : TI Try.prog 137 (.agg #[.int .u32 0, .int .u32 0, .int .u32 0]) 3 12 := ⟨by kernel_rfl⟩
instance ia137 : IAgg Try.prog 137 3 := ⟨fun _ => ⟨by kernel_rfl, by kernel_rfl⟩⟩
instance fa137_0 : FA Try.prog 137 0 0 := ⟨fun _ _ => by kernel_rfl⟩
instance fd137_0 : FD Try.prog 137 0 0 := fd_mk (ft := 34) Try.underlying137 rfl
instance fa137_1 : FA Try.prog 137 1 1 := ⟨fun _ _ => by kernel_rfl⟩
instance fd137_1 : FD Try.prog 137 1 1 := fd_mk (ft := 34) Try.underlying137 rfl
instance fa137_2 : FA Try.prog 137 2 2 := ⟨fun _ _ => by kernel_rfl⟩
instance fd137_2 : FD Try.prog 137 2 2 := fd_mk (ft := 34) Try.underlying137 rfl
instance bl137 : BL Try.prog 137 [(0, 1), (1, 1), (2, 1)] [.int .u32 0, .int .u32 0, .int .u32 0] := bl_mk Try.underlying137 (fun _ => by kernel_rfl)
instance ti138 : TI Try.prog 138 (.agg #[.int .u32 0, .int .u32 0, .int .u32 0]) 3 12 := ⟨by kernel_rfl⟩
instance ia138 : IAgg Try.prog 138 3 := ⟨fun _ => ⟨by kernel_rfl, by kernel_rfl⟩⟩
instance fa138_0 : FA Try.prog 138 0 0 := ⟨fun _ _ => by kernel_rfl⟩
instance fd138_0 : FD Try.prog 138 0 0 := fd_mk (ft := 34) Try.underlying138 rfl
instance fa138_1 : FA Try.prog 138 1 1 := ⟨fun _ _ => by kernel_rfl⟩
instance fd138_1 : FD Try.prog 138 1 1 := fd_mk (ft := 34) Try.underlying138 rfl
instance fa138_2 : FA Try.prog 138 2 2 := ⟨fun _ _ => by kernel_rfl⟩
instance fd138_2 : FD Try.prog 138 2 2 := fd_mk (ft := 34) Try.underlying138 rfl
instance bl138 : BL Try.prog 138 [(0, 1), (1, 1), (2, 1)] [.int .u32 0, .int .u32 0, .int .u32 0] := bl_mk Try.underlying138 (fun _ => by kernel_rfl)
instance ul139 : UL Try.prog 139 (.func #[3, 34, 4] #[23] false) := ⟨Try.underlying139⟩
instance ti139 : TI Try.prog 139 (.nilFunc) 1 8 := ⟨by kernel_rfl⟩
instance na139 : NAgg Try.prog 139 := ⟨fun _ => by kernel_rfl⟩
instance ul140 : UL Try.prog 140 (.func #[38, 3] #[23] false) := ⟨Try.underlying140⟩
instance ti140 : TI Try.prog 140 (.nilFunc) 1 8 := ⟨by kernel_rfl⟩
instance na140 : NAgg Try.prog 140 := ⟨fun _ => by kernel_rfl⟩
instance ul141 : UL Try.prog 141 (.func #[3] #[38] false) := ⟨Try.underlying141⟩
instance ti141 : TI Try.prog 141 (.nilFunc) 1 8 := ⟨by kernel_rfl⟩
instance na141 : NAgg Try.prog 141 := ⟨fun _ => by kernel_rfl⟩
instance ul142 : UL Try.prog 142 (.func #[3, 50] #[29] false) := ⟨Try.underlying142⟩
instance ti142 : TI Try.prog 142 (.nilFunc) 1 8 := ⟨by kernel_rfl⟩
instance na142 : NAgg Try.prog 142 := ⟨fun _ => by kernel_rfl⟩
instance ul143 : UL Try.prog 143 (.func #[3, 3] #[29] false) := ⟨Try.underlying143⟩
instance ti143 : TI Try.prog 143 (.nilFunc) 1 8 := ⟨by kernel_rfl⟩
instance na143 : NAgg Try.prog 143 := ⟨fun _ => by kernel_rfl⟩
instance ul145 : UL Try.prog 145 (.func #[] #[29, 38] false) := ⟨Try.underlying145⟩
instance ti145 : TI Try.prog 145 (.nilFunc) 1 8 := ⟨by kernel_rfl⟩
instance na145 : NAgg Try.prog 145 := ⟨fun _ => by kernel_rfl⟩
instance ul146 : UL Try.prog 146 (.func #[38, 38] #[38, 23] false) := ⟨Try.underlying146⟩
instance ti146 : TI Try.prog 146 (.nilFunc) 1 8 := ⟨by kernel_rfl⟩
instance na146 : NAgg Try.prog 146 := ⟨fun _ => by kernel_rfl⟩
instance ul147 : UL Try.prog 147 (.func #[] #[101] false) := ⟨Try.underlying147⟩
instance ti147 : TI Try.prog 147 (.nilFunc) 1 8 := ⟨by kernel_rfl⟩
instance na147 : NAgg Try.prog 147 := ⟨fun _ => by kernel_rfl⟩
instance ul148 : UL Try.prog 148 (.int .u64) := ⟨Try.underlying148⟩
instance ti148 : TI Try.prog 148 (.int .u64 0) 1 8 := ⟨by kernel_rfl⟩
instance na148 : NAgg Try.prog 148 := ⟨fun _ => by kernel_rfl⟩
instance ul149 : UL Try.prog 149 (.func #[3] #[23] false) := ⟨Try.underlying149⟩
instance ti149 : TI Try.prog 149 (.nilFunc) 1 8 := ⟨by kernel_rfl⟩
instance na149 : NAgg Try.prog 149 := ⟨fun _ => by kernel_rfl⟩
instance ul150 : UL Try.prog 150 (.func #[34] #[34, 23] false) := ⟨Try.underlying150⟩
instance ti150 : TI Try.prog 150 (.nilFunc) 1 8 := ⟨by kernel_rfl⟩
instance na150 : NAgg Try.prog 150 := ⟨fun _ => by kernel_rfl⟩
instance ul151 : UL Try.prog 151 (.func #[34, 34] #[] false) := ⟨Try.underlying151⟩
instance ti151 : TI Try.prog 151 (.nilFunc) 1 8 := ⟨by kernel_rfl⟩
instance na151 : NAgg Try.prog 151 := ⟨fun _ => by kernel_rfl⟩
instance ul152 : UL Try.prog 152 (.func #[38, 34] #[38, 23] false) := ⟨Try.underlying152⟩
instance ti152 : TI Try.prog 152 (.nilFunc) 1 8 := ⟨by kernel_rfl⟩
instance na152 : NAgg Try.prog 152 := ⟨fun _ => by kernel_rfl⟩
instance ul153 : UL Try.prog 153 (.func #[38, 34] #[3] false) := ⟨Try.underlying153⟩
instance ti153 : TI Try.prog 153 (.nilFunc) 1 8 := ⟨by kernel_rfl⟩
instance na153 : NAgg Try.prog 153 := ⟨fun _ => by kernel_rfl⟩
instance ul154 : UL Try.prog 154 (.func #[] #[9] false) := ⟨Try.underlying154⟩
instance ti154 : TI Try.prog 154 (.nilFunc) 1 8 := ⟨by kernel_rfl⟩
instance na154 : NAgg Try.prog 154 := ⟨fun _ => by kernel_rfl⟩
instance ul157 : UL Try.prog 157 (.array 0 16) := ⟨Try.underlying157⟩
instance ti157 : TI Try.prog 157 (.agg #[]) 0 0 := ⟨by kernel_rfl⟩
instance ia157 : IAgg Try.prog 157 0 := ⟨fun _ => ⟨by kernel_rfl, by kernel_rfl⟩⟩
instance ul162 : UL Try.prog 162 (.func #[168, 168] #[4] false) := ⟨Try.underlying162⟩
instance ti162 : TI Try.prog 162 (.nilFunc) 1 8 := ⟨by kernel_rfl⟩
instance na162 : NAgg Try.prog 162 := ⟨fun _ => by kernel_rfl⟩
instance ul163 : UL Try.prog 163 (.pointer 5) := ⟨Try.underlying163⟩
instance ti163 : TI Try.prog 163 (.pointer none) 1 8 := ⟨by kernel_rfl⟩
instance na163 : NAgg Try.prog 163 := ⟨fun _ => by kernel_rfl⟩
instance ti168 : TI Try.prog 168 (.pointer none) 1 8 := ⟨by kernel_rfl⟩
instance na168 : NAgg Try.prog 168 := ⟨fun _ => by kernel_rfl⟩
instance cf3 : CF Try.prog 3 := ⟨fun _ _ => by kernel_rfl⟩
instance cf4 : CF Try.prog 4 := ⟨fun _ _ => by kernel_rfl⟩
instance cf5 : CF Try.prog 5 := ⟨fun _ _ => by kernel_rfl⟩
instance cf6 : CF Try.prog 6 := ⟨fun _ _ => by kernel_rfl⟩
instance cf7 : CF Try.prog 7 := ⟨fun _ _ => by kernel_rfl⟩
instance cf8 : CF Try.prog 8 := ⟨fun _ _ => by kernel_rfl⟩
instance cf9 : CF Try.prog 9 := ⟨fun _ _ => by kernel_rfl⟩
instance cf10 : CF Try.prog 10 := ⟨fun _ _ => by kernel_rfl⟩
instance cf11 : CF Try.prog 11 := ⟨fun _ _ => by kernel_rfl⟩
instance cf12 : CF Try.prog 12 := ⟨fun _ _ => by kernel_rfl⟩
instance cf13 : CF Try.prog 13 := ⟨fun _ _ => by kernel_rfl⟩
instance cf14 : CF Try.prog 14 := ⟨fun _ _ => by kernel_rfl⟩
instance cf15 : CF Try.prog 15 := ⟨fun _ _ => by kernel_rfl⟩
instance cf16 : CF Try.prog 16 := ⟨fun _ _ => by kernel_rfl⟩
instance cf17 : CF Try.prog 17 := ⟨fun _ _ => by kernel_rfl⟩
instance cf18 : CF Try.prog 18 := ⟨fun _ _ => by kernel_rfl⟩
instance cf19 : CF Try.prog 19 := ⟨fun _ _ => by kernel_rfl⟩
instance cf20 : CF Try.prog 20 := ⟨fun _ _ => by kernel_rfl⟩
instance cf21 : CF Try.prog 21 := ⟨fun _ _ => by kernel_rfl⟩
instance cf22 : CF Try.prog 22 := ⟨fun _ _ => by kernel_rfl⟩
instance cf23 : CF Try.prog 23 := ⟨fun _ _ => by kernel_rfl⟩
instance cf24 : CF Try.prog 24 := ⟨fun _ _ => by kernel_rfl⟩
instance cf25 : CF Try.prog 25 := ⟨fun _ _ => by kernel_rfl⟩
instance cf26 : CF Try.prog 26 := ⟨fun _ _ => by kernel_rfl⟩
instance cf27 : CF Try.prog 27 := ⟨fun _ _ => by kernel_rfl⟩
instance cf28 : CF Try.prog 28 := ⟨fun _ _ => by kernel_rfl⟩
instance cf29 : CF Try.prog 29 := ⟨fun _ _ => by kernel_rfl⟩
instance cf30 : CF Try.prog 30 := ⟨fun _ _ => by kernel_rfl⟩
instance cf31 : CF Try.prog 31 := ⟨fun _ _ => by kernel_rfl⟩
instance cf32 : CF Try.prog 32 := ⟨fun _ _ => by kernel_rfl⟩
instance cf33 : CF Try.prog 33 := ⟨fun _ _ => by kernel_rfl⟩
instance cf34 : CF Try.prog 34 := ⟨fun _ _ => by kernel_rfl⟩
instance cf35 : CF Try.prog 35 := ⟨fun _ _ => by kernel_rfl⟩
instance cf36 : CF Try.prog 36 := ⟨fun _ _ => by kernel_rfl⟩
instance cf37 : CF Try.prog 37 := ⟨fun _ _ => by kernel_rfl⟩
instance cf38 : CF Try.prog 38 := ⟨fun _ _ => by kernel_rfl⟩
instance cf39 : CF Try.prog 39 := ⟨fun _ _ => by kernel_rfl⟩
instance cf40 : CF Try.prog 40 := ⟨fun _ _ => by kernel_rfl⟩
instance cf41 : CF Try.prog 41 := ⟨fun _ _ => by kernel_rfl⟩
instance cf42 : CF Try.prog 42 := ⟨fun _ _ => by kernel_rfl⟩
instance cf43 : CF Try.prog 43 := ⟨fun _ _ => by kernel_rfl⟩
instance cf44 : CF Try.prog 44 := ⟨fun _ _ => by kernel_rfl⟩
instance cf45 : CF Try.prog 45 := ⟨fun _ _ => by kernel_rfl⟩
instance cf46 : CF Try.prog 46 := ⟨fun _ _ => by kernel_rfl⟩
instance cf47 : CF Try.prog 47 := ⟨fun _ _ => by kernel_rfl⟩
instance cf48 : CF Try.prog 48 := ⟨fun _ _ => by kernel_rfl⟩
instance cf49 : CF Try.prog 49 := ⟨fun _ _ => by kernel_rfl⟩
instance cf50 : CF Try.prog 50 := ⟨fun _ _ => by kernel_rfl⟩
instance cf51 : CF Try.prog 51 := ⟨fun _ _ => by kernel_rfl⟩
instance cf52 : CF Try.prog 52 := ⟨fun _ _ => by kernel_rfl⟩
instance cf53 : CF Try.prog 53 := ⟨fun _ _ => by kernel_rfl⟩
instance cf54 : CF Try.prog 54 := ⟨fun _ _ => by kernel_rfl⟩
instance cf55 : CF Try.prog 55 := ⟨fun _ _ => by kernel_rfl⟩
instance cf56 : CF Try.prog 56 := ⟨fun _ _ => by kernel_rfl⟩
instance cf57 : CF Try.prog 57 := ⟨fun _ _ => by kernel_rfl⟩
instance cf58 : CF Try.prog 58 := ⟨fun _ _ => by kernel_rfl⟩
instance cf59 : CF Try.prog 59 := ⟨fun _ _ => by kernel_rfl⟩
instance cf60 : CF Try.prog 60 := ⟨fun _ _ => by kernel_rfl⟩
instance cf61 : CF Try.prog 61 := ⟨fun _ _ => by kernel_rfl⟩
instance cf62 : CF Try.prog 62 := ⟨fun _ _ => by kernel_rfl⟩
instance cf63 : CF Try.prog 63 := ⟨fun _ _ => by kernel_rfl⟩
instance cf64 : CF Try.prog 64 := ⟨fun _ _ => by kernel_rfl⟩
instance cf65 : CF Try.prog 65 := ⟨fun _ _ => by kernel_rfl⟩
instance cf67 : CF Try.prog 67 := ⟨fun _ _ => by kernel_rfl⟩
instance cf68 : CF Try.prog 68 := ⟨fun _ _ => by kernel_rfl⟩
instance cf69 : CF Try.prog 69 := ⟨fun _ _ => by kernel_rfl⟩
instance cf70 : CF Try.prog 70 := ⟨fun _ _ => by kernel_rfl⟩
instance cf71 : CF Try.prog 71 := ⟨fun _ _ => by kernel_rfl⟩
instance cf72 : CF Try.prog 72 := ⟨fun _ _ => by kernel_rfl⟩
instance cf73 : CF Try.prog 73 := ⟨fun _ _ => by kernel_rfl⟩
instance cf74 : CF Try.prog 74 := ⟨fun _ _ => by kernel_rfl⟩
instance cf75 : CF Try.prog 75 := ⟨fun _ _ => by kernel_rfl⟩
instance cf76 : CF Try.prog 76 := ⟨fun _ _ => by kernel_rfl⟩
instance cf77 : CF Try.prog 77 := ⟨fun _ _ => by kernel_rfl⟩
instance cf78 : CF Try.prog 78 := ⟨fun _ _ => by kernel_rfl⟩
instance cf79 : CF Try.prog 79 := ⟨fun _ _ => by kernel_rfl⟩
instance cf80 : CF Try.prog 80 := ⟨fun _ _ => by kernel_rfl⟩
instance cf81 : CF Try.prog 81 := ⟨fun _ _ => by kernel_rfl⟩
instance cf82 : CF Try.prog 82 := ⟨fun _ _ => by kernel_rfl⟩
instance cf83 : CF Try.prog 83 := ⟨fun _ _ => by kernel_rfl⟩
instance cf84 : CF Try.prog 84 := ⟨fun _ _ => by kernel_rfl⟩
instance cf85 : CF Try.prog 85 := ⟨fun _ _ => by kernel_rfl⟩
instance cf86 : CF Try.prog 86 := ⟨fun _ _ => by kernel_rfl⟩
instance cf87 : CF Try.prog 87 := ⟨fun _ _ => by kernel_rfl⟩
instance cf88 : CF Try.prog 88 := ⟨fun _ _ => by kernel_rfl⟩
instance cf89 : CF Try.prog 89 := ⟨fun _ _ => by kernel_rfl⟩
instance cf90 : CF Try.prog 90 := ⟨fun _ _ => by kernel_rfl⟩
instance cf91 : CF Try.prog 91 := ⟨fun _ _ => by kernel_rfl⟩
instance cf92 : CF Try.prog 92 := ⟨fun _ _ => by kernel_rfl⟩
instance cf93 : CF Try.prog 93 := ⟨fun _ _ => by kernel_rfl⟩
instance cf94 : CF Try.prog 94 := ⟨fun _ _ => by kernel_rfl⟩
instance cf95 : CF Try.prog 95 := ⟨fun _ _ => by kernel_rfl⟩
instance cf96 : CF Try.prog 96 := ⟨fun _ _ => by kernel_rfl⟩
instance cf97 : CF Try.prog 97 := ⟨fun _ _ => by kernel_rfl⟩
instance cf98 : CF Try.prog 98 := ⟨fun _ _ => by kernel_rfl⟩
instance cf99 : CF Try.prog 99 := ⟨fun _ _ => by kernel_rfl⟩
instance cf100 : CF Try.prog 100 := ⟨fun _ _ => by kernel_rfl⟩
instance cf101 : CF Try.prog 101 := ⟨fun _ _ => by kernel_rfl⟩
instance cf102 : CF Try.prog 102 := ⟨fun _ _ => by kernel_rfl⟩
instance cf103 : CF Try.prog 103 := ⟨fun _ _ => by kernel_rfl⟩
instance cf104 : CF Try.prog 104 := ⟨fun _ _ => by kernel_rfl⟩
instance cf105 : CF Try.prog 105 := ⟨fun _ _ => by kernel_rfl⟩
instance cf106 : CF Try.prog 106 := ⟨fun _ _ => by kernel_rfl⟩
instance cf107 : CF Try.prog 107 := ⟨fun _ _ => by kernel_rfl⟩
instance cf108 : CF Try.prog 108 := ⟨fun _ _ => by kernel_rfl⟩
instance cf109 : CF Try.prog 109 := ⟨fun _ _ => by kernel_rfl⟩
instance cf110 : CF Try.prog 110 := ⟨fun _ _ => by kernel_rfl⟩
instance cf111 : CF Try.prog 111 := ⟨fun _ _ => by kernel_rfl⟩
instance cf112 : CF Try.prog 112 := ⟨fun _ _ => by kernel_rfl⟩
instance cf113 : CF Try.prog 113 := ⟨fun _ _ => by kernel_rfl⟩
instance mz3 : MZ Try.prog 3 (fun z : Int => .int .i64 z) 0 := ⟨fun w => by have h := (mz_of (P := Try.prog) (e := 3) (V := fun v : Value => v)).out w; exact h⟩
instance mz34 : MZ Try.prog 34 (fun n : Nat => .int .u32 (n : Nat)) 0 := ⟨fun w => by have h := (mz_of (P := Try.prog) (e := 34) (V := fun v : Value => v)).out w; exact h⟩
end Go.Proofs.Ytbkpojlbclehaaa
