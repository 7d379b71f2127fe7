/- What the program says of its types and functions. -/
import Derived.Test.YtcgdkcdlglbigaaSlM
import Derived.Test.YtcgdkcdlglbigaaRows
namespace Go.Proofs.Ytcgdkcdlglbigaa
open Go.Sl
instance ul1 : UL Try.prog 1 (.func #[] #[] false) := ⟨Try.underlying1⟩
instance ti1 : TI Try.prog 1 (.nilFunc) 1 8 := ⟨by kernel_rfl⟩
instance na1 : NAgg Try.prog 1 := ⟨fun _ => by kernel_rfl⟩
instance ul2 : UL Try.prog 2 (.int .i64) := ⟨Try.underlying2⟩
instance ti2 : TI Try.prog 2 (.int .i64 0) 1 8 := ⟨by kernel_rfl⟩
instance na2 : NAgg Try.prog 2 := ⟨fun _ => by kernel_rfl⟩
instance ul3 : UL Try.prog 3 (.int .i64) := ⟨Try.underlying3⟩
instance ti3 : TI Try.prog 3 (.int .i64 0) 1 8 := ⟨by kernel_rfl⟩
instance na3 : NAgg Try.prog 3 := ⟨fun _ => by kernel_rfl⟩
instance ul4 : UL Try.prog 4 (.bool) := ⟨Try.underlying4⟩
instance ti4 : TI Try.prog 4 (.bool false) 1 1 := ⟨by kernel_rfl⟩
instance na4 : NAgg Try.prog 4 := ⟨fun _ => by kernel_rfl⟩
instance ul5 : UL Try.prog 5 (.int .u8) := ⟨Try.underlying5⟩
instance ti5 : TI Try.prog 5 (.int .u8 0) 1 1 := ⟨by kernel_rfl⟩
instance na5 : NAgg Try.prog 5 := ⟨fun _ => by kernel_rfl⟩
instance ul9 : UL Try.prog 9 (.string) := ⟨Try.underlying9⟩
instance ti9 : TI Try.prog 9 (.string ByteArray.empty) 1 16 := ⟨by kernel_rfl⟩
instance na9 : NAgg Try.prog 9 := ⟨fun _ => by kernel_rfl⟩
instance ul12 : UL Try.prog 12 (.int .u64) := ⟨Try.underlying12⟩
instance ti12 : TI Try.prog 12 (.int .u64 0) 1 8 := ⟨by kernel_rfl⟩
instance na12 : NAgg Try.prog 12 := ⟨fun _ => by kernel_rfl⟩
instance ti20 : TI Try.prog 20 (.nilIface) 1 16 := ⟨by kernel_rfl⟩
instance na20 : NAgg Try.prog 20 := ⟨fun _ => by kernel_rfl⟩
instance ul21 : UL Try.prog 21 (.int .i32) := ⟨Try.underlying21⟩
instance ti21 : TI Try.prog 21 (.int .i32 0) 1 4 := ⟨by kernel_rfl⟩
instance na21 : NAgg Try.prog 21 := ⟨fun _ => by kernel_rfl⟩
instance ul22 : UL Try.prog 22 (.pointer 65) := ⟨Try.underlying22⟩
instance ti22 : TI Try.prog 22 (.pointer none) 1 8 := ⟨by kernel_rfl⟩
instance na22 : NAgg Try.prog 22 := ⟨fun _ => by kernel_rfl⟩
instance ul23 : UL Try.prog 23 (.slice 31) := ⟨Try.underlying23⟩
instance ti23 : TI Try.prog 23 (.slice none 0 0) 1 24 := ⟨by kernel_rfl⟩
instance na23 : NAgg Try.prog 23 := ⟨fun _ => by kernel_rfl⟩
instance ti24 : TI Try.prog 24 (.agg #[.int .i64 0, .slice none 0 0]) 2 32 := ⟨by kernel_rfl⟩
instance ia24 : IAgg Try.prog 24 2 := ⟨fun _ => ⟨by kernel_rfl, by kernel_rfl⟩⟩
instance fa24_0 : FA Try.prog 24 0 0 := ⟨fun _ _ => by kernel_rfl⟩
instance fd24_0 : FD Try.prog 24 0 0 := fd_mk (ft := 3) Try.underlying24 rfl
instance fa24_1 : FA Try.prog 24 1 1 := ⟨fun _ _ => by kernel_rfl⟩
instance fd24_1 : FD Try.prog 24 1 1 := fd_mk (ft := 23) Try.underlying24 rfl
instance bl24 : BL Try.prog 24 [(0, 1), (1, 1)] [.int .i64 0, .slice none 0 0] := bl_mk Try.underlying24 (fun _ => by kernel_rfl)
instance ti25 : TI Try.prog 25 (.agg #[.int .i64 0, .slice none 0 0]) 2 32 := ⟨by kernel_rfl⟩
instance ia25 : IAgg Try.prog 25 2 := ⟨fun _ => ⟨by kernel_rfl, by kernel_rfl⟩⟩
instance fa25_0 : FA Try.prog 25 0 0 := ⟨fun _ _ => by kernel_rfl⟩
instance fd25_0 : FD Try.prog 25 0 0 := fd_mk (ft := 3) Try.underlying25 rfl
instance fa25_1 : FA Try.prog 25 1 1 := ⟨fun _ _ => by kernel_rfl⟩
instance fd25_1 : FD Try.prog 25 1 1 := fd_mk (ft := 23) Try.underlying25 rfl
instance bl25 : BL Try.prog 25 [(0, 1), (1, 1)] [.int .i64 0, .slice none 0 0] := bl_mk Try.underlying25 (fun _ => by kernel_rfl)
instance ti26 : TI Try.prog 26 (.agg #[.int .i64 0, .int .i64 0, .slice none 0 0, .slice none 0 0, .int .i64 0, .slice none 0 0]) 6 96 := ⟨by kernel_rfl⟩
instance ia26 : IAgg Try.prog 26 6 := ⟨fun _ => ⟨by kernel_rfl, by kernel_rfl⟩⟩
instance fa26_0 : FA Try.prog 26 0 0 := ⟨fun _ _ => by kernel_rfl⟩
instance fd26_0 : FD Try.prog 26 0 0 := fd_mk (ft := 3) Try.underlying26 rfl
instance fa26_1 : FA Try.prog 26 1 1 := ⟨fun _ _ => by kernel_rfl⟩
instance fd26_1 : FD Try.prog 26 1 1 := fd_mk (ft := 3) Try.underlying26 rfl
instance fa26_2 : FA Try.prog 26 2 2 := ⟨fun _ _ => by kernel_rfl⟩
instance fd26_2 : FD Try.prog 26 2 2 := fd_mk (ft := 23) Try.underlying26 rfl
instance fa26_3 : FA Try.prog 26 3 3 := ⟨fun _ _ => by kernel_rfl⟩
instance fd26_3 : FD Try.prog 26 3 3 := fd_mk (ft := 23) Try.underlying26 rfl
instance fa26_4 : FA Try.prog 26 4 4 := ⟨fun _ _ => by kernel_rfl⟩
instance bl26 : BL Try.prog 26 [(0, 1), (1, 1), (2, 1), (3, 1), (4, 2)] [.int .i64 0, .int .i64 0, .slice none 0 0, .slice none 0 0, .int .i64 0, .slice none 0 0] := bl_mk Try.underlying26 (fun _ => by kernel_rfl)
instance ti27 : TI Try.prog 27 (.agg #[.int .i64 0, .int .i64 0, .slice none 0 0, .slice none 0 0, .int .i64 0, .slice none 0 0]) 6 96 := ⟨by kernel_rfl⟩
instance ia27 : IAgg Try.prog 27 6 := ⟨fun _ => ⟨by kernel_rfl, by kernel_rfl⟩⟩
instance fa27_0 : FA Try.prog 27 0 0 := ⟨fun _ _ => by kernel_rfl⟩
instance fd27_0 : FD Try.prog 27 0 0 := fd_mk (ft := 3) Try.underlying27 rfl
instance fa27_1 : FA Try.prog 27 1 1 := ⟨fun _ _ => by kernel_rfl⟩
instance fd27_1 : FD Try.prog 27 1 1 := fd_mk (ft := 3) Try.underlying27 rfl
instance fa27_2 : FA Try.prog 27 2 2 := ⟨fun _ _ => by kernel_rfl⟩
instance fd27_2 : FD Try.prog 27 2 2 := fd_mk (ft := 23) Try.underlying27 rfl
instance fa27_3 : FA Try.prog 27 3 3 := ⟨fun _ _ => by kernel_rfl⟩
instance fd27_3 : FD Try.prog 27 3 3 := fd_mk (ft := 23) Try.underlying27 rfl
instance fa27_4 : FA Try.prog 27 4 4 := ⟨fun _ _ => by kernel_rfl⟩
instance bl27 : BL Try.prog 27 [(0, 1), (1, 1), (2, 1), (3, 1), (4, 2)] [.int .i64 0, .int .i64 0, .slice none 0 0, .slice none 0 0, .int .i64 0, .slice none 0 0] := bl_mk Try.underlying27 (fun _ => by kernel_rfl)
instance ul29 : UL Try.prog 29 (.func #[3, 3, 3] #[22, 27, 4] false) := ⟨Try.underlying29⟩
instance ti29 : TI Try.prog 29 (.nilFunc) 1 8 := ⟨by kernel_rfl⟩
instance na29 : NAgg Try.prog 29 := ⟨fun _ => by kernel_rfl⟩
instance ul30 : UL Try.prog 30 (.func #[] #[4] false) := ⟨Try.underlying30⟩
instance ti30 : TI Try.prog 30 (.nilFunc) 1 8 := ⟨by kernel_rfl⟩
instance na30 : NAgg Try.prog 30 := ⟨fun _ => by kernel_rfl⟩
instance ul31 : UL Try.prog 31 (.int .u32) := ⟨Try.underlying31⟩
instance ti31 : TI Try.prog 31 (.int .u32 0) 1 4 := ⟨by kernel_rfl⟩
instance na31 : NAgg Try.prog 31 := ⟨fun _ => by kernel_rfl⟩
instance ti32 : TI Try.prog 32 (.agg #[.bool false, .bool false, .int .u32 0]) 3 8 := ⟨by kernel_rfl⟩
instance ia32 : IAgg Try.prog 32 3 := ⟨fun _ => ⟨by kernel_rfl, by kernel_rfl⟩⟩
instance fa32_0 : FA Try.prog 32 0 0 := ⟨fun _ _ => by kernel_rfl⟩
instance fd32_0 : FD Try.prog 32 0 0 := fd_mk (ft := 4) Try.underlying32 rfl
instance fa32_1 : FA Try.prog 32 1 1 := ⟨fun _ _ => by kernel_rfl⟩
instance fd32_1 : FD Try.prog 32 1 1 := fd_mk (ft := 4) Try.underlying32 rfl
instance fa32_2 : FA Try.prog 32 2 2 := ⟨fun _ _ => by kernel_rfl⟩
instance fd32_2 : FD Try.prog 32 2 2 := fd_mk (ft := 31) Try.underlying32 rfl
instance bl32 : BL Try.prog 32 [(0, 1), (1, 1), (2, 1)] [.bool false, .bool false, .int .u32 0] := bl_mk Try.underlying32 (fun _ => by kernel_rfl)
instance ti33 : TI Try.prog 33 (.agg #[.bool false, .bool false, .int .u32 0]) 3 8 := ⟨by kernel_rfl⟩
instance ia33 : IAgg Try.prog 33 3 := ⟨fun _ => ⟨by kernel_rfl, by kernel_rfl⟩⟩
instance fa33_0 : FA Try.prog 33 0 0 := ⟨fun _ _ => by kernel_rfl⟩
instance fd33_0 : FD Try.prog 33 0 0 := fd_mk (ft := 4) Try.underlying33 rfl
instance fa33_1 : FA Try.prog 33 1 1 := ⟨fun _ _ => by kernel_rfl⟩
instance fd33_1 : FD Try.prog 33 1 1 := fd_mk (ft := 4) Try.underlying33 rfl
instance fa33_2 : FA Try.prog 33 2 2 := ⟨fun _ _ => by kernel_rfl⟩
instance fd33_2 : FD Try.prog 33 2 2 := fd_mk (ft := 31) Try.underlying33 rfl
instance bl33 : BL Try.prog 33 [(0, 1), (1, 1), (2, 1)] [.bool false, .bool false, .int .u32 0] := bl_mk Try.underlying33 (fun _ => by kernel_rfl)
instance ul34 : UL Try.prog 34 (.int .i64) := ⟨Try.underlying34⟩
instance ti34 : TI Try.prog 34 (.int .i64 0) 1 8 := ⟨by kernel_rfl⟩
instance na34 : NAgg Try.prog 34 := ⟨fun _ => by kernel_rfl⟩
instance ul36 : UL Try.prog 36 (.func #[31] #[33, 34] false) := ⟨Try.underlying36⟩
instance ti36 : TI Try.prog 36 (.nilFunc) 1 8 := ⟨by kernel_rfl⟩
instance na36 : NAgg Try.prog 36 := ⟨fun _ => by kernel_rfl⟩
instance ul37 : UL Try.prog 37 (.func #[31] #[4] false) := ⟨Try.underlying37⟩
instance ti37 : TI Try.prog 37 (.nilFunc) 1 8 := ⟨by kernel_rfl⟩
instance na37 : NAgg Try.prog 37 := ⟨fun _ => by kernel_rfl⟩
instance ul39 : UL Try.prog 39 (.func #[] #[23, 23, 23] false) := ⟨Try.underlying39⟩
instance ti39 : TI Try.prog 39 (.nilFunc) 1 8 := ⟨by kernel_rfl⟩
instance na39 : NAgg Try.prog 39 := ⟨fun _ => by kernel_rfl⟩
instance ul40 : UL Try.prog 40 (.func #[23, 23] #[4] false) := ⟨Try.underlying40⟩
instance ti40 : TI Try.prog 40 (.nilFunc) 1 8 := ⟨by kernel_rfl⟩
instance na40 : NAgg Try.prog 40 := ⟨fun _ => by kernel_rfl⟩
instance ul41 : UL Try.prog 41 (.func #[] #[3] false) := ⟨Try.underlying41⟩
instance ti41 : TI Try.prog 41 (.nilFunc) 1 8 := ⟨by kernel_rfl⟩
instance na41 : NAgg Try.prog 41 := ⟨fun _ => by kernel_rfl⟩
instance ul42 : UL Try.prog 42 (.func #[3, 3, 3, 3, 5] #[4] false) := ⟨Try.underlying42⟩
instance ti42 : TI Try.prog 42 (.nilFunc) 1 8 := ⟨by kernel_rfl⟩
instance na42 : NAgg Try.prog 42 := ⟨fun _ => by kernel_rfl⟩
instance ul43 : UL Try.prog 43 (.slice 46) := ⟨Try.underlying43⟩
instance ti43 : TI Try.prog 43 (.slice none 0 0) 1 24 := ⟨by kernel_rfl⟩
instance na43 : NAgg Try.prog 43 := ⟨fun _ => by kernel_rfl⟩
instance mt44 : MTyA Try.prog 44 Bool .u32 (fun b : Bool => .bool b) := ⟨trivial⟩
instance ul44 : UL Try.prog 44 (.map 31 4) := ⟨Try.underlying44⟩
instance ti44 : TI Try.prog 44 (.map none) 1 8 := ⟨by kernel_rfl⟩
instance na44 : NAgg Try.prog 44 := ⟨fun _ => by kernel_rfl⟩
instance ti45 : TI Try.prog 45 (.agg #[.int .i64 0, .int .u32 0]) 2 16 := ⟨by kernel_rfl⟩
instance ia45 : IAgg Try.prog 45 2 := ⟨fun _ => ⟨by kernel_rfl, by kernel_rfl⟩⟩
instance fa45_0 : FA Try.prog 45 0 0 := ⟨fun _ _ => by kernel_rfl⟩
instance fd45_0 : FD Try.prog 45 0 0 := fd_mk (ft := 3) Try.underlying45 rfl
instance fa45_1 : FA Try.prog 45 1 1 := ⟨fun _ _ => by kernel_rfl⟩
instance fd45_1 : FD Try.prog 45 1 1 := fd_mk (ft := 31) Try.underlying45 rfl
instance bl45 : BL Try.prog 45 [(0, 1), (1, 1)] [.int .i64 0, .int .u32 0] := bl_mk Try.underlying45 (fun _ => by kernel_rfl)
instance ti46 : TI Try.prog 46 (.agg #[.int .i64 0, .int .u32 0]) 2 16 := ⟨by kernel_rfl⟩
instance ia46 : IAgg Try.prog 46 2 := ⟨fun _ => ⟨by kernel_rfl, by kernel_rfl⟩⟩
instance fa46_0 : FA Try.prog 46 0 0 := ⟨fun _ _ => by kernel_rfl⟩
instance fd46_0 : FD Try.prog 46 0 0 := fd_mk (ft := 3) Try.underlying46 rfl
instance fa46_1 : FA Try.prog 46 1 1 := ⟨fun _ _ => by kernel_rfl⟩
instance fd46_1 : FD Try.prog 46 1 1 := fd_mk (ft := 31) Try.underlying46 rfl
instance bl46 : BL Try.prog 46 [(0, 1), (1, 1)] [.int .i64 0, .int .u32 0] := bl_mk Try.underlying46 (fun _ => by kernel_rfl)
instance ul48 : UL Try.prog 48 (.func #[31] #[4, 34] false) := ⟨Try.underlying48⟩
instance ti48 : TI Try.prog 48 (.nilFunc) 1 8 := ⟨by kernel_rfl⟩
instance na48 : NAgg Try.prog 48 := ⟨fun _ => by kernel_rfl⟩
instance mt49 : MTyA Try.prog 49 Int .u32 (fun z : Int => .int .i64 z) := ⟨trivial⟩
instance ul49 : UL Try.prog 49 (.map 31 3) := ⟨Try.underlying49⟩
instance ti49 : TI Try.prog 49 (.map none) 1 8 := ⟨by kernel_rfl⟩
instance na49 : NAgg Try.prog 49 := ⟨fun _ => by kernel_rfl⟩
instance ul50 : UL Try.prog 50 (.slice 23) := ⟨Try.underlying50⟩
instance ti50 : TI Try.prog 50 (.slice none 0 0) 1 24 := ⟨by kernel_rfl⟩
instance na50 : NAgg Try.prog 50 := ⟨fun _ => by kernel_rfl⟩
instance ul51 : UL Try.prog 51 (.func #[3, 3, 3, 43] #[4] false) := ⟨Try.underlying51⟩
instance ti51 : TI Try.prog 51 (.nilFunc) 1 8 := ⟨by kernel_rfl⟩
instance na51 : NAgg Try.prog 51 := ⟨fun _ => by kernel_rfl⟩
instance ul53 : UL Try.prog 53 (.func #[3, 3, 3] #[22, 34] false) := ⟨Try.underlying53⟩
instance ti53 : TI Try.prog 53 (.nilFunc) 1 8 := ⟨by kernel_rfl⟩
instance na53 : NAgg Try.prog 53 := ⟨fun _ => by kernel_rfl⟩
instance ul55 : UL Try.prog 55 (.func #[3, 3, 3] #[27, 3] false) := ⟨Try.underlying55⟩
instance ti55 : TI Try.prog 55 (.nilFunc) 1 8 := ⟨by kernel_rfl⟩
instance na55 : NAgg Try.prog 55 := ⟨fun _ => by kernel_rfl⟩
instance ul56 : UL Try.prog 56 (.func #[22, 27, 31] #[4] false) := ⟨Try.underlying56⟩
instance ti56 : TI Try.prog 56 (.nilFunc) 1 8 := ⟨by kernel_rfl⟩
instance na56 : NAgg Try.prog 56 := ⟨fun _ => by kernel_rfl⟩
instance ul57 : UL Try.prog 57 (.func #[3, 3, 3] #[4] false) := ⟨Try.underlying57⟩
instance ti57 : TI Try.prog 57 (.nilFunc) 1 8 := ⟨by kernel_rfl⟩
instance na57 : NAgg Try.prog 57 := ⟨fun _ => by kernel_rfl⟩
instance ul58 : UL Try.prog 58 (.func #[22, 27, 43] #[22, 27, 4] false) := ⟨Try.underlying58⟩
instance ti58 : TI Try.prog 58 (.nilFunc) 1 8 := ⟨by kernel_rfl⟩
instance na58 : NAgg Try.prog 58 := ⟨fun _ => by kernel_rfl⟩
instance mt59 : MTyA Try.prog 59 Nat .u32 (fun n : Nat => .int .u32 (n : Nat)) := ⟨trivial⟩
instance ul59 : UL Try.prog 59 (.map 31 31) := ⟨Try.underlying59⟩
instance ti59 : TI Try.prog 59 (.map none) 1 8 := ⟨by kernel_rfl⟩
instance na59 : NAgg Try.prog 59 := ⟨fun _ => by kernel_rfl⟩
instance ti60 : TI Try.prog 60 (.agg #[.map none, .slice none 0 0, .slice none 0 0]) 3 56 := ⟨by kernel_rfl⟩
instance ia60 : IAgg Try.prog 60 3 := ⟨fun _ => ⟨by kernel_rfl, by kernel_rfl⟩⟩
instance fa60_0 : FA Try.prog 60 0 0 := ⟨fun _ _ => by kernel_rfl⟩
instance fd60_0 : FD Try.prog 60 0 0 := fd_mk (ft := 59) Try.underlying60 rfl
instance fa60_1 : FA Try.prog 60 1 1 := ⟨fun _ _ => by kernel_rfl⟩
instance fd60_1 : FD Try.prog 60 1 1 := fd_mk (ft := 23) Try.underlying60 rfl
instance fa60_2 : FA Try.prog 60 2 2 := ⟨fun _ _ => by kernel_rfl⟩
instance fd60_2 : FD Try.prog 60 2 2 := fd_mk (ft := 23) Try.underlying60 rfl
instance bl60 : BL Try.prog 60 [(0, 1), (1, 1), (2, 1)] [.map none, .slice none 0 0, .slice none 0 0] := bl_mk Try.underlying60 (fun _ => by kernel_rfl)
instance ti61 : TI Try.prog 61 (.agg #[.map none, .slice none 0 0, .slice none 0 0]) 3 56 := ⟨by kernel_rfl⟩
instance ia61 : IAgg Try.prog 61 3 := ⟨fun _ => ⟨by kernel_rfl, by kernel_rfl⟩⟩
instance fa61_0 : FA Try.prog 61 0 0 := ⟨fun _ _ => by kernel_rfl⟩
instance fd61_0 : FD Try.prog 61 0 0 := fd_mk (ft := 59) Try.underlying61 rfl
instance fa61_1 : FA Try.prog 61 1 1 := ⟨fun _ _ => by kernel_rfl⟩
instance fd61_1 : FD Try.prog 61 1 1 := fd_mk (ft := 23) Try.underlying61 rfl
instance fa61_2 : FA Try.prog 61 2 2 := ⟨fun _ _ => by kernel_rfl⟩
instance fd61_2 : FD Try.prog 61 2 2 := fd_mk (ft := 23) Try.underlying61 rfl
instance bl61 : BL Try.prog 61 [(0, 1), (1, 1), (2, 1)] [.map none, .slice none 0 0, .slice none 0 0] := bl_mk Try.underlying61 (fun _ => by kernel_rfl)
instance ul62 : UL Try.prog 62 (.pointer 129) := ⟨Try.underlying62⟩
instance ti62 : TI Try.prog 62 (.pointer none) 1 8 := ⟨by kernel_rfl⟩
instance na62 : NAgg Try.prog 62 := ⟨fun _ => by kernel_rfl⟩
instance ul63 : UL Try.prog 63 (.pointer 133) := ⟨Try.underlying63⟩
instance ti63 : TI Try.prog 63 (.pointer none) 1 8 := ⟨by kernel_rfl⟩
instance na63 : NAgg Try.prog 63 := ⟨fun _ => by kernel_rfl⟩
instance ti64 : TI Try.prog 64 (.agg #[.map none, .slice none 0 0, .slice none 0 0, .int .i64 0, .int .i64 0, .pointer none, .pointer none, .pointer none]) 8 96 := ⟨by kernel_rfl⟩
instance ia64 : IAgg Try.prog 64 8 := ⟨fun _ => ⟨by kernel_rfl, by kernel_rfl⟩⟩
instance fa64_0 : FA Try.prog 64 0 0 := ⟨fun _ _ => by kernel_rfl⟩
instance fa64_1 : FA Try.prog 64 1 3 := ⟨fun _ _ => by kernel_rfl⟩
instance fd64_1 : FD Try.prog 64 1 3 := fd_mk (ft := 3) Try.underlying64 rfl
instance fa64_2 : FA Try.prog 64 2 4 := ⟨fun _ _ => by kernel_rfl⟩
instance fd64_2 : FD Try.prog 64 2 4 := fd_mk (ft := 3) Try.underlying64 rfl
instance fa64_3 : FA Try.prog 64 3 5 := ⟨fun _ _ => by kernel_rfl⟩
instance fd64_3 : FD Try.prog 64 3 5 := fd_mk (ft := 62) Try.underlying64 rfl
instance fa64_4 : FA Try.prog 64 4 6 := ⟨fun _ _ => by kernel_rfl⟩
instance fd64_4 : FD Try.prog 64 4 6 := fd_mk (ft := 62) Try.underlying64 rfl
instance fa64_5 : FA Try.prog 64 5 7 := ⟨fun _ _ => by kernel_rfl⟩
instance fd64_5 : FD Try.prog 64 5 7 := fd_mk (ft := 63) Try.underlying64 rfl
instance bl64 : BL Try.prog 64 [(0, 3), (3, 1), (4, 1), (5, 1), (6, 1), (7, 1)] [.map none, .slice none 0 0, .slice none 0 0, .int .i64 0, .int .i64 0, .pointer none, .pointer none, .pointer none] := bl_mk Try.underlying64 (fun _ => by kernel_rfl)
instance ti65 : TI Try.prog 65 (.agg #[.map none, .slice none 0 0, .slice none 0 0, .int .i64 0, .int .i64 0, .pointer none, .pointer none, .pointer none]) 8 96 := ⟨by kernel_rfl⟩
instance ia65 : IAgg Try.prog 65 8 := ⟨fun _ => ⟨by kernel_rfl, by kernel_rfl⟩⟩
instance fa65_0 : FA Try.prog 65 0 0 := ⟨fun _ _ => by kernel_rfl⟩
instance fa65_1 : FA Try.prog 65 1 3 := ⟨fun _ _ => by kernel_rfl⟩
instance fd65_1 : FD Try.prog 65 1 3 := fd_mk (ft := 3) Try.underlying65 rfl
instance fa65_2 : FA Try.prog 65 2 4 := ⟨fun _ _ => by kernel_rfl⟩
instance fd65_2 : FD Try.prog 65 2 4 := fd_mk (ft := 3) Try.underlying65 rfl
instance fa65_3 : FA Try.prog 65 3 5 := ⟨fun _ _ => by kernel_rfl⟩
instance fd65_3 : FD Try.prog 65 3 5 := fd_mk (ft := 62) Try.underlying65 rfl
instance fa65_4 : FA Try.prog 65 4 6 := ⟨fun _ _ => by kernel_rfl⟩
instance fd65_4 : FD Try.prog 65 4 6 := fd_mk (ft := 62) Try.underlying65 rfl
instance fa65_5 : FA Try.prog 65 5 7 := ⟨fun _ _ => by kernel_rfl⟩
instance fd65_5 : FD Try.prog 65 5 7 := fd_mk (ft := 63) Try.underlying65 rfl
instance bl65 : BL Try.prog 65 [(0, 3), (3, 1), (4, 1), (5, 1), (6, 1), (7, 1)] [.map none, .slice none 0 0, .slice none 0 0, .int .i64 0, .int .i64 0, .pointer none, .pointer none, .pointer none] := bl_mk Try.underlying65 (fun _ => by kernel_rfl)
instance ul66 : UL Try.prog 66 (.slice 22) := ⟨Try.underlying66⟩
instance ti66 : TI Try.prog 66 (.slice none 0 0) 1 24 := ⟨by kernel_rfl⟩
instance na66 : NAgg Try.prog 66 := ⟨fun _ => by kernel_rfl⟩
instance ul67 : UL Try.prog 67 (.func #[22, 23, 23, 23] #[4] false) := ⟨Try.underlying67⟩
instance ti67 : TI Try.prog 67 (.nilFunc) 1 8 := ⟨by kernel_rfl⟩
instance na67 : NAgg Try.prog 67 := ⟨fun _ => by kernel_rfl⟩
instance ul68 : UL Try.prog 68 (.func #[] #[22] false) := ⟨Try.underlying68⟩
instance ti68 : TI Try.prog 68 (.nilFunc) 1 8 := ⟨by kernel_rfl⟩
instance na68 : NAgg Try.prog 68 := ⟨fun _ => by kernel_rfl⟩
instance ul69 : UL Try.prog 69 (.slice 73) := ⟨Try.underlying69⟩
instance ti69 : TI Try.prog 69 (.slice none 0 0) 1 24 := ⟨by kernel_rfl⟩
instance na69 : NAgg Try.prog 69 := ⟨fun _ => by kernel_rfl⟩
instance ul70 : UL Try.prog 70 (.pointer 90) := ⟨Try.underlying70⟩
instance ti70 : TI Try.prog 70 (.pointer none) 1 8 := ⟨by kernel_rfl⟩
instance na70 : NAgg Try.prog 70 := ⟨fun _ => by kernel_rfl⟩
instance ul72 : UL Try.prog 72 (.func #[3] #[70, 34] false) := ⟨Try.underlying72⟩
instance ti72 : TI Try.prog 72 (.nilFunc) 1 8 := ⟨by kernel_rfl⟩
instance na72 : NAgg Try.prog 72 := ⟨fun _ => by kernel_rfl⟩
instance ti73 : TI Try.prog 73 (.agg #[.int .i64 0, .int .u32 0]) 2 16 := ⟨by kernel_rfl⟩
instance ia73 : IAgg Try.prog 73 2 := ⟨fun _ => ⟨by kernel_rfl, by kernel_rfl⟩⟩
instance fa73_0 : FA Try.prog 73 0 0 := ⟨fun _ _ => by kernel_rfl⟩
instance fd73_0 : FD Try.prog 73 0 0 := fd_mk (ft := 3) Try.underlying73 rfl
instance fa73_1 : FA Try.prog 73 1 1 := ⟨fun _ _ => by kernel_rfl⟩
instance fd73_1 : FD Try.prog 73 1 1 := fd_mk (ft := 31) Try.underlying73 rfl
instance bl73 : BL Try.prog 73 [(0, 1), (1, 1)] [.int .i64 0, .int .u32 0] := bl_mk Try.underlying73 (fun _ => by kernel_rfl)
instance ul75 : UL Try.prog 75 (.func #[] #[23, 23, 23, 23, 3] false) := ⟨Try.underlying75⟩
instance ti75 : TI Try.prog 75 (.nilFunc) 1 8 := ⟨by kernel_rfl⟩
instance na75 : NAgg Try.prog 75 := ⟨fun _ => by kernel_rfl⟩
instance ul76 : UL Try.prog 76 (.func #[3, 69] #[4] false) := ⟨Try.underlying76⟩
instance ti76 : TI Try.prog 76 (.nilFunc) 1 8 := ⟨by kernel_rfl⟩
instance na76 : NAgg Try.prog 76 := ⟨fun _ => by kernel_rfl⟩
instance ti77 : TI Try.prog 77 (.agg #[.int .i64 0, .slice none 0 0, .slice none 0 0, .slice none 0 0, .slice none 0 0, .int .i64 0]) 6 112 := ⟨by kernel_rfl⟩
instance ia77 : IAgg Try.prog 77 6 := ⟨fun _ => ⟨by kernel_rfl, by kernel_rfl⟩⟩
instance fa77_0 : FA Try.prog 77 0 0 := ⟨fun _ _ => by kernel_rfl⟩
instance fd77_0 : FD Try.prog 77 0 0 := fd_mk (ft := 3) Try.underlying77 rfl
instance fa77_1 : FA Try.prog 77 1 1 := ⟨fun _ _ => by kernel_rfl⟩
instance fd77_1 : FD Try.prog 77 1 1 := fd_mk (ft := 23) Try.underlying77 rfl
instance fa77_2 : FA Try.prog 77 2 2 := ⟨fun _ _ => by kernel_rfl⟩
instance fd77_2 : FD Try.prog 77 2 2 := fd_mk (ft := 23) Try.underlying77 rfl
instance fa77_3 : FA Try.prog 77 3 3 := ⟨fun _ _ => by kernel_rfl⟩
instance fd77_3 : FD Try.prog 77 3 3 := fd_mk (ft := 23) Try.underlying77 rfl
instance fa77_4 : FA Try.prog 77 4 4 := ⟨fun _ _ => by kernel_rfl⟩
instance fd77_4 : FD Try.prog 77 4 4 := fd_mk (ft := 23) Try.underlying77 rfl
instance fa77_5 : FA Try.prog 77 5 5 := ⟨fun _ _ => by kernel_rfl⟩
instance fd77_5 : FD Try.prog 77 5 5 := fd_mk (ft := 3) Try.underlying77 rfl
instance bl77 : BL Try.prog 77 [(0, 1), (1, 1), (2, 1), (3, 1), (4, 1), (5, 1)] [.int .i64 0, .slice none 0 0, .slice none 0 0, .slice none 0 0, .slice none 0 0, .int .i64 0] := bl_mk Try.underlying77 (fun _ => by kernel_rfl)
instance ti78 : TI Try.prog 78 (.agg #[.int .i64 0, .slice none 0 0, .slice none 0 0, .slice none 0 0, .slice none 0 0, .int .i64 0]) 6 112 := ⟨by kernel_rfl⟩
instance ia78 : IAgg Try.prog 78 6 := ⟨fun _ => ⟨by kernel_rfl, by kernel_rfl⟩⟩
instance fa78_0 : FA Try.prog 78 0 0 := ⟨fun _ _ => by kernel_rfl⟩
instance fd78_0 : FD Try.prog 78 0 0 := fd_mk (ft := 3) Try.underlying78 rfl
instance fa78_1 : FA Try.prog 78 1 1 := ⟨fun _ _ => by kernel_rfl⟩
instance fd78_1 : FD Try.prog 78 1 1 := fd_mk (ft := 23) Try.underlying78 rfl
instance fa78_2 : FA Try.prog 78 2 2 := ⟨fun _ _ => by kernel_rfl⟩
instance fd78_2 : FD Try.prog 78 2 2 := fd_mk (ft := 23) Try.underlying78 rfl
instance fa78_3 : FA Try.prog 78 3 3 := ⟨fun _ _ => by kernel_rfl⟩
instance fd78_3 : FD Try.prog 78 3 3 := fd_mk (ft := 23) Try.underlying78 rfl
instance fa78_4 : FA Try.prog 78 4 4 := ⟨fun _ _ => by kernel_rfl⟩
instance fd78_4 : FD Try.prog 78 4 4 := fd_mk (ft := 23) Try.underlying78 rfl
instance fa78_5 : FA Try.prog 78 5 5 := ⟨fun _ _ => by kernel_rfl⟩
instance fd78_5 : FD Try.prog 78 5 5 := fd_mk (ft := 3) Try.underlying78 rfl
instance bl78 : BL Try.prog 78 [(0, 1), (1, 1), (2, 1), (3, 1), (4, 1), (5, 1)] [.int .i64 0, .slice none 0 0, .slice none 0 0, .slice none 0 0, .slice none 0 0, .int .i64 0] := bl_mk Try.underlying78 (fun _ => by kernel_rfl)
instance ul80 : UL Try.prog 80 (.func #[3] #[78, 3] false) := ⟨Try.underlying80⟩
instance ti80 : TI Try.prog 80 (.nilFunc) 1 8 := ⟨by kernel_rfl⟩
instance na80 : NAgg Try.prog 80 := ⟨fun _ => by kernel_rfl⟩
instance ul81 : UL Try.prog 81 (.func #[70, 78, 31] #[4] false) := ⟨Try.underlying81⟩
instance ti81 : TI Try.prog 81 (.nilFunc) 1 8 := ⟨by kernel_rfl⟩
instance na81 : NAgg Try.prog 81 := ⟨fun _ => by kernel_rfl⟩
instance ul82 : UL Try.prog 82 (.func #[3] #[4] false) := ⟨Try.underlying82⟩
instance ti82 : TI Try.prog 82 (.nilFunc) 1 8 := ⟨by kernel_rfl⟩
instance na82 : NAgg Try.prog 82 := ⟨fun _ => by kernel_rfl⟩
instance ul84 : UL Try.prog 84 (.func #[70, 78, 69] #[70, 78, 4] false) := ⟨Try.underlying84⟩
instance ti84 : TI Try.prog 84 (.nilFunc) 1 8 := ⟨by kernel_rfl⟩
instance na84 : NAgg Try.prog 84 := ⟨fun _ => by kernel_rfl⟩
instance ti85 : TI Try.prog 85 (.agg #[.map none, .slice none 0 0, .slice none 0 0]) 3 56 := ⟨by kernel_rfl⟩
instance ia85 : IAgg Try.prog 85 3 := ⟨fun _ => ⟨by kernel_rfl, by kernel_rfl⟩⟩
instance fa85_0 : FA Try.prog 85 0 0 := ⟨fun _ _ => by kernel_rfl⟩
instance fd85_0 : FD Try.prog 85 0 0 := fd_mk (ft := 59) Try.underlying85 rfl
instance fa85_1 : FA Try.prog 85 1 1 := ⟨fun _ _ => by kernel_rfl⟩
instance fd85_1 : FD Try.prog 85 1 1 := fd_mk (ft := 23) Try.underlying85 rfl
instance fa85_2 : FA Try.prog 85 2 2 := ⟨fun _ _ => by kernel_rfl⟩
instance fd85_2 : FD Try.prog 85 2 2 := fd_mk (ft := 23) Try.underlying85 rfl
instance bl85 : BL Try.prog 85 [(0, 1), (1, 1), (2, 1)] [.map none, .slice none 0 0, .slice none 0 0] := bl_mk Try.underlying85 (fun _ => by kernel_rfl)
instance ti86 : TI Try.prog 86 (.agg #[.map none, .slice none 0 0, .slice none 0 0]) 3 56 := ⟨by kernel_rfl⟩
instance ia86 : IAgg Try.prog 86 3 := ⟨fun _ => ⟨by kernel_rfl, by kernel_rfl⟩⟩
instance fa86_0 : FA Try.prog 86 0 0 := ⟨fun _ _ => by kernel_rfl⟩
instance fd86_0 : FD Try.prog 86 0 0 := fd_mk (ft := 59) Try.underlying86 rfl
instance fa86_1 : FA Try.prog 86 1 1 := ⟨fun _ _ => by kernel_rfl⟩
instance fd86_1 : FD Try.prog 86 1 1 := fd_mk (ft := 23) Try.underlying86 rfl
instance fa86_2 : FA Try.prog 86 2 2 := ⟨fun _ _ => by kernel_rfl⟩
instance fd86_2 : FD Try.prog 86 2 2 := fd_mk (ft := 23) Try.underlying86 rfl
instance bl86 : BL Try.prog 86 [(0, 1), (1, 1), (2, 1)] [.map none, .slice none 0 0, .slice none 0 0] := bl_mk Try.underlying86 (fun _ => by kernel_rfl)
instance ti87 : TI Try.prog 87 (.agg #[.pointer none, .pointer none]) 2 16 := ⟨by kernel_rfl⟩
instance ia87 : IAgg Try.prog 87 2 := ⟨fun _ => ⟨by kernel_rfl, by kernel_rfl⟩⟩
instance fa87_0 : FA Try.prog 87 0 0 := ⟨fun _ _ => by kernel_rfl⟩
instance fd87_0 : FD Try.prog 87 0 0 := fd_mk (ft := 62) Try.underlying87 rfl
instance fa87_1 : FA Try.prog 87 1 1 := ⟨fun _ _ => by kernel_rfl⟩
instance fd87_1 : FD Try.prog 87 1 1 := fd_mk (ft := 63) Try.underlying87 rfl
instance bl87 : BL Try.prog 87 [(0, 1), (1, 1)] [.pointer none, .pointer none] := bl_mk Try.underlying87 (fun _ => by kernel_rfl)
instance ti88 : TI Try.prog 88 (.agg #[.pointer none, .pointer none]) 2 16 := ⟨by kernel_rfl⟩
instance ia88 : IAgg Try.prog 88 2 := ⟨fun _ => ⟨by kernel_rfl, by kernel_rfl⟩⟩
instance fa88_0 : FA Try.prog 88 0 0 := ⟨fun _ _ => by kernel_rfl⟩
instance fd88_0 : FD Try.prog 88 0 0 := fd_mk (ft := 62) Try.underlying88 rfl
instance fa88_1 : FA Try.prog 88 1 1 := ⟨fun _ _ => by kernel_rfl⟩
instance fd88_1 : FD Try.prog 88 1 1 := fd_mk (ft := 63) Try.underlying88 rfl
instance bl88 : BL Try.prog 88 [(0, 1), (1, 1)] [.pointer none, .pointer none] := bl_mk Try.underlying88 (fun _ => by kernel_rfl)
instance ti89 : TI Try.prog 89 (.agg #[.int .i64 0, .map none, .slice none 0 0, .slice none 0 0, .pointer none, .pointer none, .pointer none, .pointer none, .int .i64 0]) 9 104 := ⟨by kernel_rfl⟩
instance ia89 : IAgg Try.prog 89 9 := ⟨fun _ => ⟨by kernel_rfl, by kernel_rfl⟩⟩
instance fa89_0 : FA Try.prog 89 0 0 := ⟨fun _ _ => by kernel_rfl⟩
instance fd89_0 : FD Try.prog 89 0 0 := fd_mk (ft := 3) Try.underlying89 rfl
instance fa89_1 : FA Try.prog 89 1 1 := ⟨fun _ _ => by kernel_rfl⟩
instance fa89_2 : FA Try.prog 89 2 4 := ⟨fun _ _ => by kernel_rfl⟩
instance fa89_3 : FA Try.prog 89 3 6 := ⟨fun _ _ => by kernel_rfl⟩
instance fa89_4 : FA Try.prog 89 4 8 := ⟨fun _ _ => by kernel_rfl⟩
instance fd89_4 : FD Try.prog 89 4 8 := fd_mk (ft := 3) Try.underlying89 rfl
instance bl89 : BL Try.prog 89 [(0, 1), (1, 3), (4, 2), (6, 2), (8, 1)] [.int .i64 0, .map none, .slice none 0 0, .slice none 0 0, .pointer none, .pointer none, .pointer none, .pointer none, .int .i64 0] := bl_mk Try.underlying89 (fun _ => by kernel_rfl)
instance ti90 : TI Try.prog 90 (.agg #[.int .i64 0, .map none, .slice none 0 0, .slice none 0 0, .pointer none, .pointer none, .pointer none, .pointer none, .int .i64 0]) 9 104 := ⟨by kernel_rfl⟩
instance ia90 : IAgg Try.prog 90 9 := ⟨fun _ => ⟨by kernel_rfl, by kernel_rfl⟩⟩
instance fa90_0 : FA Try.prog 90 0 0 := ⟨fun _ _ => by kernel_rfl⟩
instance fd90_0 : FD Try.prog 90 0 0 := fd_mk (ft := 3) Try.underlying90 rfl
instance fa90_1 : FA Try.prog 90 1 1 := ⟨fun _ _ => by kernel_rfl⟩
instance fa90_2 : FA Try.prog 90 2 4 := ⟨fun _ _ => by kernel_rfl⟩
instance fa90_3 : FA Try.prog 90 3 6 := ⟨fun _ _ => by kernel_rfl⟩
instance fa90_4 : FA Try.prog 90 4 8 := ⟨fun _ _ => by kernel_rfl⟩
instance fd90_4 : FD Try.prog 90 4 8 := fd_mk (ft := 3) Try.underlying90 rfl
instance bl90 : BL Try.prog 90 [(0, 1), (1, 3), (4, 2), (6, 2), (8, 1)] [.int .i64 0, .map none, .slice none 0 0, .slice none 0 0, .pointer none, .pointer none, .pointer none, .pointer none, .int .i64 0] := bl_mk Try.underlying90 (fun _ => by kernel_rfl)
instance ul91 : UL Try.prog 91 (.slice 70) := ⟨Try.underlying91⟩
instance ti91 : TI Try.prog 91 (.slice none 0 0) 1 24 := ⟨by kernel_rfl⟩
instance na91 : NAgg Try.prog 91 := ⟨fun _ => by kernel_rfl⟩
instance ul92 : UL Try.prog 92 (.func #[70, 23, 23, 23, 23, 3] #[4] false) := ⟨Try.underlying92⟩
instance ti92 : TI Try.prog 92 (.nilFunc) 1 8 := ⟨by kernel_rfl⟩
instance na92 : NAgg Try.prog 92 := ⟨fun _ => by kernel_rfl⟩
instance ul93 : UL Try.prog 93 (.func #[] #[70] false) := ⟨Try.underlying93⟩
instance ti93 : TI Try.prog 93 (.nilFunc) 1 8 := ⟨by kernel_rfl⟩
instance na93 : NAgg Try.prog 93 := ⟨fun _ => by kernel_rfl⟩
instance ul94 : UL Try.prog 94 (.func #[22, 31, 33] #[4] false) := ⟨Try.underlying94⟩
instance ti94 : TI Try.prog 94 (.nilFunc) 1 8 := ⟨by kernel_rfl⟩
instance na94 : NAgg Try.prog 94 := ⟨fun _ => by kernel_rfl⟩
instance ul95 : UL Try.prog 95 (.func #[31] #[33] false) := ⟨Try.underlying95⟩
instance ti95 : TI Try.prog 95 (.nilFunc) 1 8 := ⟨by kernel_rfl⟩
instance na95 : NAgg Try.prog 95 := ⟨fun _ => by kernel_rfl⟩
instance ul96 : UL Try.prog 96 (.array 3 3) := ⟨Try.underlying96⟩
instance ti96 : TI Try.prog 96 (.agg #[.int .i64 0, .int .i64 0, .int .i64 0]) 3 24 := ⟨by kernel_rfl⟩
instance ia96 : IAgg Try.prog 96 3 := ⟨fun _ => ⟨by kernel_rfl, by kernel_rfl⟩⟩
instance ul97 : UL Try.prog 97 (.slice 96) := ⟨Try.underlying97⟩
instance ti97 : TI Try.prog 97 (.slice none 0 0) 1 24 := ⟨by kernel_rfl⟩
instance na97 : NAgg Try.prog 97 := ⟨fun _ => by kernel_rfl⟩
instance ul99 : UL Try.prog 99 (.func #[31] #[34] false) := ⟨Try.underlying99⟩
instance ti99 : TI Try.prog 99 (.nilFunc) 1 8 := ⟨by kernel_rfl⟩
instance na99 : NAgg Try.prog 99 := ⟨fun _ => by kernel_rfl⟩
instance ul100 : UL Try.prog 100 (.func #[] #[33] false) := ⟨Try.underlying100⟩
instance ti100 : TI Try.prog 100 (.nilFunc) 1 8 := ⟨by kernel_rfl⟩
instance na100 : NAgg Try.prog 100 := ⟨fun _ => by kernel_rfl⟩
instance ul101 : UL Try.prog 101 (.func #[31] #[31] false) := ⟨Try.underlying101⟩
instance ti101 : TI Try.prog 101 (.nilFunc) 1 8 := ⟨by kernel_rfl⟩
instance na101 : NAgg Try.prog 101 := ⟨fun _ => by kernel_rfl⟩
instance ul102 : UL Try.prog 102 (.func #[62] #[23] false) := ⟨Try.underlying102⟩
instance ti102 : TI Try.prog 102 (.nilFunc) 1 8 := ⟨by kernel_rfl⟩
instance na102 : NAgg Try.prog 102 := ⟨fun _ => by kernel_rfl⟩
instance ul103 : UL Try.prog 103 (.func #[] #[23] false) := ⟨Try.underlying103⟩
instance ti103 : TI Try.prog 103 (.nilFunc) 1 8 := ⟨by kernel_rfl⟩
instance na103 : NAgg Try.prog 103 := ⟨fun _ => by kernel_rfl⟩
instance ul104 : UL Try.prog 104 (.slice 99) := ⟨Try.underlying104⟩
instance ti104 : TI Try.prog 104 (.slice none 0 0) 1 24 := ⟨by kernel_rfl⟩
instance na104 : NAgg Try.prog 104 := ⟨fun _ => by kernel_rfl⟩
instance ul105 : UL Try.prog 105 (.func #[31] #[] false) := ⟨Try.underlying105⟩
instance ti105 : TI Try.prog 105 (.nilFunc) 1 8 := ⟨by kernel_rfl⟩
instance na105 : NAgg Try.prog 105 := ⟨fun _ => by kernel_rfl⟩
instance ul107 : UL Try.prog 107 (.func #[3] #[63, 34] false) := ⟨Try.underlying107⟩
instance ti107 : TI Try.prog 107 (.nilFunc) 1 8 := ⟨by kernel_rfl⟩
instance na107 : NAgg Try.prog 107 := ⟨fun _ => by kernel_rfl⟩
instance ul108 : UL Try.prog 108 (.func #[3] #[61] false) := ⟨Try.underlying108⟩
instance ti108 : TI Try.prog 108 (.nilFunc) 1 8 := ⟨by kernel_rfl⟩
instance na108 : NAgg Try.prog 108 := ⟨fun _ => by kernel_rfl⟩
instance ul109 : UL Try.prog 109 (.func #[] #[62] false) := ⟨Try.underlying109⟩
instance ti109 : TI Try.prog 109 (.nilFunc) 1 8 := ⟨by kernel_rfl⟩
instance na109 : NAgg Try.prog 109 := ⟨fun _ => by kernel_rfl⟩
instance ul111 : UL Try.prog 111 (.func #[31] #[27, 33] false) := ⟨Try.underlying111⟩
instance ti111 : TI Try.prog 111 (.nilFunc) 1 8 := ⟨by kernel_rfl⟩
instance na111 : NAgg Try.prog 111 := ⟨fun _ => by kernel_rfl⟩
instance ul113 : UL Try.prog 113 (.func #[31] #[27, 4] false) := ⟨Try.underlying113⟩
instance ti113 : TI Try.prog 113 (.nilFunc) 1 8 := ⟨by kernel_rfl⟩
instance na113 : NAgg Try.prog 113 := ⟨fun _ => by kernel_rfl⟩
instance ul114 : UL Try.prog 114 (.func #[] #[61] false) := ⟨Try.underlying114⟩
instance ti114 : TI Try.prog 114 (.nilFunc) 1 8 := ⟨by kernel_rfl⟩
instance na114 : NAgg Try.prog 114 := ⟨fun _ => by kernel_rfl⟩
instance ul115 : UL Try.prog 115 (.func #[] #[63] false) := ⟨Try.underlying115⟩
instance ti115 : TI Try.prog 115 (.nilFunc) 1 8 := ⟨by kernel_rfl⟩
instance na115 : NAgg Try.prog 115 := ⟨fun _ => by kernel_rfl⟩
instance ul116 : UL Try.prog 116 (.func #[70, 31, 33] #[4] false) := ⟨Try.underlying116⟩
instance ti116 : TI Try.prog 116 (.nilFunc) 1 8 := ⟨by kernel_rfl⟩
instance na116 : NAgg Try.prog 116 := ⟨fun _ => by kernel_rfl⟩
instance ul117 : UL Try.prog 117 (.func #[3] #[86] false) := ⟨Try.underlying117⟩
instance ti117 : TI Try.prog 117 (.nilFunc) 1 8 := ⟨by kernel_rfl⟩
instance na117 : NAgg Try.prog 117 := ⟨fun _ => by kernel_rfl⟩
instance ul118 : UL Try.prog 118 (.func #[3] #[88] false) := ⟨Try.underlying118⟩
instance ti118 : TI Try.prog 118 (.nilFunc) 1 8 := ⟨by kernel_rfl⟩
instance na118 : NAgg Try.prog 118 := ⟨fun _ => by kernel_rfl⟩
instance ul119 : UL Try.prog 119 (.func #[4] #[33] false) := ⟨Try.underlying119⟩
instance ti119 : TI Try.prog 119 (.nilFunc) 1 8 := ⟨by kernel_rfl⟩
instance na119 : NAgg Try.prog 119 := ⟨fun _ => by kernel_rfl⟩
instance ul121 : UL Try.prog 121 (.func #[31] #[78, 33] false) := ⟨Try.underlying121⟩
instance ti121 : TI Try.prog 121 (.nilFunc) 1 8 := ⟨by kernel_rfl⟩
instance na121 : NAgg Try.prog 121 := ⟨fun _ => by kernel_rfl⟩
instance ul123 : UL Try.prog 123 (.func #[31] #[78, 4] false) := ⟨Try.underlying123⟩
instance ti123 : TI Try.prog 123 (.nilFunc) 1 8 := ⟨by kernel_rfl⟩
instance na123 : NAgg Try.prog 123 := ⟨fun _ => by kernel_rfl⟩
instance ul124 : UL Try.prog 124 (.func #[] #[86] false) := ⟨Try.underlying124⟩
instance ti124 : TI Try.prog 124 (.nilFunc) 1 8 := ⟨by kernel_rfl⟩
instance na124 : NAgg Try.prog 124 := ⟨fun _ => by kernel_rfl⟩
instance ul125 : UL Try.prog 125 (.func #[] #[88] false) := ⟨Try.underlying125⟩
instance ti125 : TI Try.prog 125 (.nilFunc) 1 8 := ⟨by kernel_rfl⟩
instance na125 : NAgg Try.prog 125 := ⟨fun _ => by kernel_rfl⟩
instance ul127 : UL Try.prog 127 (.pointer 165) := ⟨Try.underlying127⟩
instance ti127 : TI Try.prog 127 (.pointer none) 1 8 := ⟨by kernel_rfl⟩
instance na127 : NAgg Try.prog 127 := ⟨fun _ => by kernel_rfl⟩
instance ti128 : TI Try.prog 128 (.agg #[.pointer none]) 1 8 := ⟨by kernel_rfl⟩
instance ia128 : IAgg Try.prog 128 1 := ⟨fun _ => ⟨by kernel_rfl, by kernel_rfl⟩⟩
instance fa128_0 : FA Try.prog 128 0 0 := ⟨fun _ _ => by kernel_rfl⟩
instance fd128_0 : FD Try.prog 128 0 0 := fd_mk (ft := 127) Try.underlying128 rfl
instance bl128 : BL Try.prog 128 [(0, 1)] [.pointer none] := bl_mk Try.underlying128 (fun _ => by kernel_rfl)
instance ti129 : TI Try.prog 129 (.agg #[.pointer none]) 1 8 := ⟨by kernel_rfl⟩
instance ia129 : IAgg Try.prog 129 1 := ⟨fun _ => ⟨by kernel_rfl, by kernel_rfl⟩⟩
instance fa129_0 : FA Try.prog 129 0 0 := ⟨fun _ _ => by kernel_rfl⟩
instance fd129_0 : FD Try.prog 129 0 0 := fd_mk (ft := 127) Try.underlying129 rfl
instance bl129 : BL Try.prog 129 [(0, 1)] [.pointer none] := bl_mk Try.underlying129 (fun _ => by kernel_rfl)
instance ul130 : UL Try.prog 130 (.func #[31] #[3, 34] false) := ⟨Try.underlying130⟩
instance ti130 : TI Try.prog 130 (.nilFunc) 1 8 := ⟨by kernel_rfl⟩
instance na130 : NAgg Try.prog 130 := ⟨fun _ => by kernel_rfl⟩
instance ul131 : UL Try.prog 131 (.func #[3, 31] #[34] false) := ⟨Try.underlying131⟩
instance ti131 : TI Try.prog 131 (.nilFunc) 1 8 := ⟨by kernel_rfl⟩
instance na131 : NAgg Try.prog 131 := ⟨fun _ => by kernel_rfl⟩
instance ti132 : TI Try.prog 132 (.agg #[.int .i64 0, .pointer none, .slice none 0 0, .map none]) 4 48 := ⟨by kernel_rfl⟩
instance ia132 : IAgg Try.prog 132 4 := ⟨fun _ => ⟨by kernel_rfl, by kernel_rfl⟩⟩
instance fa132_0 : FA Try.prog 132 0 0 := ⟨fun _ _ => by kernel_rfl⟩
instance fd132_0 : FD Try.prog 132 0 0 := fd_mk (ft := 3) Try.underlying132 rfl
instance fa132_1 : FA Try.prog 132 1 1 := ⟨fun _ _ => by kernel_rfl⟩
instance fd132_1 : FD Try.prog 132 1 1 := fd_mk (ft := 127) Try.underlying132 rfl
instance fa132_2 : FA Try.prog 132 2 2 := ⟨fun _ _ => by kernel_rfl⟩
instance fd132_2 : FD Try.prog 132 2 2 := fd_mk (ft := 23) Try.underlying132 rfl
instance fa132_3 : FA Try.prog 132 3 3 := ⟨fun _ _ => by kernel_rfl⟩
instance fd132_3 : FD Try.prog 132 3 3 := fd_mk (ft := 59) Try.underlying132 rfl
instance bl132 : BL Try.prog 132 [(0, 1), (1, 1), (2, 1), (3, 1)] [.int .i64 0, .pointer none, .slice none 0 0, .map none] := bl_mk Try.underlying132 (fun _ => by kernel_rfl)
instance ti133 : TI Try.prog 133 (.agg #[.int .i64 0, .pointer none, .slice none 0 0, .map none]) 4 48 := ⟨by kernel_rfl⟩
instance ia133 : IAgg Try.prog 133 4 := ⟨fun _ => ⟨by kernel_rfl, by kernel_rfl⟩⟩
instance fa133_0 : FA Try.prog 133 0 0 := ⟨fun _ _ => by kernel_rfl⟩
instance fd133_0 : FD Try.prog 133 0 0 := fd_mk (ft := 3) Try.underlying133 rfl
instance fa133_1 : FA Try.prog 133 1 1 := ⟨fun _ _ => by kernel_rfl⟩
instance fd133_1 : FD Try.prog 133 1 1 := fd_mk (ft := 127) Try.underlying133 rfl
instance fa133_2 : FA Try.prog 133 2 2 := ⟨fun _ _ => by kernel_rfl⟩
instance fd133_2 : FD Try.prog 133 2 2 := fd_mk (ft := 23) Try.underlying133 rfl
instance fa133_3 : FA Try.prog 133 3 3 := ⟨fun _ _ => by kernel_rfl⟩
instance fd133_3 : FD Try.prog 133 3 3 := fd_mk (ft := 59) Try.underlying133 rfl
instance bl133 : BL Try.prog 133 [(0, 1), (1, 1), (2, 1), (3, 1)] [.int .i64 0, .pointer none, .slice none 0 0, .map none] := bl_mk Try.underlying133 (fun _ => by kernel_rfl)
instance ul134 : UL Try.prog 134 (.func #[62] #[31] false) := ⟨Try.underlying134⟩
instance ti134 : TI Try.prog 134 (.nilFunc) 1 8 := ⟨by kernel_rfl⟩
instance na134 : NAgg Try.prog 134 := ⟨fun _ => by kernel_rfl⟩
instance ul136 : UL Try.prog 136 (.func #[31] #[31, 4, 34] false) := ⟨Try.underlying136⟩
instance ti136 : TI Try.prog 136 (.nilFunc) 1 8 := ⟨by kernel_rfl⟩
instance na136 : NAgg Try.prog 136 := ⟨fun _ => by kernel_rfl⟩
instance ul137 : UL Try.prog 137 (.pointer 61) := ⟨Try.underlying137⟩
instance ti137 : TI Try.prog 137 (.pointer none) 1 8 := ⟨by kernel_rfl⟩
instance na137 : NAgg Try.prog 137 := ⟨fun _ => by kernel_rfl⟩
instance ul138 : UL Try.prog 138 (.func #[37] #[] false) := ⟨Try.underlying138⟩
instance ti138 : TI Try.prog 138 (.nilFunc) 1 8 := ⟨by kernel_rfl⟩
instance na138 : NAgg Try.prog 138 := ⟨fun _ => by kernel_rfl⟩
instance ul139 : UL Try.prog 139 (.func #[37] #[] false) := ⟨Try.underlying139⟩
instance ti139 : TI Try.prog 139 (.nilFunc) 1 8 := ⟨by kernel_rfl⟩
instance na139 : NAgg Try.prog 139 := ⟨fun _ => by kernel_rfl⟩
instance ul140 : UL Try.prog 140 (.func #[] #[139] false) := ⟨Try.underlying140⟩
instance ti140 : TI Try.prog 140 (.nilFunc) 1 8 := ⟨by kernel_rfl⟩
instance na140 : NAgg Try.prog 140 := ⟨fun _ => by kernel_rfl⟩
instance ul141 : UL Try.prog 141 (.func #[23] #[] false) := ⟨Try.underlying141⟩
instance ti141 : TI Try.prog 141 (.nilFunc) 1 8 := ⟨by kernel_rfl⟩
instance na141 : NAgg Try.prog 141 := ⟨fun _ => by kernel_rfl⟩
instance ul142 : UL Try.prog 142 (.func #[3] #[139] false) := ⟨Try.underlying142⟩
instance ti142 : TI Try.prog 142 (.nilFunc) 1 8 := ⟨by kernel_rfl⟩
instance na142 : NAgg Try.prog 142 := ⟨fun _ => by kernel_rfl⟩
instance ul144 : UL Try.prog 144 (.func #[3, 3] #[127, 34] false) := ⟨Try.underlying144⟩
instance ti144 : TI Try.prog 144 (.nilFunc) 1 8 := ⟨by kernel_rfl⟩
instance na144 : NAgg Try.prog 144 := ⟨fun _ => by kernel_rfl⟩
instance ul145 : UL Try.prog 145 (.func #[23, 31] #[4] false) := ⟨Try.underlying145⟩
instance ti145 : TI Try.prog 145 (.nilFunc) 1 8 := ⟨by kernel_rfl⟩
instance na145 : NAgg Try.prog 145 := ⟨fun _ => by kernel_rfl⟩
instance ul146 : UL Try.prog 146 (.func #[23, 31] #[23] false) := ⟨Try.underlying146⟩
instance ti146 : TI Try.prog 146 (.nilFunc) 1 8 := ⟨by kernel_rfl⟩
instance na146 : NAgg Try.prog 146 := ⟨fun _ => by kernel_rfl⟩
instance ul148 : UL Try.prog 148 (.func #[31] #[25, 4] false) := ⟨Try.underlying148⟩
instance ti148 : TI Try.prog 148 (.nilFunc) 1 8 := ⟨by kernel_rfl⟩
instance na148 : NAgg Try.prog 148 := ⟨fun _ => by kernel_rfl⟩
instance ul149 : UL Try.prog 149 (.func #[] #[27, 33] false) := ⟨Try.underlying149⟩
instance ti149 : TI Try.prog 149 (.nilFunc) 1 8 := ⟨by kernel_rfl⟩
instance na149 : NAgg Try.prog 149 := ⟨fun _ => by kernel_rfl⟩
instance ul150 : UL Try.prog 150 (.func #[59] #[59] false) := ⟨Try.underlying150⟩
instance ti150 : TI Try.prog 150 (.nilFunc) 1 8 := ⟨by kernel_rfl⟩
instance na150 : NAgg Try.prog 150 := ⟨fun _ => by kernel_rfl⟩
instance ul151 : UL Try.prog 151 (.func #[23] #[23] false) := ⟨Try.underlying151⟩
instance ti151 : TI Try.prog 151 (.nilFunc) 1 8 := ⟨by kernel_rfl⟩
instance na151 : NAgg Try.prog 151 := ⟨fun _ => by kernel_rfl⟩
instance ul152 : UL Try.prog 152 (.func #[] #[127] false) := ⟨Try.underlying152⟩
instance ti152 : TI Try.prog 152 (.nilFunc) 1 8 := ⟨by kernel_rfl⟩
instance na152 : NAgg Try.prog 152 := ⟨fun _ => by kernel_rfl⟩
instance ul153 : UL Try.prog 153 (.func #[88] #[31] false) := ⟨Try.underlying153⟩
instance ti153 : TI Try.prog 153 (.nilFunc) 1 8 := ⟨by kernel_rfl⟩
instance na153 : NAgg Try.prog 153 := ⟨fun _ => by kernel_rfl⟩
instance ul155 : UL Try.prog 155 (.func #[] #[31, 34] false) := ⟨Try.underlying155⟩
instance ti155 : TI Try.prog 155 (.nilFunc) 1 8 := ⟨by kernel_rfl⟩
instance na155 : NAgg Try.prog 155 := ⟨fun _ => by kernel_rfl⟩
instance ul156 : UL Try.prog 156 (.pointer 86) := ⟨Try.underlying156⟩
instance ti156 : TI Try.prog 156 (.pointer none) 1 8 := ⟨by kernel_rfl⟩
instance na156 : NAgg Try.prog 156 := ⟨fun _ => by kernel_rfl⟩
instance ul157 : UL Try.prog 157 (.func #[4] #[78, 33] false) := ⟨Try.underlying157⟩
instance ti157 : TI Try.prog 157 (.nilFunc) 1 8 := ⟨by kernel_rfl⟩
instance na157 : NAgg Try.prog 157 := ⟨fun _ => by kernel_rfl⟩
instance ul159 : UL Try.prog 159 (.func #[23] #[23, 31] false) := ⟨Try.underlying159⟩
instance ti159 : TI Try.prog 159 (.nilFunc) 1 8 := ⟨by kernel_rfl⟩
instance na159 : NAgg Try.prog 159 := ⟨fun _ => by kernel_rfl⟩
instance ti160 : TI Try.prog 160 (.agg #[.int .u32 0, .int .u32 0, .int .u32 0]) 3 12 := ⟨by kernel_rfl⟩
instance ia160 : IAgg Try.prog 160 3 := ⟨fun _ => ⟨by kernel_rfl, by kernel_rfl⟩⟩
instance fa160_0 : FA Try.prog 160 0 0 := ⟨fun _ _ => by kernel_rfl⟩
instance fd160_0 : FD Try.prog 160 0 0 := fd_mk (ft := 31) Try.underlying160 rfl
instance fa160_1 : FA Try.prog 160 1 1 := ⟨fun _ _ => by kernel_rfl⟩
instance fd160_1 : FD Try.prog 160 1 1 := fd_mk (ft := 31) Try.underlying160 rfl
instance fa160_2 : FA Try.prog 160 2 2 := ⟨fun _ _ => by kernel_rfl⟩
instance fd160_2 : FD Try.prog 160 2 2 := fd_mk (ft := 31) Try.underlying160 rfl
instance bl160 : BL Try.prog 160 [(0, 1), (1, 1), (2, 1)] [.int .u32 0, .int .u32 0, .int .u32 0] := bl_mk Try.underlying160 (fun _ => by kernel_rfl)
instance ti161 : TI Try.prog 161 (.agg #[.int .u32 0, .int .u32 0, .int .u32 0]) 3 12 := ⟨by kernel_rfl⟩
instance ia161 : IAgg Try.prog 161 3 := ⟨fun _ => ⟨by kernel_rfl, by kernel_rfl⟩⟩
instance fa161_0 : FA Try.prog 161 0 0 := ⟨fun _ _ => by kernel_rfl⟩
instance fd161_0 : FD Try.prog 161 0 0 := fd_mk (ft := 31) Try.underlying161 rfl
instance fa161_1 : FA Try.prog 161 1 1 := ⟨fun _ _ => by kernel_rfl⟩
instance fd161_1 : FD Try.prog 161 1 1 := fd_mk (ft := 31) Try.underlying161 rfl
instance fa161_2 : FA Try.prog 161 2 2 := ⟨fun _ _ => by kernel_rfl⟩
instance fd161_2 : FD Try.prog 161 2 2 := fd_mk (ft := 31) Try.underlying161 rfl
instance bl161 : BL Try.prog 161 [(0, 1), (1, 1), (2, 1)] [.int .u32 0, .int .u32 0, .int .u32 0] := bl_mk Try.underlying161 (fun _ => by kernel_rfl)
instance ul162 : UL Try.prog 162 (.slice 161) := ⟨Try.underlying162⟩
instance ti162 : TI Try.prog 162 (.slice none 0 0) 1 24 := ⟨by kernel_rfl⟩
instance na162 : NAgg Try.prog 162 := ⟨fun _ => by kernel_rfl⟩
instance ul163 : UL Try.prog 163 (.slice 3) := ⟨Try.underlying163⟩
instance ti163 : TI Try.prog 163 (.slice none 0 0) 1 24 := ⟨by kernel_rfl⟩
instance na163 : NAgg Try.prog 163 := ⟨fun _ => by kernel_rfl⟩
instance ti164 : TI Try.prog 164 (.agg #[.slice none 0 0, .int .i64 0, .slice none 0 0]) 3 56 := ⟨by kernel_rfl⟩
instance ia164 : IAgg Try.prog 164 3 := ⟨fun _ => ⟨by kernel_rfl, by kernel_rfl⟩⟩
instance fa164_0 : FA Try.prog 164 0 0 := ⟨fun _ _ => by kernel_rfl⟩
instance fd164_0 : FD Try.prog 164 0 0 := fd_mk (ft := 162) Try.underlying164 rfl
instance fa164_1 : FA Try.prog 164 1 1 := ⟨fun _ _ => by kernel_rfl⟩
instance fd164_1 : FD Try.prog 164 1 1 := fd_mk (ft := 3) Try.underlying164 rfl
instance fa164_2 : FA Try.prog 164 2 2 := ⟨fun _ _ => by kernel_rfl⟩
instance fd164_2 : FD Try.prog 164 2 2 := fd_mk (ft := 163) Try.underlying164 rfl
instance bl164 : BL Try.prog 164 [(0, 1), (1, 1), (2, 1)] [.slice none 0 0, .int .i64 0, .slice none 0 0] := bl_mk Try.underlying164 (fun _ => by kernel_rfl)
instance ti165 : TI Try.prog 165 (.agg #[.slice none 0 0, .int .i64 0, .slice none 0 0]) 3 56 := ⟨by kernel_rfl⟩
instance ia165 : IAgg Try.prog 165 3 := ⟨fun _ => ⟨by kernel_rfl, by kernel_rfl⟩⟩
instance fa165_0 : FA Try.prog 165 0 0 := ⟨fun _ _ => by kernel_rfl⟩
instance fd165_0 : FD Try.prog 165 0 0 := fd_mk (ft := 162) Try.underlying165 rfl
instance fa165_1 : FA Try.prog 165 1 1 := ⟨fun _ _ => by kernel_rfl⟩
instance fd165_1 : FD Try.prog 165 1 1 := fd_mk (ft := 3) Try.underlying165 rfl
instance fa165_2 : FA Try.prog 165 2 2 := ⟨fun _ _ => by kernel_rfl⟩
instance fd165_2 : FD Try.prog 165 2 2 := fd_mk (ft := 163) Try.underlying165 rfl
instance bl165 : BL Try.prog 165 [(0, 1), (1, 1), (2, 1)] [.slice none 0 0, .int .i64 0, .slice none 0 0] := bl_mk Try.underlying165 (fun _ => by kernel_rfl)
instance ul166 : UL Try.prog 166 (.func #[3, 31, 4] #[34] false) := ⟨Try.underlying166⟩
instance ti166 : TI Try.prog 166 (.nilFunc) 1 8 := ⟨by kernel_rfl⟩
instance na166 : NAgg Try.prog 166 := ⟨fun _ => by kernel_rfl⟩
instance ul167 : UL Try.prog 167 (.func #[3] #[3] false) := ⟨Try.underlying167⟩
instance ti167 : TI Try.prog 167 (.nilFunc) 1 8 := ⟨by kernel_rfl⟩
instance na167 : NAgg Try.prog 167 := ⟨fun _ => by kernel_rfl⟩
instance ul168 : UL Try.prog 168 (.func #[3] #[31, 34] false) := ⟨Try.underlying168⟩
instance ti168 : TI Try.prog 168 (.nilFunc) 1 8 := ⟨by kernel_rfl⟩
instance na168 : NAgg Try.prog 168 := ⟨fun _ => by kernel_rfl⟩
instance ul169 : UL Try.prog 169 (.func #[23, 3] #[34] false) := ⟨Try.underlying169⟩
instance ti169 : TI Try.prog 169 (.nilFunc) 1 8 := ⟨by kernel_rfl⟩
instance na169 : NAgg Try.prog 169 := ⟨fun _ => by kernel_rfl⟩
instance ul170 : UL Try.prog 170 (.func #[3] #[23] false) := ⟨Try.underlying170⟩
instance ti170 : TI Try.prog 170 (.nilFunc) 1 8 := ⟨by kernel_rfl⟩
instance na170 : NAgg Try.prog 170 := ⟨fun _ => by kernel_rfl⟩
instance ul171 : UL Try.prog 171 (.int .i64) := ⟨Try.underlying171⟩
instance ti171 : TI Try.prog 171 (.int .i64 0) 1 8 := ⟨by kernel_rfl⟩
instance na171 : NAgg Try.prog 171 := ⟨fun _ => by kernel_rfl⟩
instance ul172 : UL Try.prog 172 (.func #[127] #[31] false) := ⟨Try.underlying172⟩
instance ti172 : TI Try.prog 172 (.nilFunc) 1 8 := ⟨by kernel_rfl⟩
instance na172 : NAgg Try.prog 172 := ⟨fun _ => by kernel_rfl⟩
instance ul174 : UL Try.prog 174 (.func #[31] #[25, 31, 4] false) := ⟨Try.underlying174⟩
instance ti174 : TI Try.prog 174 (.nilFunc) 1 8 := ⟨by kernel_rfl⟩
instance na174 : NAgg Try.prog 174 := ⟨fun _ => by kernel_rfl⟩
instance ul175 : UL Try.prog 175 (.func #[20] #[20] false) := ⟨Try.underlying175⟩
instance ti175 : TI Try.prog 175 (.nilFunc) 1 8 := ⟨by kernel_rfl⟩
instance na175 : NAgg Try.prog 175 := ⟨fun _ => by kernel_rfl⟩
instance ul176 : UL Try.prog 176 (.func #[3] #[34] false) := ⟨Try.underlying176⟩
instance ti176 : TI Try.prog 176 (.nilFunc) 1 8 := ⟨by kernel_rfl⟩
instance na176 : NAgg Try.prog 176 := ⟨fun _ => by kernel_rfl⟩
instance ul177 : UL Try.prog 177 (.func #[31, 31] #[] false) := ⟨Try.underlying177⟩
instance ti177 : TI Try.prog 177 (.nilFunc) 1 8 := ⟨by kernel_rfl⟩
instance na177 : NAgg Try.prog 177 := ⟨fun _ => by kernel_rfl⟩
instance ul178 : UL Try.prog 178 (.func #[179] #[31, 34] false) := ⟨Try.underlying178⟩
instance ti178 : TI Try.prog 178 (.nilFunc) 1 8 := ⟨by kernel_rfl⟩
instance na178 : NAgg Try.prog 178 := ⟨fun _ => by kernel_rfl⟩
instance ul179 : UL Try.prog 179 (.func #[127, 3] #[31, 34] false) := ⟨Try.underlying179⟩
instance ti179 : TI Try.prog 179 (.nilFunc) 1 8 := ⟨by kernel_rfl⟩
instance na179 : NAgg Try.prog 179 := ⟨fun _ => by kernel_rfl⟩
instance ul180 : UL Try.prog 180 (.func #[31] #[31, 34] false) := ⟨Try.underlying180⟩
instance ti180 : TI Try.prog 180 (.nilFunc) 1 8 := ⟨by kernel_rfl⟩
instance na180 : NAgg Try.prog 180 := ⟨fun _ => by kernel_rfl⟩
instance ul181 : UL Try.prog 181 (.func #[] #[9] false) := ⟨Try.underlying181⟩
instance ti181 : TI Try.prog 181 (.nilFunc) 1 8 := ⟨by kernel_rfl⟩
instance na181 : NAgg Try.prog 181 := ⟨fun _ => by kernel_rfl⟩
instance ul184 : UL Try.prog 184 (.array 0 16) := ⟨Try.underlying184⟩
instance ti184 : TI Try.prog 184 (.agg #[]) 0 0 := ⟨by kernel_rfl⟩
instance ia184 : IAgg Try.prog 184 0 := ⟨fun _ => ⟨by kernel_rfl, by kernel_rfl⟩⟩
instance ul189 : UL Try.prog 189 (.func #[195, 195] #[4] false) := ⟨Try.underlying189⟩
instance ti189 : TI Try.prog 189 (.nilFunc) 1 8 := ⟨by kernel_rfl⟩
instance na189 : NAgg Try.prog 189 := ⟨fun _ => by kernel_rfl⟩
instance ul190 : UL Try.prog 190 (.pointer 5) := ⟨Try.underlying190⟩
instance ti190 : TI Try.prog 190 (.pointer none) 1 8 := ⟨by kernel_rfl⟩
instance na190 : NAgg Try.prog 190 := ⟨fun _ => by kernel_rfl⟩
instance ti195 : TI Try.prog 195 (.pointer none) 1 8 := ⟨by kernel_rfl⟩
instance na195 : NAgg Try.prog 195 := ⟨fun _ => by kernel_rfl⟩
instance cf3 : CF Try.prog 3 := ⟨fun _ _ => by kernel_rfl⟩
instance cf4 : CF Try.prog 4 := ⟨fun _ _ => by kernel_rfl⟩
instance cf5 : CF Try.prog 5 := ⟨fun _ _ => by kernel_rfl⟩
instance cf6 : CF Try.prog 6 := ⟨fun _ _ => by kernel_rfl⟩
instance cf7 : CF Try.prog 7 := ⟨fun _ _ => by kernel_rfl⟩
instance cf8 : CF Try.prog 8 := ⟨fun _ _ => by kernel_rfl⟩
instance cf9 : CF Try.prog 9 := ⟨fun _ _ => by kernel_rfl⟩
instance cf10 : CF Try.prog 10 := ⟨fun _ _ => by kernel_rfl⟩
instance cf11 : CF Try.prog 11 := ⟨fun _ _ => by kernel_rfl⟩
instance cf12 : CF Try.prog 12 := ⟨fun _ _ => by kernel_rfl⟩
instance cf13 : CF Try.prog 13 := ⟨fun _ _ => by kernel_rfl⟩
instance cf14 : CF Try.prog 14 := ⟨fun _ _ => by kernel_rfl⟩
instance cf15 : CF Try.prog 15 := ⟨fun _ _ => by kernel_rfl⟩
instance cf16 : CF Try.prog 16 := ⟨fun _ _ => by kernel_rfl⟩
instance cf17 : CF Try.prog 17 := ⟨fun _ _ => by kernel_rfl⟩
instance cf18 : CF Try.prog 18 := ⟨fun _ _ => by kernel_rfl⟩
instance cf19 : CF Try.prog 19 := ⟨fun _ _ => by kernel_rfl⟩
instance cf20 : CF Try.prog 20 := ⟨fun _ _ => by kernel_rfl⟩
instance cf21 : CF Try.prog 21 := ⟨fun _ _ => by kernel_rfl⟩
instance cf22 : CF Try.prog 22 := ⟨fun _ _ => by kernel_rfl⟩
instance cf23 : CF Try.prog 23 := ⟨fun _ _ => by kernel_rfl⟩
instance cf24 : CF Try.prog 24 := ⟨fun _ _ => by kernel_rfl⟩
instance cf25 : CF Try.prog 25 := ⟨fun _ _ => by kernel_rfl⟩
instance cf26 : CF Try.prog 26 := ⟨fun _ _ => by kernel_rfl⟩
instance cf27 : CF Try.prog 27 := ⟨fun _ _ => by kernel_rfl⟩
instance cf28 : CF Try.prog 28 := ⟨fun _ _ => by kernel_rfl⟩
instance cf29 : CF Try.prog 29 := ⟨fun _ _ => by kernel_rfl⟩
instance cf30 : CF Try.prog 30 := ⟨fun _ _ => by kernel_rfl⟩
instance cf31 : CF Try.prog 31 := ⟨fun _ _ => by kernel_rfl⟩
instance cf32 : CF Try.prog 32 := ⟨fun _ _ => by kernel_rfl⟩
instance cf33 : CF Try.prog 33 := ⟨fun _ _ => by kernel_rfl⟩
instance cf34 : CF Try.prog 34 := ⟨fun _ _ => by kernel_rfl⟩
instance cf35 : CF Try.prog 35 := ⟨fun _ _ => by kernel_rfl⟩
instance cf36 : CF Try.prog 36 := ⟨fun _ _ => by kernel_rfl⟩
instance cf37 : CF Try.prog 37 := ⟨fun _ _ => by kernel_rfl⟩
instance cf38 : CF Try.prog 38 := ⟨fun _ _ => by kernel_rfl⟩
instance cf39 : CF Try.prog 39 := ⟨fun _ _ => by kernel_rfl⟩
instance cf40 : CF Try.prog 40 := ⟨fun _ _ => by kernel_rfl⟩
instance cf41 : CF Try.prog 41 := ⟨fun _ _ => by kernel_rfl⟩
instance cf42 : CF Try.prog 42 := ⟨fun _ _ => by kernel_rfl⟩
instance cf43 : CF Try.prog 43 := ⟨fun _ _ => by kernel_rfl⟩
instance cf44 : CF Try.prog 44 := ⟨fun _ _ => by kernel_rfl⟩
instance cf45 : CF Try.prog 45 := ⟨fun _ _ => by kernel_rfl⟩
instance cf46 : CF Try.prog 46 := ⟨fun _ _ => by kernel_rfl⟩
instance cf47 : CF Try.prog 47 := ⟨fun _ _ => by kernel_rfl⟩
instance cf48 : CF Try.prog 48 := ⟨fun _ _ => by kernel_rfl⟩
instance cf49 : CF Try.prog 49 := ⟨fun _ _ => by kernel_rfl⟩
instance cf50 : CF Try.prog 50 := ⟨fun _ _ => by kernel_rfl⟩
instance cf51 : CF Try.prog 51 := ⟨fun _ _ => by kernel_rfl⟩
instance cf52 : CF Try.prog 52 := ⟨fun _ _ => by kernel_rfl⟩
instance cf53 : CF Try.prog 53 := ⟨fun _ _ => by kernel_rfl⟩
instance cf54 : CF Try.prog 54 := ⟨fun _ _ => by kernel_rfl⟩
instance cf55 : CF Try.prog 55 := ⟨fun _ _ => by kernel_rfl⟩
instance cf56 : CF Try.prog 56 := ⟨fun _ _ => by kernel_rfl⟩
instance cf57 : CF Try.prog 57 := ⟨fun _ _ => by kernel_rfl⟩
instance cf58 : CF Try.prog 58 := ⟨fun _ _ => by kernel_rfl⟩
instance cf59 : CF Try.prog 59 := ⟨fun _ _ => by kernel_rfl⟩
instance cf60 : CF Try.prog 60 := ⟨fun _ _ => by kernel_rfl⟩
instance cf61 : CF Try.prog 61 := ⟨fun _ _ => by kernel_rfl⟩
instance cf62 : CF Try.prog 62 := ⟨fun _ _ => by kernel_rfl⟩
instance cf63 : CF Try.prog 63 := ⟨fun _ _ => by kernel_rfl⟩
instance cf64 : CF Try.prog 64 := ⟨fun _ _ => by kernel_rfl⟩
instance cf65 : CF Try.prog 65 := ⟨fun _ _ => by kernel_rfl⟩
instance cf66 : CF Try.prog 66 := ⟨fun _ _ => by kernel_rfl⟩
instance cf67 : CF Try.prog 67 := ⟨fun _ _ => by kernel_rfl⟩
instance cf68 : CF Try.prog 68 := ⟨fun _ _ => by kernel_rfl⟩
instance cf69 : CF Try.prog 69 := ⟨fun _ _ => by kernel_rfl⟩
instance cf70 : CF Try.prog 70 := ⟨fun _ _ => by kernel_rfl⟩
instance cf71 : CF Try.prog 71 := ⟨fun _ _ => by kernel_rfl⟩
instance cf72 : CF Try.prog 72 := ⟨fun _ _ => by kernel_rfl⟩
instance cf73 : CF Try.prog 73 := ⟨fun _ _ => by kernel_rfl⟩
instance cf74 : CF Try.prog 74 := ⟨fun _ _ => by kernel_rfl⟩
instance cf75 : CF Try.prog 75 := ⟨fun _ _ => by kernel_rfl⟩
instance cf76 : CF Try.prog 76 := ⟨fun _ _ => by kernel_rfl⟩
instance cf77 : CF Try.prog 77 := ⟨fun _ _ => by kernel_rfl⟩
instance cf78 : CF Try.prog 78 := ⟨fun _ _ => by kernel_rfl⟩
instance cf79 : CF Try.prog 79 := ⟨fun _ _ => by kernel_rfl⟩
instance cf80 : CF Try.prog 80 := ⟨fun _ _ => by kernel_rfl⟩
instance cf81 : CF Try.prog 81 := ⟨fun _ _ => by kernel_rfl⟩
instance cf82 : CF Try.prog 82 := ⟨fun _ _ => by kernel_rfl⟩
instance cf83 : CF Try.prog 83 := ⟨fun _ _ => by kernel_rfl⟩
instance cf84 : CF Try.prog 84 := ⟨fun _ _ => by kernel_rfl⟩
instance cf85 : CF Try.prog 85 := ⟨fun _ _ => by kernel_rfl⟩
instance cf86 : CF Try.prog 86 := ⟨fun _ _ => by kernel_rfl⟩
instance cf87 : CF Try.prog 87 := ⟨fun _ _ => by kernel_rfl⟩
instance cf88 : CF Try.prog 88 := ⟨fun _ _ => by kernel_rfl⟩
instance cf89 : CF Try.prog 89 := ⟨fun _ _ => by kernel_rfl⟩
instance cf90 : CF Try.prog 90 := ⟨fun _ _ => by kernel_rfl⟩
instance cf91 : CF Try.prog 91 := ⟨fun _ _ => by kernel_rfl⟩
instance cf92 : CF Try.prog 92 := ⟨fun _ _ => by kernel_rfl⟩
instance cf93 : CF Try.prog 93 := ⟨fun _ _ => by kernel_rfl⟩
instance cf94 : CF Try.prog 94 := ⟨fun _ _ => by kernel_rfl⟩
instance cf95 : CF Try.prog 95 := ⟨fun _ _ => by kernel_rfl⟩
instance cf96 : CF Try.prog 96 := ⟨fun _ _ => by kernel_rfl⟩
instance cf97 : CF Try.prog 97 := ⟨fun _ _ => by kernel_rfl⟩
instance cf98 : CF Try.prog 98 := ⟨fun _ _ => by kernel_rfl⟩
instance cf99 : CF Try.prog 99 := ⟨fun _ _ => by kernel_rfl⟩
instance cf100 : CF Try.prog 100 := ⟨fun _ _ => by kernel_rfl⟩
instance cf101 : CF Try.prog 101 := ⟨fun _ _ => by kernel_rfl⟩
instance cf102 : CF Try.prog 102 := ⟨fun _ _ => by kernel_rfl⟩
instance cf103 : CF Try.prog 103 := ⟨fun _ _ => by kernel_rfl⟩
instance cf104 : CF Try.prog 104 := ⟨fun _ _ => by kernel_rfl⟩
instance cf105 : CF Try.prog 105 := ⟨fun _ _ => by kernel_rfl⟩
instance cf106 : CF Try.prog 106 := ⟨fun _ _ => by kernel_rfl⟩
instance cf107 : CF Try.prog 107 := ⟨fun _ _ => by kernel_rfl⟩
instance cf108 : CF Try.prog 108 := ⟨fun _ _ => by kernel_rfl⟩
instance cf109 : CF Try.prog 109 := ⟨fun _ _ => by kernel_rfl⟩
instance cf110 : CF Try.prog 110 := ⟨fun _ _ => by kernel_rfl⟩
instance cf111 : CF Try.prog 111 := ⟨fun _ _ => by kernel_rfl⟩
instance cf112 : CF Try.prog 112 := ⟨fun _ _ => by kernel_rfl⟩
instance cf113 : CF Try.prog 113 := ⟨fun _ _ => by kernel_rfl⟩
instance cf114 : CF Try.prog 114 := ⟨fun _ _ => by kernel_rfl⟩
instance cf115 : CF Try.prog 115 := ⟨fun _ _ => by kernel_rfl⟩
instance cf116 : CF Try.prog 116 := ⟨fun _ _ => by kernel_rfl⟩
instance cf117 : CF Try.prog 117 := ⟨fun _ _ => by kernel_rfl⟩
instance cf119 : CF Try.prog 119 := ⟨fun _ _ => by kernel_rfl⟩
instance cf120 : CF Try.prog 120 := ⟨fun _ _ => by kernel_rfl⟩
instance cf121 : CF Try.prog 121 := ⟨fun _ _ => by kernel_rfl⟩
instance cf122 : CF Try.prog 122 := ⟨fun _ _ => by kernel_rfl⟩
instance cf124 : CF Try.prog 124 := ⟨fun _ _ => by kernel_rfl⟩
instance cf125 : CF Try.prog 125 := ⟨fun _ _ => by kernel_rfl⟩
instance cf126 : CF Try.prog 126 := ⟨fun _ _ => by kernel_rfl⟩
instance cf127 : CF Try.prog 127 := ⟨fun _ _ => by kernel_rfl⟩
instance cf128 : CF Try.prog 128 := ⟨fun _ _ => by kernel_rfl⟩
instance cf129 : CF Try.prog 129 := ⟨fun _ _ => by kernel_rfl⟩
instance cf130 : CF Try.prog 130 := ⟨fun _ _ => by kernel_rfl⟩
instance ex123 : EX Try.prog 123 Extern.MapsClone.clone := ⟨fun args w => run_callFunc_extern Try.func123 (by kernel_rfl) (by kernel_rfl) (by kernel_rfl) (by kernel_rfl) args w⟩
instance mz3 : MZ Try.prog 3 (fun z : Int => .int .i64 z) 0 := ⟨fun w => by have h := (mz_of (P := Try.prog) (e := 3) (V := fun v : Value => v)).out w; exact h⟩
instance mz4 : MZ Try.prog 4 (fun b : Bool => .bool b) false := ⟨fun w => by have h := (mz_of (P := Try.prog) (e := 4) (V := fun v : Value => v)).out w; exact h⟩
instance mz31 : MZ Try.prog 31 (fun n : Nat => .int .u32 (n : Nat)) 0 := ⟨fun w => by have h := (mz_of (P := Try.prog) (e := 31) (V := fun v : Value => v)).out w; exact h⟩
end Go.Proofs.Ytcgdkcdlglbigaa
