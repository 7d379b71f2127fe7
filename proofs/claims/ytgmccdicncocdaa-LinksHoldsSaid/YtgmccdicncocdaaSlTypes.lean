/- What the program says of its types and functions. -/
import Derived.Test.YtgmccdicncocdaaSlOps5
import Derived.Test.YtgmccdicncocdaaRows
namespace Go.Proofs.Ytgmccdicncocdaa
open Go.Sl
instance ul1 : UL Try.prog 1 (.func #[] #[] false) := ⟨Try.underlying1⟩
instance ti1 : TI Try.prog 1 (.nilFunc) 1 8 := ⟨by kernel_rfl⟩
instance na1 : NAgg Try.prog 1 := ⟨fun _ => by kernel_rfl⟩
instance ul2 : UL Try.prog 2 (.int .i64) := ⟨Try.underlying2⟩
instance ti2 : TI Try.prog 2 (.int .i64 0) 1 8 := ⟨by kernel_rfl⟩
instance na2 : NAgg Try.prog 2 := ⟨fun _ => by kernel_rfl⟩
instance ul3 : UL Try.prog 3 (.int .i64) := ⟨Try.underlying3⟩
instance ti3 : TI Try.prog 3 (.int .i64 0) 1 8 := ⟨by kernel_rfl⟩
instance na3 : NAgg Try.prog 3 := ⟨fun _ => by kernel_rfl⟩
instance ul4 : UL Try.prog 4 (.bool) := ⟨Try.underlying4⟩
instance ti4 : TI Try.prog 4 (.bool false) 1 1 := ⟨by kernel_rfl⟩
instance na4 : NAgg Try.prog 4 := ⟨fun _ => by kernel_rfl⟩
instance ul5 : UL Try.prog 5 (.int .u8) := ⟨Try.underlying5⟩
instance ti5 : TI Try.prog 5 (.int .u8 0) 1 1 := ⟨by kernel_rfl⟩
instance na5 : NAgg Try.prog 5 := ⟨fun _ => by kernel_rfl⟩
instance ul9 : UL Try.prog 9 (.string) := ⟨Try.underlying9⟩
instance ti9 : TI Try.prog 9 (.string ByteArray.empty) 1 16 := ⟨by kernel_rfl⟩
instance na9 : NAgg Try.prog 9 := ⟨fun _ => by kernel_rfl⟩
instance ul12 : UL Try.prog 12 (.int .u64) := ⟨Try.underlying12⟩
instance ti12 : TI Try.prog 12 (.int .u64 0) 1 8 := ⟨by kernel_rfl⟩
instance na12 : NAgg Try.prog 12 := ⟨fun _ => by kernel_rfl⟩
instance ti20 : TI Try.prog 20 (.nilIface) 1 16 := ⟨by kernel_rfl⟩
instance na20 : NAgg Try.prog 20 := ⟨fun _ => by kernel_rfl⟩
instance ul21 : UL Try.prog 21 (.int .i32) := ⟨Try.underlying21⟩
instance ti21 : TI Try.prog 21 (.int .i32 0) 1 4 := ⟨by kernel_rfl⟩
instance na21 : NAgg Try.prog 21 := ⟨fun _ => by kernel_rfl⟩
instance ul22 : UL Try.prog 22 (.slice 35) := ⟨Try.underlying22⟩
instance ti22 : TI Try.prog 22 (.slice none 0 0) 1 24 := ⟨by kernel_rfl⟩
instance na22 : NAgg Try.prog 22 := ⟨fun _ => by kernel_rfl⟩
instance ul23 : UL Try.prog 23 (.func #[] #[4] false) := ⟨Try.underlying23⟩
instance ti23 : TI Try.prog 23 (.nilFunc) 1 8 := ⟨by kernel_rfl⟩
instance na23 : NAgg Try.prog 23 := ⟨fun _ => by kernel_rfl⟩
instance ul24 : UL Try.prog 24 (.pointer 69) := ⟨Try.underlying24⟩
instance ti24 : TI Try.prog 24 (.pointer none) 1 8 := ⟨by kernel_rfl⟩
instance na24 : NAgg Try.prog 24 := ⟨fun _ => by kernel_rfl⟩
instance ul25 : UL Try.prog 25 (.int .i64) := ⟨Try.underlying25⟩
instance ti25 : TI Try.prog 25 (.int .i64 0) 1 8 := ⟨by kernel_rfl⟩
instance na25 : NAgg Try.prog 25 := ⟨fun _ => by kernel_rfl⟩
instance ul27 : UL Try.prog 27 (.func #[3, 3] #[24, 25] false) := ⟨Try.underlying27⟩
instance ti27 : TI Try.prog 27 (.nilFunc) 1 8 := ⟨by kernel_rfl⟩
instance na27 : NAgg Try.prog 27 := ⟨fun _ => by kernel_rfl⟩
instance ul28 : UL Try.prog 28 (.slice 22) := ⟨Try.underlying28⟩
instance ti28 : TI Try.prog 28 (.slice none 0 0) 1 24 := ⟨by kernel_rfl⟩
instance na28 : NAgg Try.prog 28 := ⟨fun _ => by kernel_rfl⟩
instance ti29 : TI Try.prog 29 (.agg #[.int .i64 0, .slice none 0 0]) 2 32 := ⟨by kernel_rfl⟩
instance ia29 : IAgg Try.prog 29 2 := ⟨fun _ => ⟨by kernel_rfl, by kernel_rfl⟩⟩
instance fa29_0 : FA Try.prog 29 0 0 := ⟨fun _ _ => by kernel_rfl⟩
instance fd29_0 : FD Try.prog 29 0 0 := fd_mk (ft := 3) Try.underlying29 rfl
instance fa29_1 : FA Try.prog 29 1 1 := ⟨fun _ _ => by kernel_rfl⟩
instance fd29_1 : FD Try.prog 29 1 1 := fd_mk (ft := 28) Try.underlying29 rfl
instance bl29 : BL Try.prog 29 [(0, 1), (1, 1)] [.int .i64 0, .slice none 0 0] := bl_mk Try.underlying29 (fun _ => by kernel_rfl)
instance ti30 : TI Try.prog 30 (.agg #[.int .i64 0, .slice none 0 0]) 2 32 := ⟨by kernel_rfl⟩
instance ia30 : IAgg Try.prog 30 2 := ⟨fun _ => ⟨by kernel_rfl, by kernel_rfl⟩⟩
instance fa30_0 : FA Try.prog 30 0 0 := ⟨fun _ _ => by kernel_rfl⟩
instance fd30_0 : FD Try.prog 30 0 0 := fd_mk (ft := 3) Try.underlying30 rfl
instance fa30_1 : FA Try.prog 30 1 1 := ⟨fun _ _ => by kernel_rfl⟩
instance fd30_1 : FD Try.prog 30 1 1 := fd_mk (ft := 28) Try.underlying30 rfl
instance bl30 : BL Try.prog 30 [(0, 1), (1, 1)] [.int .i64 0, .slice none 0 0] := bl_mk Try.underlying30 (fun _ => by kernel_rfl)
instance ul32 : UL Try.prog 32 (.func #[3, 3] #[30, 4] false) := ⟨Try.underlying32⟩
instance ti32 : TI Try.prog 32 (.nilFunc) 1 8 := ⟨by kernel_rfl⟩
instance na32 : NAgg Try.prog 32 := ⟨fun _ => by kernel_rfl⟩
instance ul34 : UL Try.prog 34 (.func #[3, 35, 4] #[30, 25] false) := ⟨Try.underlying34⟩
instance ti34 : TI Try.prog 34 (.nilFunc) 1 8 := ⟨by kernel_rfl⟩
instance na34 : NAgg Try.prog 34 := ⟨fun _ => by kernel_rfl⟩
instance ul35 : UL Try.prog 35 (.int .u32) := ⟨Try.underlying35⟩
instance ti35 : TI Try.prog 35 (.int .u32 0) 1 4 := ⟨by kernel_rfl⟩
instance na35 : NAgg Try.prog 35 := ⟨fun _ => by kernel_rfl⟩
instance ul36 : UL Try.prog 36 (.func #[3, 35] #[25] false) := ⟨Try.underlying36⟩
instance ti36 : TI Try.prog 36 (.nilFunc) 1 8 := ⟨by kernel_rfl⟩
instance na36 : NAgg Try.prog 36 := ⟨fun _ => by kernel_rfl⟩
instance ul37 : UL Try.prog 37 (.func #[79] #[] false) := ⟨Try.underlying37⟩
instance ti37 : TI Try.prog 37 (.nilFunc) 1 8 := ⟨by kernel_rfl⟩
instance na37 : NAgg Try.prog 37 := ⟨fun _ => by kernel_rfl⟩
instance ul38 : UL Try.prog 38 (.func #[79] #[] false) := ⟨Try.underlying38⟩
instance ti38 : TI Try.prog 38 (.nilFunc) 1 8 := ⟨by kernel_rfl⟩
instance na38 : NAgg Try.prog 38 := ⟨fun _ => by kernel_rfl⟩
instance ul39 : UL Try.prog 39 (.func #[3] #[38] false) := ⟨Try.underlying39⟩
instance ti39 : TI Try.prog 39 (.nilFunc) 1 8 := ⟨by kernel_rfl⟩
instance na39 : NAgg Try.prog 39 := ⟨fun _ => by kernel_rfl⟩
instance ul40 : UL Try.prog 40 (.func #[35] #[25] false) := ⟨Try.underlying40⟩
instance ti40 : TI Try.prog 40 (.nilFunc) 1 8 := ⟨by kernel_rfl⟩
instance na40 : NAgg Try.prog 40 := ⟨fun _ => by kernel_rfl⟩
instance ul41 : UL Try.prog 41 (.func #[3, 22, 5] #[4] false) := ⟨Try.underlying41⟩
instance ti41 : TI Try.prog 41 (.nilFunc) 1 8 := ⟨by kernel_rfl⟩
instance na41 : NAgg Try.prog 41 := ⟨fun _ => by kernel_rfl⟩
instance ul42 : UL Try.prog 42 (.func #[] #[3] false) := ⟨Try.underlying42⟩
instance ti42 : TI Try.prog 42 (.nilFunc) 1 8 := ⟨by kernel_rfl⟩
instance na42 : NAgg Try.prog 42 := ⟨fun _ => by kernel_rfl⟩
instance ul44 : UL Try.prog 44 (.func #[3] #[35, 25] false) := ⟨Try.underlying44⟩
instance ti44 : TI Try.prog 44 (.nilFunc) 1 8 := ⟨by kernel_rfl⟩
instance na44 : NAgg Try.prog 44 := ⟨fun _ => by kernel_rfl⟩
instance ul45 : UL Try.prog 45 (.func #[35] #[35, 25] false) := ⟨Try.underlying45⟩
instance ti45 : TI Try.prog 45 (.nilFunc) 1 8 := ⟨by kernel_rfl⟩
instance na45 : NAgg Try.prog 45 := ⟨fun _ => by kernel_rfl⟩
instance ul46 : UL Try.prog 46 (.func #[35, 25, 35, 25] #[4] false) := ⟨Try.underlying46⟩
instance ti46 : TI Try.prog 46 (.nilFunc) 1 8 := ⟨by kernel_rfl⟩
instance na46 : NAgg Try.prog 46 := ⟨fun _ => by kernel_rfl⟩
instance ul47 : UL Try.prog 47 (.func #[3] #[3] false) := ⟨Try.underlying47⟩
instance ti47 : TI Try.prog 47 (.nilFunc) 1 8 := ⟨by kernel_rfl⟩
instance na47 : NAgg Try.prog 47 := ⟨fun _ => by kernel_rfl⟩
instance ul48 : UL Try.prog 48 (.func #[5, 4] #[4] false) := ⟨Try.underlying48⟩
instance ti48 : TI Try.prog 48 (.nilFunc) 1 8 := ⟨by kernel_rfl⟩
instance na48 : NAgg Try.prog 48 := ⟨fun _ => by kernel_rfl⟩
instance ul49 : UL Try.prog 49 (.slice 51) := ⟨Try.underlying49⟩
instance ti49 : TI Try.prog 49 (.slice none 0 0) 1 24 := ⟨by kernel_rfl⟩
instance na49 : NAgg Try.prog 49 := ⟨fun _ => by kernel_rfl⟩
instance ti50 : TI Try.prog 50 (.agg #[.int .i64 0, .int .i64 0, .int .i64 0, .int .u32 0, .int .u32 0, .slice none 0 0]) 6 56 := ⟨by kernel_rfl⟩
instance ia50 : IAgg Try.prog 50 6 := ⟨fun _ => ⟨by kernel_rfl, by kernel_rfl⟩⟩
instance fa50_0 : FA Try.prog 50 0 0 := ⟨fun _ _ => by kernel_rfl⟩
instance fd50_0 : FD Try.prog 50 0 0 := fd_mk (ft := 3) Try.underlying50 rfl
instance fa50_1 : FA Try.prog 50 1 1 := ⟨fun _ _ => by kernel_rfl⟩
instance fd50_1 : FD Try.prog 50 1 1 := fd_mk (ft := 3) Try.underlying50 rfl
instance fa50_2 : FA Try.prog 50 2 2 := ⟨fun _ _ => by kernel_rfl⟩
instance fd50_2 : FD Try.prog 50 2 2 := fd_mk (ft := 3) Try.underlying50 rfl
instance fa50_3 : FA Try.prog 50 3 3 := ⟨fun _ _ => by kernel_rfl⟩
instance fd50_3 : FD Try.prog 50 3 3 := fd_mk (ft := 35) Try.underlying50 rfl
instance fa50_4 : FA Try.prog 50 4 4 := ⟨fun _ _ => by kernel_rfl⟩
instance fd50_4 : FD Try.prog 50 4 4 := fd_mk (ft := 35) Try.underlying50 rfl
instance fa50_5 : FA Try.prog 50 5 5 := ⟨fun _ _ => by kernel_rfl⟩
instance fd50_5 : FD Try.prog 50 5 5 := fd_mk (ft := 22) Try.underlying50 rfl
instance bl50 : BL Try.prog 50 [(0, 1), (1, 1), (2, 1), (3, 1), (4, 1), (5, 1)] [.int .i64 0, .int .i64 0, .int .i64 0, .int .u32 0, .int .u32 0, .slice none 0 0] := bl_mk Try.underlying50 (fun _ => by kernel_rfl)
instance ti51 : TI Try.prog 51 (.agg #[.int .i64 0, .int .i64 0, .int .i64 0, .int .u32 0, .int .u32 0, .slice none 0 0]) 6 56 := ⟨by kernel_rfl⟩
instance ia51 : IAgg Try.prog 51 6 := ⟨fun _ => ⟨by kernel_rfl, by kernel_rfl⟩⟩
instance fa51_0 : FA Try.prog 51 0 0 := ⟨fun _ _ => by kernel_rfl⟩
instance fd51_0 : FD Try.prog 51 0 0 := fd_mk (ft := 3) Try.underlying51 rfl
instance fa51_1 : FA Try.prog 51 1 1 := ⟨fun _ _ => by kernel_rfl⟩
instance fd51_1 : FD Try.prog 51 1 1 := fd_mk (ft := 3) Try.underlying51 rfl
instance fa51_2 : FA Try.prog 51 2 2 := ⟨fun _ _ => by kernel_rfl⟩
instance fd51_2 : FD Try.prog 51 2 2 := fd_mk (ft := 3) Try.underlying51 rfl
instance fa51_3 : FA Try.prog 51 3 3 := ⟨fun _ _ => by kernel_rfl⟩
instance fd51_3 : FD Try.prog 51 3 3 := fd_mk (ft := 35) Try.underlying51 rfl
instance fa51_4 : FA Try.prog 51 4 4 := ⟨fun _ _ => by kernel_rfl⟩
instance fd51_4 : FD Try.prog 51 4 4 := fd_mk (ft := 35) Try.underlying51 rfl
instance fa51_5 : FA Try.prog 51 5 5 := ⟨fun _ _ => by kernel_rfl⟩
instance fd51_5 : FD Try.prog 51 5 5 := fd_mk (ft := 22) Try.underlying51 rfl
instance bl51 : BL Try.prog 51 [(0, 1), (1, 1), (2, 1), (3, 1), (4, 1), (5, 1)] [.int .i64 0, .int .i64 0, .int .i64 0, .int .u32 0, .int .u32 0, .slice none 0 0] := bl_mk Try.underlying51 (fun _ => by kernel_rfl)
instance ul52 : UL Try.prog 52 (.func #[35, 35] #[25] false) := ⟨Try.underlying52⟩
instance ti52 : TI Try.prog 52 (.nilFunc) 1 8 := ⟨by kernel_rfl⟩
instance na52 : NAgg Try.prog 52 := ⟨fun _ => by kernel_rfl⟩
instance ul53 : UL Try.prog 53 (.func #[3, 3] #[25] false) := ⟨Try.underlying53⟩
instance ti53 : TI Try.prog 53 (.nilFunc) 1 8 := ⟨by kernel_rfl⟩
instance na53 : NAgg Try.prog 53 := ⟨fun _ => by kernel_rfl⟩
instance ul54 : UL Try.prog 54 (.func #[24, 3, 3] #[4] false) := ⟨Try.underlying54⟩
instance ti54 : TI Try.prog 54 (.nilFunc) 1 8 := ⟨by kernel_rfl⟩
instance na54 : NAgg Try.prog 54 := ⟨fun _ => by kernel_rfl⟩
instance ul55 : UL Try.prog 55 (.func #[] #[24] false) := ⟨Try.underlying55⟩
instance ti55 : TI Try.prog 55 (.nilFunc) 1 8 := ⟨by kernel_rfl⟩
instance na55 : NAgg Try.prog 55 := ⟨fun _ => by kernel_rfl⟩
instance ul56 : UL Try.prog 56 (.func #[22, 3] #[25] false) := ⟨Try.underlying56⟩
instance ti56 : TI Try.prog 56 (.nilFunc) 1 8 := ⟨by kernel_rfl⟩
instance na56 : NAgg Try.prog 56 := ⟨fun _ => by kernel_rfl⟩
instance ul57 : UL Try.prog 57 (.func #[22, 22] #[4] false) := ⟨Try.underlying57⟩
instance ti57 : TI Try.prog 57 (.nilFunc) 1 8 := ⟨by kernel_rfl⟩
instance na57 : NAgg Try.prog 57 := ⟨fun _ => by kernel_rfl⟩
instance ul58 : UL Try.prog 58 (.func #[24, 3] #[22] false) := ⟨Try.underlying58⟩
instance ti58 : TI Try.prog 58 (.nilFunc) 1 8 := ⟨by kernel_rfl⟩
instance na58 : NAgg Try.prog 58 := ⟨fun _ => by kernel_rfl⟩
instance ul59 : UL Try.prog 59 (.func #[3, 3, 49, 5] #[4] false) := ⟨Try.underlying59⟩
instance ti59 : TI Try.prog 59 (.nilFunc) 1 8 := ⟨by kernel_rfl⟩
instance na59 : NAgg Try.prog 59 := ⟨fun _ => by kernel_rfl⟩
instance ul60 : UL Try.prog 60 (.func #[24, 30] #[4] false) := ⟨Try.underlying60⟩
instance ti60 : TI Try.prog 60 (.nilFunc) 1 8 := ⟨by kernel_rfl⟩
instance na60 : NAgg Try.prog 60 := ⟨fun _ => by kernel_rfl⟩
instance ul61 : UL Try.prog 61 (.func #[3, 3] #[4] false) := ⟨Try.underlying61⟩
instance ti61 : TI Try.prog 61 (.nilFunc) 1 8 := ⟨by kernel_rfl⟩
instance na61 : NAgg Try.prog 61 := ⟨fun _ => by kernel_rfl⟩
instance ul62 : UL Try.prog 62 (.func #[49] #[4] false) := ⟨Try.underlying62⟩
instance ti62 : TI Try.prog 62 (.nilFunc) 1 8 := ⟨by kernel_rfl⟩
instance na62 : NAgg Try.prog 62 := ⟨fun _ => by kernel_rfl⟩
instance ul64 : UL Try.prog 64 (.func #[24, 30, 51] #[24, 30, 4] false) := ⟨Try.underlying64⟩
instance ti64 : TI Try.prog 64 (.nilFunc) 1 8 := ⟨by kernel_rfl⟩
instance na64 : NAgg Try.prog 64 := ⟨fun _ => by kernel_rfl⟩
instance ul65 : UL Try.prog 65 (.func #[3, 3, 49] #[4] false) := ⟨Try.underlying65⟩
instance ti65 : TI Try.prog 65 (.nilFunc) 1 8 := ⟨by kernel_rfl⟩
instance na65 : NAgg Try.prog 65 := ⟨fun _ => by kernel_rfl⟩
instance ul66 : UL Try.prog 66 (.slice 77) := ⟨Try.underlying66⟩
instance ti66 : TI Try.prog 66 (.slice none 0 0) 1 24 := ⟨by kernel_rfl⟩
instance na66 : NAgg Try.prog 66 := ⟨fun _ => by kernel_rfl⟩
instance ul67 : UL Try.prog 67 (.slice 3) := ⟨Try.underlying67⟩
instance ti67 : TI Try.prog 67 (.slice none 0 0) 1 24 := ⟨by kernel_rfl⟩
instance na67 : NAgg Try.prog 67 := ⟨fun _ => by kernel_rfl⟩
instance ti68 : TI Try.prog 68 (.agg #[.slice none 0 0, .int .i64 0, .slice none 0 0]) 3 56 := ⟨by kernel_rfl⟩
instance ia68 : IAgg Try.prog 68 3 := ⟨fun _ => ⟨by kernel_rfl, by kernel_rfl⟩⟩
instance fa68_0 : FA Try.prog 68 0 0 := ⟨fun _ _ => by kernel_rfl⟩
instance fd68_0 : FD Try.prog 68 0 0 := fd_mk (ft := 66) Try.underlying68 rfl
instance fa68_1 : FA Try.prog 68 1 1 := ⟨fun _ _ => by kernel_rfl⟩
instance fd68_1 : FD Try.prog 68 1 1 := fd_mk (ft := 3) Try.underlying68 rfl
instance fa68_2 : FA Try.prog 68 2 2 := ⟨fun _ _ => by kernel_rfl⟩
instance fd68_2 : FD Try.prog 68 2 2 := fd_mk (ft := 67) Try.underlying68 rfl
instance bl68 : BL Try.prog 68 [(0, 1), (1, 1), (2, 1)] [.slice none 0 0, .int .i64 0, .slice none 0 0] := bl_mk Try.underlying68 (fun _ => by kernel_rfl)
instance ti69 : TI Try.prog 69 (.agg #[.slice none 0 0, .int .i64 0, .slice none 0 0]) 3 56 := ⟨by kernel_rfl⟩
instance ia69 : IAgg Try.prog 69 3 := ⟨fun _ => ⟨by kernel_rfl, by kernel_rfl⟩⟩
instance fa69_0 : FA Try.prog 69 0 0 := ⟨fun _ _ => by kernel_rfl⟩
instance fd69_0 : FD Try.prog 69 0 0 := fd_mk (ft := 66) Try.underlying69 rfl
instance fa69_1 : FA Try.prog 69 1 1 := ⟨fun _ _ => by kernel_rfl⟩
instance fd69_1 : FD Try.prog 69 1 1 := fd_mk (ft := 3) Try.underlying69 rfl
instance fa69_2 : FA Try.prog 69 2 2 := ⟨fun _ _ => by kernel_rfl⟩
instance fd69_2 : FD Try.prog 69 2 2 := fd_mk (ft := 67) Try.underlying69 rfl
instance bl69 : BL Try.prog 69 [(0, 1), (1, 1), (2, 1)] [.slice none 0 0, .int .i64 0, .slice none 0 0] := bl_mk Try.underlying69 (fun _ => by kernel_rfl)
instance ul70 : UL Try.prog 70 (.slice 24) := ⟨Try.underlying70⟩
instance ti70 : TI Try.prog 70 (.slice none 0 0) 1 24 := ⟨by kernel_rfl⟩
instance na70 : NAgg Try.prog 70 := ⟨fun _ => by kernel_rfl⟩
instance ul72 : UL Try.prog 72 (.func #[35] #[3, 25] false) := ⟨Try.underlying72⟩
instance ti72 : TI Try.prog 72 (.nilFunc) 1 8 := ⟨by kernel_rfl⟩
instance na72 : NAgg Try.prog 72 := ⟨fun _ => by kernel_rfl⟩
instance ul73 : UL Try.prog 73 (.func #[3, 35] #[4] false) := ⟨Try.underlying73⟩
instance ti73 : TI Try.prog 73 (.nilFunc) 1 8 := ⟨by kernel_rfl⟩
instance na73 : NAgg Try.prog 73 := ⟨fun _ => by kernel_rfl⟩
instance ul74 : UL Try.prog 74 (.int .i64) := ⟨Try.underlying74⟩
instance ti74 : TI Try.prog 74 (.int .i64 0) 1 8 := ⟨by kernel_rfl⟩
instance na74 : NAgg Try.prog 74 := ⟨fun _ => by kernel_rfl⟩
instance ul75 : UL Try.prog 75 (.func #[24] #[35] false) := ⟨Try.underlying75⟩
instance ti75 : TI Try.prog 75 (.nilFunc) 1 8 := ⟨by kernel_rfl⟩
instance na75 : NAgg Try.prog 75 := ⟨fun _ => by kernel_rfl⟩
instance ti76 : TI Try.prog 76 (.agg #[.int .u32 0, .int .u32 0, .int .u32 0]) 3 12 := ⟨by kernel_rfl⟩
instance ia76 : IAgg Try.prog 76 3 := ⟨fun _ => ⟨by kernel_rfl, by kernel_rfl⟩⟩
instance fa76_0 : FA Try.prog 76 0 0 := ⟨fun _ _ => by kernel_rfl⟩
instance fd76_0 : FD Try.prog 76 0 0 := fd_mk (ft := 35) Try.underlying76 rfl
instance fa76_1 : FA Try.prog 76 1 1 := ⟨fun _ _ => by kernel_rfl⟩
instance fd76_1 : FD Try.prog 76 1 1 := fd_mk (ft := 35) Try.underlying76 rfl
instance fa76_2 : FA Try.prog 76 2 2 := ⟨fun _ _ => by kernel_rfl⟩
instance fd76_2 : FD Try.prog 76 2 2 := fd_mk (ft := 35) Try.underlying76 rfl
instance bl76 : BL Try.prog 76 [(0, 1), (1, 1), (2, 1)] [.int .u32 0, .int .u32 0, .int .u32 0] := bl_mk Try.underlying76 (fun _ => by kernel_rfl)
instance ti77 : TI Try.prog 77 (.agg #[.int .u32 0, .int .u32 0, .int .u32 0]) 3 12 := ⟨by kernel_rfl⟩
instance ia77 : IAgg Try.prog 77 3 := ⟨fun _ => ⟨by kernel_rfl, by kernel_rfl⟩⟩
instance fa77_0 : FA Try.prog 77 0 0 := ⟨fun _ _ => by kernel_rfl⟩
instance fd77_0 : FD Try.prog 77 0 0 := fd_mk (ft := 35) Try.underlying77 rfl
instance fa77_1 : FA Try.prog 77 1 1 := ⟨fun _ _ => by kernel_rfl⟩
instance fd77_1 : FD Try.prog 77 1 1 := fd_mk (ft := 35) Try.underlying77 rfl
instance fa77_2 : FA Try.prog 77 2 2 := ⟨fun _ _ => by kernel_rfl⟩
instance fd77_2 : FD Try.prog 77 2 2 := fd_mk (ft := 35) Try.underlying77 rfl
instance bl77 : BL Try.prog 77 [(0, 1), (1, 1), (2, 1)] [.int .u32 0, .int .u32 0, .int .u32 0] := bl_mk Try.underlying77 (fun _ => by kernel_rfl)
instance ul78 : UL Try.prog 78 (.func #[3] #[4] false) := ⟨Try.underlying78⟩
instance ti78 : TI Try.prog 78 (.nilFunc) 1 8 := ⟨by kernel_rfl⟩
instance na78 : NAgg Try.prog 78 := ⟨fun _ => by kernel_rfl⟩
instance ul79 : UL Try.prog 79 (.func #[35] #[4] false) := ⟨Try.underlying79⟩
instance ti79 : TI Try.prog 79 (.nilFunc) 1 8 := ⟨by kernel_rfl⟩
instance na79 : NAgg Try.prog 79 := ⟨fun _ => by kernel_rfl⟩
instance ul81 : UL Try.prog 81 (.func #[35] #[3, 3] false) := ⟨Try.underlying81⟩
instance ti81 : TI Try.prog 81 (.nilFunc) 1 8 := ⟨by kernel_rfl⟩
instance na81 : NAgg Try.prog 81 := ⟨fun _ => by kernel_rfl⟩
instance ul82 : UL Try.prog 82 (.func #[3, 22] #[30] false) := ⟨Try.underlying82⟩
instance ti82 : TI Try.prog 82 (.nilFunc) 1 8 := ⟨by kernel_rfl⟩
instance na82 : NAgg Try.prog 82 := ⟨fun _ => by kernel_rfl⟩
instance ul83 : UL Try.prog 83 (.func #[22, 3, 35] #[22] false) := ⟨Try.underlying83⟩
instance ti83 : TI Try.prog 83 (.nilFunc) 1 8 := ⟨by kernel_rfl⟩
instance na83 : NAgg Try.prog 83 := ⟨fun _ => by kernel_rfl⟩
instance ul84 : UL Try.prog 84 (.func #[3, 35, 4] #[25] false) := ⟨Try.underlying84⟩
instance ti84 : TI Try.prog 84 (.nilFunc) 1 8 := ⟨by kernel_rfl⟩
instance na84 : NAgg Try.prog 84 := ⟨fun _ => by kernel_rfl⟩
instance ul85 : UL Try.prog 85 (.func #[3] #[22] false) := ⟨Try.underlying85⟩
instance ti85 : TI Try.prog 85 (.nilFunc) 1 8 := ⟨by kernel_rfl⟩
instance na85 : NAgg Try.prog 85 := ⟨fun _ => by kernel_rfl⟩
instance ul86 : UL Try.prog 86 (.func #[3] #[25] false) := ⟨Try.underlying86⟩
instance ti86 : TI Try.prog 86 (.nilFunc) 1 8 := ⟨by kernel_rfl⟩
instance na86 : NAgg Try.prog 86 := ⟨fun _ => by kernel_rfl⟩
instance ul87 : UL Try.prog 87 (.func #[35, 35] #[] false) := ⟨Try.underlying87⟩
instance ti87 : TI Try.prog 87 (.nilFunc) 1 8 := ⟨by kernel_rfl⟩
instance na87 : NAgg Try.prog 87 := ⟨fun _ => by kernel_rfl⟩
instance ul88 : UL Try.prog 88 (.array 2 3) := ⟨Try.underlying88⟩
instance ti88 : TI Try.prog 88 (.agg #[.int .i64 0, .int .i64 0]) 2 16 := ⟨by kernel_rfl⟩
instance ia88 : IAgg Try.prog 88 2 := ⟨fun _ => ⟨by kernel_rfl, by kernel_rfl⟩⟩
instance ul89 : UL Try.prog 89 (.func #[35, 35] #[30, 25] false) := ⟨Try.underlying89⟩
instance ti89 : TI Try.prog 89 (.nilFunc) 1 8 := ⟨by kernel_rfl⟩
instance na89 : NAgg Try.prog 89 := ⟨fun _ => by kernel_rfl⟩
instance ul90 : UL Try.prog 90 (.func #[35] #[30, 25] false) := ⟨Try.underlying90⟩
instance ti90 : TI Try.prog 90 (.nilFunc) 1 8 := ⟨by kernel_rfl⟩
instance na90 : NAgg Try.prog 90 := ⟨fun _ => by kernel_rfl⟩
instance ul91 : UL Try.prog 91 (.func #[3, 3] #[30, 25] false) := ⟨Try.underlying91⟩
instance ti91 : TI Try.prog 91 (.nilFunc) 1 8 := ⟨by kernel_rfl⟩
instance na91 : NAgg Try.prog 91 := ⟨fun _ => by kernel_rfl⟩
instance ul92 : UL Try.prog 92 (.func #[22, 3] #[30, 25] false) := ⟨Try.underlying92⟩
instance ti92 : TI Try.prog 92 (.nilFunc) 1 8 := ⟨by kernel_rfl⟩
instance na92 : NAgg Try.prog 92 := ⟨fun _ => by kernel_rfl⟩
instance ul93 : UL Try.prog 93 (.func #[] #[9] false) := ⟨Try.underlying93⟩
instance ti93 : TI Try.prog 93 (.nilFunc) 1 8 := ⟨by kernel_rfl⟩
instance na93 : NAgg Try.prog 93 := ⟨fun _ => by kernel_rfl⟩
instance ul96 : UL Try.prog 96 (.array 0 16) := ⟨Try.underlying96⟩
instance ti96 : TI Try.prog 96 (.agg #[]) 0 0 := ⟨by kernel_rfl⟩
instance ia96 : IAgg Try.prog 96 0 := ⟨fun _ => ⟨by kernel_rfl, by kernel_rfl⟩⟩
instance ul101 : UL Try.prog 101 (.func #[107, 107] #[4] false) := ⟨Try.underlying101⟩
instance ti101 : TI Try.prog 101 (.nilFunc) 1 8 := ⟨by kernel_rfl⟩
instance na101 : NAgg Try.prog 101 := ⟨fun _ => by kernel_rfl⟩
instance ul102 : UL Try.prog 102 (.pointer 5) := ⟨Try.underlying102⟩
instance ti102 : TI Try.prog 102 (.pointer none) 1 8 := ⟨by kernel_rfl⟩
instance na102 : NAgg Try.prog 102 := ⟨fun _ => by kernel_rfl⟩
instance ti107 : TI Try.prog 107 (.pointer none) 1 8 := ⟨by kernel_rfl⟩
instance na107 : NAgg Try.prog 107 := ⟨fun _ => by kernel_rfl⟩
instance cf3 : CF Try.prog 3 := ⟨fun _ _ => by kernel_rfl⟩
instance cf4 : CF Try.prog 4 := ⟨fun _ _ => by kernel_rfl⟩
instance cf5 : CF Try.prog 5 := ⟨fun _ _ => by kernel_rfl⟩
instance cf6 : CF Try.prog 6 := ⟨fun _ _ => by kernel_rfl⟩
instance cf7 : CF Try.prog 7 := ⟨fun _ _ => by kernel_rfl⟩
instance cf8 : CF Try.prog 8 := ⟨fun _ _ => by kernel_rfl⟩
instance cf9 : CF Try.prog 9 := ⟨fun _ _ => by kernel_rfl⟩
instance cf10 : CF Try.prog 10 := ⟨fun _ _ => by kernel_rfl⟩
instance cf11 : CF Try.prog 11 := ⟨fun _ _ => by kernel_rfl⟩
instance cf12 : CF Try.prog 12 := ⟨fun _ _ => by kernel_rfl⟩
instance cf13 : CF Try.prog 13 := ⟨fun _ _ => by kernel_rfl⟩
instance cf14 : CF Try.prog 14 := ⟨fun _ _ => by kernel_rfl⟩
instance cf15 : CF Try.prog 15 := ⟨fun _ _ => by kernel_rfl⟩
instance cf16 : CF Try.prog 16 := ⟨fun _ _ => by kernel_rfl⟩
instance cf17 : CF Try.prog 17 := ⟨fun _ _ => by kernel_rfl⟩
instance cf18 : CF Try.prog 18 := ⟨fun _ _ => by kernel_rfl⟩
instance cf19 : CF Try.prog 19 := ⟨fun _ _ => by kernel_rfl⟩
instance cf20 : CF Try.prog 20 := ⟨fun _ _ => by kernel_rfl⟩
instance cf21 : CF Try.prog 21 := ⟨fun _ _ => by kernel_rfl⟩
instance cf22 : CF Try.prog 22 := ⟨fun _ _ => by kernel_rfl⟩
instance cf23 : CF Try.prog 23 := ⟨fun _ _ => by kernel_rfl⟩
instance cf24 : CF Try.prog 24 := ⟨fun _ _ => by kernel_rfl⟩
instance cf25 : CF Try.prog 25 := ⟨fun _ _ => by kernel_rfl⟩
instance cf26 : CF Try.prog 26 := ⟨fun _ _ => by kernel_rfl⟩
instance cf27 : CF Try.prog 27 := ⟨fun _ _ => by kernel_rfl⟩
instance cf28 : CF Try.prog 28 := ⟨fun _ _ => by kernel_rfl⟩
instance cf29 : CF Try.prog 29 := ⟨fun _ _ => by kernel_rfl⟩
instance cf30 : CF Try.prog 30 := ⟨fun _ _ => by kernel_rfl⟩
instance cf31 : CF Try.prog 31 := ⟨fun _ _ => by kernel_rfl⟩
instance cf32 : CF Try.prog 32 := ⟨fun _ _ => by kernel_rfl⟩
instance cf33 : CF Try.prog 33 := ⟨fun _ _ => by kernel_rfl⟩
instance cf34 : CF Try.prog 34 := ⟨fun _ _ => by kernel_rfl⟩
instance cf35 : CF Try.prog 35 := ⟨fun _ _ => by kernel_rfl⟩
instance cf36 : CF Try.prog 36 := ⟨fun _ _ => by kernel_rfl⟩
instance cf37 : CF Try.prog 37 := ⟨fun _ _ => by kernel_rfl⟩
instance cf38 : CF Try.prog 38 := ⟨fun _ _ => by kernel_rfl⟩
instance cf39 : CF Try.prog 39 := ⟨fun _ _ => by kernel_rfl⟩
instance cf40 : CF Try.prog 40 := ⟨fun _ _ => by kernel_rfl⟩
instance cf41 : CF Try.prog 41 := ⟨fun _ _ => by kernel_rfl⟩
instance cf42 : CF Try.prog 42 := ⟨fun _ _ => by kernel_rfl⟩
instance cf43 : CF Try.prog 43 := ⟨fun _ _ => by kernel_rfl⟩
instance cf44 : CF Try.prog 44 := ⟨fun _ _ => by kernel_rfl⟩
instance cf45 : CF Try.prog 45 := ⟨fun _ _ => by kernel_rfl⟩
instance cf46 : CF Try.prog 46 := ⟨fun _ _ => by kernel_rfl⟩
instance cf47 : CF Try.prog 47 := ⟨fun _ _ => by kernel_rfl⟩
instance cf48 : CF Try.prog 48 := ⟨fun _ _ => by kernel_rfl⟩
instance cf49 : CF Try.prog 49 := ⟨fun _ _ => by kernel_rfl⟩
instance cf50 : CF Try.prog 50 := ⟨fun _ _ => by kernel_rfl⟩
instance cf51 : CF Try.prog 51 := ⟨fun _ _ => by kernel_rfl⟩
instance cf52 : CF Try.prog 52 := ⟨fun _ _ => by kernel_rfl⟩
instance cf53 : CF Try.prog 53 := ⟨fun _ _ => by kernel_rfl⟩
instance cf54 : CF Try.prog 54 := ⟨fun _ _ => by kernel_rfl⟩
end Go.Proofs.Ytgmccdicncocdaa
