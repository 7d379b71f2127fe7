/- What the program says of its types and functions. -/
import Derived.Test.YtmiblmoppdgnjaaDoorSlM
import Derived.Test.YtmiblmoppdgnjaaDoorRows
namespace Go.Proofs.YtmiblmoppdgnjaaDoor
open Go.Sl
instance ul1 : UL Tryd.prog 1 (.func #[] #[] false) := ⟨Tryd.underlying1⟩
instance ti1 : TI Tryd.prog 1 (.nilFunc) 1 8 := ⟨by kernel_rfl⟩
instance na1 : NAgg Tryd.prog 1 := ⟨fun _ => by kernel_rfl⟩
instance ul2 : UL Tryd.prog 2 (.int .i64) := ⟨Tryd.underlying2⟩
instance ti2 : TI Tryd.prog 2 (.int .i64 0) 1 8 := ⟨by kernel_rfl⟩
instance na2 : NAgg Tryd.prog 2 := ⟨fun _ => by kernel_rfl⟩
instance ul3 : UL Tryd.prog 3 (.int .i64) := ⟨Tryd.underlying3⟩
instance ti3 : TI Tryd.prog 3 (.int .i64 0) 1 8 := ⟨by kernel_rfl⟩
instance na3 : NAgg Tryd.prog 3 := ⟨fun _ => by kernel_rfl⟩
instance ul4 : UL Tryd.prog 4 (.bool) := ⟨Tryd.underlying4⟩
instance ti4 : TI Tryd.prog 4 (.bool false) 1 1 := ⟨by kernel_rfl⟩
instance na4 : NAgg Tryd.prog 4 := ⟨fun _ => by kernel_rfl⟩
instance ul5 : UL Tryd.prog 5 (.int .u8) := ⟨Tryd.underlying5⟩
instance ti5 : TI Tryd.prog 5 (.int .u8 0) 1 1 := ⟨by kernel_rfl⟩
instance na5 : NAgg Tryd.prog 5 := ⟨fun _ => by kernel_rfl⟩
instance ul9 : UL Tryd.prog 9 (.string) := ⟨Tryd.underlying9⟩
instance ti9 : TI Tryd.prog 9 (.string ByteArray.empty) 1 16 := ⟨by kernel_rfl⟩
instance na9 : NAgg Tryd.prog 9 := ⟨fun _ => by kernel_rfl⟩
instance ul12 : UL Tryd.prog 12 (.int .u64) := ⟨Tryd.underlying12⟩
instance ti12 : TI Tryd.prog 12 (.int .u64 0) 1 8 := ⟨by kernel_rfl⟩
instance na12 : NAgg Tryd.prog 12 := ⟨fun _ => by kernel_rfl⟩
instance ti20 : TI Tryd.prog 20 (.nilIface) 1 16 := ⟨by kernel_rfl⟩
instance na20 : NAgg Tryd.prog 20 := ⟨fun _ => by kernel_rfl⟩
instance ul21 : UL Tryd.prog 21 (.int .i32) := ⟨Tryd.underlying21⟩
instance ti21 : TI Tryd.prog 21 (.int .i32 0) 1 4 := ⟨by kernel_rfl⟩
instance na21 : NAgg Tryd.prog 21 := ⟨fun _ => by kernel_rfl⟩
instance ul22 : UL Tryd.prog 22 (.slice 5) := ⟨Tryd.underlying22⟩
instance ti22 : TI Tryd.prog 22 (.slice none 0 0) 1 24 := ⟨by kernel_rfl⟩
instance na22 : NAgg Tryd.prog 22 := ⟨fun _ => by kernel_rfl⟩
instance ul23 : UL Tryd.prog 23 (.func #[] #[4] false) := ⟨Tryd.underlying23⟩
instance ti23 : TI Tryd.prog 23 (.nilFunc) 1 8 := ⟨by kernel_rfl⟩
instance na23 : NAgg Tryd.prog 23 := ⟨fun _ => by kernel_rfl⟩
instance ul24 : UL Tryd.prog 24 (.pointer 63) := ⟨Tryd.underlying24⟩
instance ti24 : TI Tryd.prog 24 (.pointer none) 1 8 := ⟨by kernel_rfl⟩
instance na24 : NAgg Tryd.prog 24 := ⟨fun _ => by kernel_rfl⟩
instance ul25 : UL Tryd.prog 25 (.func #[] #[24] false) := ⟨Tryd.underlying25⟩
instance ti25 : TI Tryd.prog 25 (.nilFunc) 1 8 := ⟨by kernel_rfl⟩
instance na25 : NAgg Tryd.prog 25 := ⟨fun _ => by kernel_rfl⟩
instance ul26 : UL Tryd.prog 26 (.slice 71) := ⟨Tryd.underlying26⟩
instance ti26 : TI Tryd.prog 26 (.slice none 0 0) 1 24 := ⟨by kernel_rfl⟩
instance na26 : NAgg Tryd.prog 26 := ⟨fun _ => by kernel_rfl⟩
instance ul27 : UL Tryd.prog 27 (.slice 71) := ⟨Tryd.underlying27⟩
instance ti27 : TI Tryd.prog 27 (.slice none 0 0) 1 24 := ⟨by kernel_rfl⟩
instance na27 : NAgg Tryd.prog 27 := ⟨fun _ => by kernel_rfl⟩
instance ul28 : UL Tryd.prog 28 (.int .i64) := ⟨Tryd.underlying28⟩
instance ti28 : TI Tryd.prog 28 (.int .i64 0) 1 8 := ⟨by kernel_rfl⟩
instance na28 : NAgg Tryd.prog 28 := ⟨fun _ => by kernel_rfl⟩
instance ul30 : UL Tryd.prog 30 (.func #[31, 3] #[27, 28] false) := ⟨Tryd.underlying30⟩
instance ti30 : TI Tryd.prog 30 (.nilFunc) 1 8 := ⟨by kernel_rfl⟩
instance na30 : NAgg Tryd.prog 30 := ⟨fun _ => by kernel_rfl⟩
instance ul31 : UL Tryd.prog 31 (.int .u32) := ⟨Tryd.underlying31⟩
instance ti31 : TI Tryd.prog 31 (.int .u32 0) 1 4 := ⟨by kernel_rfl⟩
instance na31 : NAgg Tryd.prog 31 := ⟨fun _ => by kernel_rfl⟩
instance ul32 : UL Tryd.prog 32 (.func #[31, 3] #[28] false) := ⟨Tryd.underlying32⟩
instance ti32 : TI Tryd.prog 32 (.nilFunc) 1 8 := ⟨by kernel_rfl⟩
instance na32 : NAgg Tryd.prog 32 := ⟨fun _ => by kernel_rfl⟩
instance ul34 : UL Tryd.prog 34 (.func #[3] #[3, 28] false) := ⟨Tryd.underlying34⟩
instance ti34 : TI Tryd.prog 34 (.nilFunc) 1 8 := ⟨by kernel_rfl⟩
instance na34 : NAgg Tryd.prog 34 := ⟨fun _ => by kernel_rfl⟩
instance ul35 : UL Tryd.prog 35 (.func #[24, 3, 3, 28] #[4] false) := ⟨Tryd.underlying35⟩
instance ti35 : TI Tryd.prog 35 (.nilFunc) 1 8 := ⟨by kernel_rfl⟩
instance na35 : NAgg Tryd.prog 35 := ⟨fun _ => by kernel_rfl⟩
instance ul36 : UL Tryd.prog 36 (.slice 31) := ⟨Tryd.underlying36⟩
instance ti36 : TI Tryd.prog 36 (.slice none 0 0) 1 24 := ⟨by kernel_rfl⟩
instance na36 : NAgg Tryd.prog 36 := ⟨fun _ => by kernel_rfl⟩
instance ul38 : UL Tryd.prog 38 (.func #[3] #[27, 36, 28] false) := ⟨Tryd.underlying38⟩
instance ti38 : TI Tryd.prog 38 (.nilFunc) 1 8 := ⟨by kernel_rfl⟩
instance na38 : NAgg Tryd.prog 38 := ⟨fun _ => by kernel_rfl⟩
instance ul39 : UL Tryd.prog 39 (.func #[24, 3, 36, 28] #[4] false) := ⟨Tryd.underlying39⟩
instance ti39 : TI Tryd.prog 39 (.nilFunc) 1 8 := ⟨by kernel_rfl⟩
instance na39 : NAgg Tryd.prog 39 := ⟨fun _ => by kernel_rfl⟩
instance ul40 : UL Tryd.prog 40 (.func #[22, 3, 5] #[4] false) := ⟨Tryd.underlying40⟩
instance ti40 : TI Tryd.prog 40 (.nilFunc) 1 8 := ⟨by kernel_rfl⟩
instance na40 : NAgg Tryd.prog 40 := ⟨fun _ => by kernel_rfl⟩
instance ti41 : TI Tryd.prog 41 (.agg #[.int .i64 0, .int .u32 0, .int .i64 0]) 3 24 := ⟨by kernel_rfl⟩
instance ia41 : IAgg Tryd.prog 41 3 := ⟨fun _ => ⟨by kernel_rfl, by kernel_rfl⟩⟩
instance fa41_0 : FA Tryd.prog 41 0 0 := ⟨fun _ _ => by kernel_rfl⟩
instance fd41_0 : FD Tryd.prog 41 0 0 := fd_mk (ft := 3) Tryd.underlying41 rfl
instance fa41_1 : FA Tryd.prog 41 1 1 := ⟨fun _ _ => by kernel_rfl⟩
instance fd41_1 : FD Tryd.prog 41 1 1 := fd_mk (ft := 31) Tryd.underlying41 rfl
instance fa41_2 : FA Tryd.prog 41 2 2 := ⟨fun _ _ => by kernel_rfl⟩
instance fd41_2 : FD Tryd.prog 41 2 2 := fd_mk (ft := 3) Tryd.underlying41 rfl
instance bl41 : BL Tryd.prog 41 [(0, 1), (1, 1), (2, 1)] [.int .i64 0, .int .u32 0, .int .i64 0] := bl_mk Tryd.underlying41 (fun _ => by kernel_rfl)
instance ti42 : TI Tryd.prog 42 (.agg #[.int .i64 0, .int .u32 0, .int .i64 0]) 3 24 := ⟨by kernel_rfl⟩
instance ia42 : IAgg Tryd.prog 42 3 := ⟨fun _ => ⟨by kernel_rfl, by kernel_rfl⟩⟩
instance fa42_0 : FA Tryd.prog 42 0 0 := ⟨fun _ _ => by kernel_rfl⟩
instance fd42_0 : FD Tryd.prog 42 0 0 := fd_mk (ft := 3) Tryd.underlying42 rfl
instance fa42_1 : FA Tryd.prog 42 1 1 := ⟨fun _ _ => by kernel_rfl⟩
instance fd42_1 : FD Tryd.prog 42 1 1 := fd_mk (ft := 31) Tryd.underlying42 rfl
instance fa42_2 : FA Tryd.prog 42 2 2 := ⟨fun _ _ => by kernel_rfl⟩
instance fd42_2 : FD Tryd.prog 42 2 2 := fd_mk (ft := 3) Tryd.underlying42 rfl
instance bl42 : BL Tryd.prog 42 [(0, 1), (1, 1), (2, 1)] [.int .i64 0, .int .u32 0, .int .i64 0] := bl_mk Tryd.underlying42 (fun _ => by kernel_rfl)
instance ul43 : UL Tryd.prog 43 (.func #[24, 27, 42] #[4] false) := ⟨Tryd.underlying43⟩
instance ti43 : TI Tryd.prog 43 (.nilFunc) 1 8 := ⟨by kernel_rfl⟩
instance na43 : NAgg Tryd.prog 43 := ⟨fun _ => by kernel_rfl⟩
instance ul45 : UL Tryd.prog 45 (.func #[31] #[27, 3, 28] false) := ⟨Tryd.underlying45⟩
instance ti45 : TI Tryd.prog 45 (.nilFunc) 1 8 := ⟨by kernel_rfl⟩
instance na45 : NAgg Tryd.prog 45 := ⟨fun _ => by kernel_rfl⟩
instance ul46 : UL Tryd.prog 46 (.func #[24, 31, 3, 28] #[4] false) := ⟨Tryd.underlying46⟩
instance ti46 : TI Tryd.prog 46 (.nilFunc) 1 8 := ⟨by kernel_rfl⟩
instance na46 : NAgg Tryd.prog 46 := ⟨fun _ => by kernel_rfl⟩
instance ul47 : UL Tryd.prog 47 (.func #[3, 5] #[4] false) := ⟨Tryd.underlying47⟩
instance ti47 : TI Tryd.prog 47 (.nilFunc) 1 8 := ⟨by kernel_rfl⟩
instance na47 : NAgg Tryd.prog 47 := ⟨fun _ => by kernel_rfl⟩
instance ul48 : UL Tryd.prog 48 (.slice 4) := ⟨Tryd.underlying48⟩
instance ti48 : TI Tryd.prog 48 (.slice none 0 0) 1 24 := ⟨by kernel_rfl⟩
instance na48 : NAgg Tryd.prog 48 := ⟨fun _ => by kernel_rfl⟩
instance ul50 : UL Tryd.prog 50 (.func #[3] #[36, 28] false) := ⟨Tryd.underlying50⟩
instance ti50 : TI Tryd.prog 50 (.nilFunc) 1 8 := ⟨by kernel_rfl⟩
instance na50 : NAgg Tryd.prog 50 := ⟨fun _ => by kernel_rfl⟩
instance ul51 : UL Tryd.prog 51 (.func #[] #[3] false) := ⟨Tryd.underlying51⟩
instance ti51 : TI Tryd.prog 51 (.nilFunc) 1 8 := ⟨by kernel_rfl⟩
instance na51 : NAgg Tryd.prog 51 := ⟨fun _ => by kernel_rfl⟩
instance ul52 : UL Tryd.prog 52 (.int .u64) := ⟨Tryd.underlying52⟩
instance ti52 : TI Tryd.prog 52 (.int .u64 0) 1 8 := ⟨by kernel_rfl⟩
instance na52 : NAgg Tryd.prog 52 := ⟨fun _ => by kernel_rfl⟩
instance ul53 : UL Tryd.prog 53 (.array 4 52) := ⟨Tryd.underlying53⟩
instance ti53 : TI Tryd.prog 53 (.agg #[.int .u64 0, .int .u64 0, .int .u64 0, .int .u64 0]) 4 32 := ⟨by kernel_rfl⟩
instance ia53 : IAgg Tryd.prog 53 4 := ⟨fun _ => ⟨by kernel_rfl, by kernel_rfl⟩⟩
instance ul54 : UL Tryd.prog 54 (.func #[] #[53] false) := ⟨Tryd.underlying54⟩
instance ti54 : TI Tryd.prog 54 (.nilFunc) 1 8 := ⟨by kernel_rfl⟩
instance na54 : NAgg Tryd.prog 54 := ⟨fun _ => by kernel_rfl⟩
instance ul55 : UL Tryd.prog 55 (.func #[22] #[4] false) := ⟨Tryd.underlying55⟩
instance ti55 : TI Tryd.prog 55 (.nilFunc) 1 8 := ⟨by kernel_rfl⟩
instance na55 : NAgg Tryd.prog 55 := ⟨fun _ => by kernel_rfl⟩
instance ul56 : UL Tryd.prog 56 (.slice 42) := ⟨Tryd.underlying56⟩
instance ti56 : TI Tryd.prog 56 (.slice none 0 0) 1 24 := ⟨by kernel_rfl⟩
instance na56 : NAgg Tryd.prog 56 := ⟨fun _ => by kernel_rfl⟩
instance ul57 : UL Tryd.prog 57 (.func #[56] #[4] false) := ⟨Tryd.underlying57⟩
instance ti57 : TI Tryd.prog 57 (.nilFunc) 1 8 := ⟨by kernel_rfl⟩
instance na57 : NAgg Tryd.prog 57 := ⟨fun _ => by kernel_rfl⟩
instance ul59 : UL Tryd.prog 59 (.func #[24, 27, 42] #[24, 27, 4] false) := ⟨Tryd.underlying59⟩
instance ti59 : TI Tryd.prog 59 (.nilFunc) 1 8 := ⟨by kernel_rfl⟩
instance na59 : NAgg Tryd.prog 59 := ⟨fun _ => by kernel_rfl⟩
instance ul60 : UL Tryd.prog 60 (.pointer 88) := ⟨Tryd.underlying60⟩
instance ti60 : TI Tryd.prog 60 (.pointer none) 1 8 := ⟨by kernel_rfl⟩
instance na60 : NAgg Tryd.prog 60 := ⟨fun _ => by kernel_rfl⟩
instance ul61 : UL Tryd.prog 61 (.array 4 52) := ⟨Tryd.underlying61⟩
instance ti61 : TI Tryd.prog 61 (.agg #[.int .u64 0, .int .u64 0, .int .u64 0, .int .u64 0]) 4 32 := ⟨by kernel_rfl⟩
instance ia61 : IAgg Tryd.prog 61 4 := ⟨fun _ => ⟨by kernel_rfl, by kernel_rfl⟩⟩
instance ti62 : TI Tryd.prog 62 (.agg #[.pointer none, .int .u64 0, .int .u64 0, .int .u64 0, .int .u64 0, .int .i64 0]) 6 48 := ⟨by kernel_rfl⟩
instance ia62 : IAgg Tryd.prog 62 6 := ⟨fun _ => ⟨by kernel_rfl, by kernel_rfl⟩⟩
instance fa62_0 : FA Tryd.prog 62 0 0 := ⟨fun _ _ => by kernel_rfl⟩
instance fd62_0 : FD Tryd.prog 62 0 0 := fd_mk (ft := 60) Tryd.underlying62 rfl
instance fa62_1 : FA Tryd.prog 62 1 1 := ⟨fun _ _ => by kernel_rfl⟩
instance fa62_2 : FA Tryd.prog 62 2 5 := ⟨fun _ _ => by kernel_rfl⟩
instance fd62_2 : FD Tryd.prog 62 2 5 := fd_mk (ft := 3) Tryd.underlying62 rfl
instance bl62 : BL Tryd.prog 62 [(0, 1), (1, 4), (5, 1)] [.pointer none, .int .u64 0, .int .u64 0, .int .u64 0, .int .u64 0, .int .i64 0] := bl_mk Tryd.underlying62 (fun _ => by kernel_rfl)
instance ti63 : TI Tryd.prog 63 (.agg #[.pointer none, .int .u64 0, .int .u64 0, .int .u64 0, .int .u64 0, .int .i64 0]) 6 48 := ⟨by kernel_rfl⟩
instance ia63 : IAgg Tryd.prog 63 6 := ⟨fun _ => ⟨by kernel_rfl, by kernel_rfl⟩⟩
instance fa63_0 : FA Tryd.prog 63 0 0 := ⟨fun _ _ => by kernel_rfl⟩
instance fd63_0 : FD Tryd.prog 63 0 0 := fd_mk (ft := 60) Tryd.underlying63 rfl
instance fa63_1 : FA Tryd.prog 63 1 1 := ⟨fun _ _ => by kernel_rfl⟩
instance fa63_2 : FA Tryd.prog 63 2 5 := ⟨fun _ _ => by kernel_rfl⟩
instance fd63_2 : FD Tryd.prog 63 2 5 := fd_mk (ft := 3) Tryd.underlying63 rfl
instance bl63 : BL Tryd.prog 63 [(0, 1), (1, 4), (5, 1)] [.pointer none, .int .u64 0, .int .u64 0, .int .u64 0, .int .u64 0, .int .i64 0] := bl_mk Tryd.underlying63 (fun _ => by kernel_rfl)
instance ul64 : UL Tryd.prog 64 (.slice 24) := ⟨Tryd.underlying64⟩
instance ti64 : TI Tryd.prog 64 (.slice none 0 0) 1 24 := ⟨by kernel_rfl⟩
instance na64 : NAgg Tryd.prog 64 := ⟨fun _ => by kernel_rfl⟩
instance ul65 : UL Tryd.prog 65 (.func #[31, 3] #[4] false) := ⟨Tryd.underlying65⟩
instance ti65 : TI Tryd.prog 65 (.nilFunc) 1 8 := ⟨by kernel_rfl⟩
instance na65 : NAgg Tryd.prog 65 := ⟨fun _ => by kernel_rfl⟩
instance ul67 : UL Tryd.prog 67 (.func #[3, 3] #[60, 28] false) := ⟨Tryd.underlying67⟩
instance ti67 : TI Tryd.prog 67 (.nilFunc) 1 8 := ⟨by kernel_rfl⟩
instance na67 : NAgg Tryd.prog 67 := ⟨fun _ => by kernel_rfl⟩
instance ul68 : UL Tryd.prog 68 (.func #[3] #[4] false) := ⟨Tryd.underlying68⟩
instance ti68 : TI Tryd.prog 68 (.nilFunc) 1 8 := ⟨by kernel_rfl⟩
instance na68 : NAgg Tryd.prog 68 := ⟨fun _ => by kernel_rfl⟩
instance ul69 : UL Tryd.prog 69 (.func #[31] #[3] false) := ⟨Tryd.underlying69⟩
instance ti69 : TI Tryd.prog 69 (.nilFunc) 1 8 := ⟨by kernel_rfl⟩
instance na69 : NAgg Tryd.prog 69 := ⟨fun _ => by kernel_rfl⟩
instance ti70 : TI Tryd.prog 70 (.agg #[.int .u32 0, .int .i64 0]) 2 16 := ⟨by kernel_rfl⟩
instance ia70 : IAgg Tryd.prog 70 2 := ⟨fun _ => ⟨by kernel_rfl, by kernel_rfl⟩⟩
instance fa70_0 : FA Tryd.prog 70 0 0 := ⟨fun _ _ => by kernel_rfl⟩
instance fd70_0 : FD Tryd.prog 70 0 0 := fd_mk (ft := 31) Tryd.underlying70 rfl
instance fa70_1 : FA Tryd.prog 70 1 1 := ⟨fun _ _ => by kernel_rfl⟩
instance fd70_1 : FD Tryd.prog 70 1 1 := fd_mk (ft := 3) Tryd.underlying70 rfl
instance bl70 : BL Tryd.prog 70 [(0, 1), (1, 1)] [.int .u32 0, .int .i64 0] := bl_mk Tryd.underlying70 (fun _ => by kernel_rfl)
instance ti71 : TI Tryd.prog 71 (.agg #[.int .u32 0, .int .i64 0]) 2 16 := ⟨by kernel_rfl⟩
instance ia71 : IAgg Tryd.prog 71 2 := ⟨fun _ => ⟨by kernel_rfl, by kernel_rfl⟩⟩
instance fa71_0 : FA Tryd.prog 71 0 0 := ⟨fun _ _ => by kernel_rfl⟩
instance fd71_0 : FD Tryd.prog 71 0 0 := fd_mk (ft := 31) Tryd.underlying71 rfl
instance fa71_1 : FA Tryd.prog 71 1 1 := ⟨fun _ _ => by kernel_rfl⟩
instance fd71_1 : FD Tryd.prog 71 1 1 := fd_mk (ft := 3) Tryd.underlying71 rfl
instance bl71 : BL Tryd.prog 71 [(0, 1), (1, 1)] [.int .u32 0, .int .i64 0] := bl_mk Tryd.underlying71 (fun _ => by kernel_rfl)
instance ul72 : UL Tryd.prog 72 (.func #[31] #[] false) := ⟨Tryd.underlying72⟩
instance ti72 : TI Tryd.prog 72 (.nilFunc) 1 8 := ⟨by kernel_rfl⟩
instance na72 : NAgg Tryd.prog 72 := ⟨fun _ => by kernel_rfl⟩
instance ul73 : UL Tryd.prog 73 (.func #[3, 31] #[28] false) := ⟨Tryd.underlying73⟩
instance ti73 : TI Tryd.prog 73 (.nilFunc) 1 8 := ⟨by kernel_rfl⟩
instance na73 : NAgg Tryd.prog 73 := ⟨fun _ => by kernel_rfl⟩
instance ul74 : UL Tryd.prog 74 (.func #[3] #[] false) := ⟨Tryd.underlying74⟩
instance ti74 : TI Tryd.prog 74 (.nilFunc) 1 8 := ⟨by kernel_rfl⟩
instance na74 : NAgg Tryd.prog 74 := ⟨fun _ => by kernel_rfl⟩
instance ul75 : UL Tryd.prog 75 (.func #[3] #[36] false) := ⟨Tryd.underlying75⟩
instance ti75 : TI Tryd.prog 75 (.nilFunc) 1 8 := ⟨by kernel_rfl⟩
instance na75 : NAgg Tryd.prog 75 := ⟨fun _ => by kernel_rfl⟩
instance ul76 : UL Tryd.prog 76 (.func #[36, 36] #[4] false) := ⟨Tryd.underlying76⟩
instance ti76 : TI Tryd.prog 76 (.nilFunc) 1 8 := ⟨by kernel_rfl⟩
instance na76 : NAgg Tryd.prog 76 := ⟨fun _ => by kernel_rfl⟩
instance ul77 : UL Tryd.prog 77 (.slice 3) := ⟨Tryd.underlying77⟩
instance ti77 : TI Tryd.prog 77 (.slice none 0 0) 1 24 := ⟨by kernel_rfl⟩
instance na77 : NAgg Tryd.prog 77 := ⟨fun _ => by kernel_rfl⟩
instance ul78 : UL Tryd.prog 78 (.func #[31] #[3, 28] false) := ⟨Tryd.underlying78⟩
instance ti78 : TI Tryd.prog 78 (.nilFunc) 1 8 := ⟨by kernel_rfl⟩
instance na78 : NAgg Tryd.prog 78 := ⟨fun _ => by kernel_rfl⟩
instance ul80 : UL Tryd.prog 80 (.func #[3] #[3, 4] false) := ⟨Tryd.underlying80⟩
instance ti80 : TI Tryd.prog 80 (.nilFunc) 1 8 := ⟨by kernel_rfl⟩
instance na80 : NAgg Tryd.prog 80 := ⟨fun _ => by kernel_rfl⟩
instance ul81 : UL Tryd.prog 81 (.func #[83] #[36] false) := ⟨Tryd.underlying81⟩
instance ti81 : TI Tryd.prog 81 (.nilFunc) 1 8 := ⟨by kernel_rfl⟩
instance na81 : NAgg Tryd.prog 81 := ⟨fun _ => by kernel_rfl⟩
instance ul82 : UL Tryd.prog 82 (.func #[100] #[] false) := ⟨Tryd.underlying82⟩
instance ti82 : TI Tryd.prog 82 (.nilFunc) 1 8 := ⟨by kernel_rfl⟩
instance na82 : NAgg Tryd.prog 82 := ⟨fun _ => by kernel_rfl⟩
instance ul83 : UL Tryd.prog 83 (.func #[100] #[] false) := ⟨Tryd.underlying83⟩
instance ti83 : TI Tryd.prog 83 (.nilFunc) 1 8 := ⟨by kernel_rfl⟩
instance na83 : NAgg Tryd.prog 83 := ⟨fun _ => by kernel_rfl⟩
instance ul84 : UL Tryd.prog 84 (.func #[3] #[83] false) := ⟨Tryd.underlying84⟩
instance ti84 : TI Tryd.prog 84 (.nilFunc) 1 8 := ⟨by kernel_rfl⟩
instance na84 : NAgg Tryd.prog 84 := ⟨fun _ => by kernel_rfl⟩
instance ul85 : UL Tryd.prog 85 (.func #[] #[60] false) := ⟨Tryd.underlying85⟩
instance ti85 : TI Tryd.prog 85 (.nilFunc) 1 8 := ⟨by kernel_rfl⟩
instance na85 : NAgg Tryd.prog 85 := ⟨fun _ => by kernel_rfl⟩
instance ul86 : UL Tryd.prog 86 (.slice 92) := ⟨Tryd.underlying86⟩
instance ti86 : TI Tryd.prog 86 (.slice none 0 0) 1 24 := ⟨by kernel_rfl⟩
instance na86 : NAgg Tryd.prog 86 := ⟨fun _ => by kernel_rfl⟩
instance ti87 : TI Tryd.prog 87 (.agg #[.slice none 0 0, .int .i64 0, .slice none 0 0]) 3 56 := ⟨by kernel_rfl⟩
instance ia87 : IAgg Tryd.prog 87 3 := ⟨fun _ => ⟨by kernel_rfl, by kernel_rfl⟩⟩
instance fa87_0 : FA Tryd.prog 87 0 0 := ⟨fun _ _ => by kernel_rfl⟩
instance fd87_0 : FD Tryd.prog 87 0 0 := fd_mk (ft := 86) Tryd.underlying87 rfl
instance fa87_1 : FA Tryd.prog 87 1 1 := ⟨fun _ _ => by kernel_rfl⟩
instance fd87_1 : FD Tryd.prog 87 1 1 := fd_mk (ft := 3) Tryd.underlying87 rfl
instance fa87_2 : FA Tryd.prog 87 2 2 := ⟨fun _ _ => by kernel_rfl⟩
instance fd87_2 : FD Tryd.prog 87 2 2 := fd_mk (ft := 77) Tryd.underlying87 rfl
instance bl87 : BL Tryd.prog 87 [(0, 1), (1, 1), (2, 1)] [.slice none 0 0, .int .i64 0, .slice none 0 0] := bl_mk Tryd.underlying87 (fun _ => by kernel_rfl)
instance ti88 : TI Tryd.prog 88 (.agg #[.slice none 0 0, .int .i64 0, .slice none 0 0]) 3 56 := ⟨by kernel_rfl⟩
instance ia88 : IAgg Tryd.prog 88 3 := ⟨fun _ => ⟨by kernel_rfl, by kernel_rfl⟩⟩
instance fa88_0 : FA Tryd.prog 88 0 0 := ⟨fun _ _ => by kernel_rfl⟩
instance fd88_0 : FD Tryd.prog 88 0 0 := fd_mk (ft := 86) Tryd.underlying88 rfl
instance fa88_1 : FA Tryd.prog 88 1 1 := ⟨fun _ _ => by kernel_rfl⟩
instance fd88_1 : FD Tryd.prog 88 1 1 := fd_mk (ft := 3) Tryd.underlying88 rfl
instance fa88_2 : FA Tryd.prog 88 2 2 := ⟨fun _ _ => by kernel_rfl⟩
instance fd88_2 : FD Tryd.prog 88 2 2 := fd_mk (ft := 77) Tryd.underlying88 rfl
instance bl88 : BL Tryd.prog 88 [(0, 1), (1, 1), (2, 1)] [.slice none 0 0, .int .i64 0, .slice none 0 0] := bl_mk Tryd.underlying88 (fun _ => by kernel_rfl)
instance ul89 : UL Tryd.prog 89 (.int .i64) := ⟨Tryd.underlying89⟩
instance ti89 : TI Tryd.prog 89 (.int .i64 0) 1 8 := ⟨by kernel_rfl⟩
instance na89 : NAgg Tryd.prog 89 := ⟨fun _ => by kernel_rfl⟩
instance ul90 : UL Tryd.prog 90 (.func #[60] #[31] false) := ⟨Tryd.underlying90⟩
instance ti90 : TI Tryd.prog 90 (.nilFunc) 1 8 := ⟨by kernel_rfl⟩
instance na90 : NAgg Tryd.prog 90 := ⟨fun _ => by kernel_rfl⟩
instance ti91 : TI Tryd.prog 91 (.agg #[.int .u32 0, .int .u32 0, .int .u32 0]) 3 12 := ⟨by kernel_rfl⟩
instance ia91 : IAgg Tryd.prog 91 3 := ⟨fun _ => ⟨by kernel_rfl, by kernel_rfl⟩⟩
instance fa91_0 : FA Tryd.prog 91 0 0 := ⟨fun _ _ => by kernel_rfl⟩
instance fd91_0 : FD Tryd.prog 91 0 0 := fd_mk (ft := 31) Tryd.underlying91 rfl
instance fa91_1 : FA Tryd.prog 91 1 1 := ⟨fun _ _ => by kernel_rfl⟩
instance fd91_1 : FD Tryd.prog 91 1 1 := fd_mk (ft := 31) Tryd.underlying91 rfl
instance fa91_2 : FA Tryd.prog 91 2 2 := ⟨fun _ _ => by kernel_rfl⟩
instance fd91_2 : FD Tryd.prog 91 2 2 := fd_mk (ft := 31) Tryd.underlying91 rfl
instance bl91 : BL Tryd.prog 91 [(0, 1), (1, 1), (2, 1)] [.int .u32 0, .int .u32 0, .int .u32 0] := bl_mk Tryd.underlying91 (fun _ => by kernel_rfl)
instance ti92 : TI Tryd.prog 92 (.agg #[.int .u32 0, .int .u32 0, .int .u32 0]) 3 12 := ⟨by kernel_rfl⟩
instance ia92 : IAgg Tryd.prog 92 3 := ⟨fun _ => ⟨by kernel_rfl, by kernel_rfl⟩⟩
instance fa92_0 : FA Tryd.prog 92 0 0 := ⟨fun _ _ => by kernel_rfl⟩
instance fd92_0 : FD Tryd.prog 92 0 0 := fd_mk (ft := 31) Tryd.underlying92 rfl
instance fa92_1 : FA Tryd.prog 92 1 1 := ⟨fun _ _ => by kernel_rfl⟩
instance fd92_1 : FD Tryd.prog 92 1 1 := fd_mk (ft := 31) Tryd.underlying92 rfl
instance fa92_2 : FA Tryd.prog 92 2 2 := ⟨fun _ _ => by kernel_rfl⟩
instance fd92_2 : FD Tryd.prog 92 2 2 := fd_mk (ft := 31) Tryd.underlying92 rfl
instance bl92 : BL Tryd.prog 92 [(0, 1), (1, 1), (2, 1)] [.int .u32 0, .int .u32 0, .int .u32 0] := bl_mk Tryd.underlying92 (fun _ => by kernel_rfl)
instance ul93 : UL Tryd.prog 93 (.func #[36, 3] #[28] false) := ⟨Tryd.underlying93⟩
instance ti93 : TI Tryd.prog 93 (.nilFunc) 1 8 := ⟨by kernel_rfl⟩
instance na93 : NAgg Tryd.prog 93 := ⟨fun _ => by kernel_rfl⟩
instance ul94 : UL Tryd.prog 94 (.func #[3, 31, 4] #[28] false) := ⟨Tryd.underlying94⟩
instance ti94 : TI Tryd.prog 94 (.nilFunc) 1 8 := ⟨by kernel_rfl⟩
instance na94 : NAgg Tryd.prog 94 := ⟨fun _ => by kernel_rfl⟩
instance ul95 : UL Tryd.prog 95 (.pointer 61) := ⟨Tryd.underlying95⟩
instance ti95 : TI Tryd.prog 95 (.pointer none) 1 8 := ⟨by kernel_rfl⟩
instance na95 : NAgg Tryd.prog 95 := ⟨fun _ => by kernel_rfl⟩
instance ul96 : UL Tryd.prog 96 (.func #[31] #[28] false) := ⟨Tryd.underlying96⟩
instance ti96 : TI Tryd.prog 96 (.nilFunc) 1 8 := ⟨by kernel_rfl⟩
instance na96 : NAgg Tryd.prog 96 := ⟨fun _ => by kernel_rfl⟩
instance ul97 : UL Tryd.prog 97 (.func #[3] #[3] false) := ⟨Tryd.underlying97⟩
instance ti97 : TI Tryd.prog 97 (.nilFunc) 1 8 := ⟨by kernel_rfl⟩
instance na97 : NAgg Tryd.prog 97 := ⟨fun _ => by kernel_rfl⟩
instance ul98 : UL Tryd.prog 98 (.func #[52] #[3] false) := ⟨Tryd.underlying98⟩
instance ti98 : TI Tryd.prog 98 (.nilFunc) 1 8 := ⟨by kernel_rfl⟩
instance na98 : NAgg Tryd.prog 98 := ⟨fun _ => by kernel_rfl⟩
instance ul99 : UL Tryd.prog 99 (.func #[36, 83] #[36] false) := ⟨Tryd.underlying99⟩
instance ti99 : TI Tryd.prog 99 (.nilFunc) 1 8 := ⟨by kernel_rfl⟩
instance na99 : NAgg Tryd.prog 99 := ⟨fun _ => by kernel_rfl⟩
instance ul100 : UL Tryd.prog 100 (.func #[31] #[4] false) := ⟨Tryd.underlying100⟩
instance ti100 : TI Tryd.prog 100 (.nilFunc) 1 8 := ⟨by kernel_rfl⟩
instance na100 : NAgg Tryd.prog 100 := ⟨fun _ => by kernel_rfl⟩
instance ul101 : UL Tryd.prog 101 (.func #[3] #[28] false) := ⟨Tryd.underlying101⟩
instance ti101 : TI Tryd.prog 101 (.nilFunc) 1 8 := ⟨by kernel_rfl⟩
instance na101 : NAgg Tryd.prog 101 := ⟨fun _ => by kernel_rfl⟩
instance ul102 : UL Tryd.prog 102 (.func #[31, 31] #[] false) := ⟨Tryd.underlying102⟩
instance ti102 : TI Tryd.prog 102 (.nilFunc) 1 8 := ⟨by kernel_rfl⟩
instance na102 : NAgg Tryd.prog 102 := ⟨fun _ => by kernel_rfl⟩
instance ul103 : UL Tryd.prog 103 (.array 64 5) := ⟨Tryd.underlying103⟩
instance ti103 : TI Tryd.prog 103 (.agg #[.int .u8 0, .int .u8 0, .int .u8 0, .int .u8 0, .int .u8 0, .int .u8 0, .int .u8 0, .int .u8 0, .int .u8 0, .int .u8 0, .int .u8 0, .int .u8 0, .int .u8 0, .int .u8 0, .int .u8 0, .int .u8 0, .int .u8 0, .int .u8 0, .int .u8 0, .int .u8 0, .int .u8 0, .int .u8 0, .int .u8 0, .int .u8 0, .int .u8 0, .int .u8 0, .int .u8 0, .int .u8 0, .int .u8 0, .int .u8 0, .int .u8 0, .int .u8 0, .int .u8 0, .int .u8 0, .int .u8 0, .int .u8 0, .int .u8 0, .int .u8 0, .int .u8 0, .int .u8 0, .int .u8 0, .int .u8 0, .int .u8 0, .int .u8 0, .int .u8 0, .int .u8 0, .int .u8 0, .int .u8 0, .int .u8 0, .int .u8 0, .int .u8 0, .int .u8 0, .int .u8 0, .int .u8 0, .int .u8 0, .int .u8 0, .int .u8 0, .int .u8 0, .int .u8 0, .int .u8 0, .int .u8 0, .int .u8 0, .int .u8 0, .int .u8 0]) 64 64 := ⟨by kernel_rfl⟩
instance ia103 : IAgg Tryd.prog 103 64 := ⟨fun _ => ⟨by kernel_rfl, by kernel_rfl⟩⟩
instance ul104 : UL Tryd.prog 104 (.int .u64) := ⟨Tryd.underlying104⟩
instance ti104 : TI Tryd.prog 104 (.int .u64 0) 1 8 := ⟨by kernel_rfl⟩
instance na104 : NAgg Tryd.prog 104 := ⟨fun _ => by kernel_rfl⟩
instance ul105 : UL Tryd.prog 105 (.func #[] #[9] false) := ⟨Tryd.underlying105⟩
instance ti105 : TI Tryd.prog 105 (.nilFunc) 1 8 := ⟨by kernel_rfl⟩
instance na105 : NAgg Tryd.prog 105 := ⟨fun _ => by kernel_rfl⟩
instance ul108 : UL Tryd.prog 108 (.array 0 16) := ⟨Tryd.underlying108⟩
instance ti108 : TI Tryd.prog 108 (.agg #[]) 0 0 := ⟨by kernel_rfl⟩
instance ia108 : IAgg Tryd.prog 108 0 := ⟨fun _ => ⟨by kernel_rfl, by kernel_rfl⟩⟩
instance ul113 : UL Tryd.prog 113 (.func #[119, 119] #[4] false) := ⟨Tryd.underlying113⟩
instance ti113 : TI Tryd.prog 113 (.nilFunc) 1 8 := ⟨by kernel_rfl⟩
instance na113 : NAgg Tryd.prog 113 := ⟨fun _ => by kernel_rfl⟩
instance ul114 : UL Tryd.prog 114 (.pointer 5) := ⟨Tryd.underlying114⟩
instance ti114 : TI Tryd.prog 114 (.pointer none) 1 8 := ⟨by kernel_rfl⟩
instance na114 : NAgg Tryd.prog 114 := ⟨fun _ => by kernel_rfl⟩
instance ti119 : TI Tryd.prog 119 (.pointer none) 1 8 := ⟨by kernel_rfl⟩
instance na119 : NAgg Tryd.prog 119 := ⟨fun _ => by kernel_rfl⟩
instance cf3 : CF Tryd.prog 3 := ⟨fun _ _ => by kernel_rfl⟩
instance cf4 : CF Tryd.prog 4 := ⟨fun _ _ => by kernel_rfl⟩
instance cf5 : CF Tryd.prog 5 := ⟨fun _ _ => by kernel_rfl⟩
instance cf6 : CF Tryd.prog 6 := ⟨fun _ _ => by kernel_rfl⟩
instance cf7 : CF Tryd.prog 7 := ⟨fun _ _ => by kernel_rfl⟩
instance cf8 : CF Tryd.prog 8 := ⟨fun _ _ => by kernel_rfl⟩
instance cf9 : CF Tryd.prog 9 := ⟨fun _ _ => by kernel_rfl⟩
instance cf10 : CF Tryd.prog 10 := ⟨fun _ _ => by kernel_rfl⟩
instance cf11 : CF Tryd.prog 11 := ⟨fun _ _ => by kernel_rfl⟩
instance cf12 : CF Tryd.prog 12 := ⟨fun _ _ => by kernel_rfl⟩
instance cf13 : CF Tryd.prog 13 := ⟨fun _ _ => by kernel_rfl⟩
instance cf14 : CF Tryd.prog 14 := ⟨fun _ _ => by kernel_rfl⟩
instance cf15 : CF Tryd.prog 15 := ⟨fun _ _ => by kernel_rfl⟩
instance cf16 : CF Tryd.prog 16 := ⟨fun _ _ => by kernel_rfl⟩
instance cf17 : CF Tryd.prog 17 := ⟨fun _ _ => by kernel_rfl⟩
instance cf18 : CF Tryd.prog 18 := ⟨fun _ _ => by kernel_rfl⟩
instance cf19 : CF Tryd.prog 19 := ⟨fun _ _ => by kernel_rfl⟩
instance cf20 : CF Tryd.prog 20 := ⟨fun _ _ => by kernel_rfl⟩
instance cf21 : CF Tryd.prog 21 := ⟨fun _ _ => by kernel_rfl⟩
instance cf22 : CF Tryd.prog 22 := ⟨fun _ _ => by kernel_rfl⟩
instance cf23 : CF Tryd.prog 23 := ⟨fun _ _ => by kernel_rfl⟩
instance cf24 : CF Tryd.prog 24 := ⟨fun _ _ => by kernel_rfl⟩
instance cf25 : CF Tryd.prog 25 := ⟨fun _ _ => by kernel_rfl⟩
instance cf26 : CF Tryd.prog 26 := ⟨fun _ _ => by kernel_rfl⟩
instance cf27 : CF Tryd.prog 27 := ⟨fun _ _ => by kernel_rfl⟩
instance cf28 : CF Tryd.prog 28 := ⟨fun _ _ => by kernel_rfl⟩
instance cf29 : CF Tryd.prog 29 := ⟨fun _ _ => by kernel_rfl⟩
instance cf30 : CF Tryd.prog 30 := ⟨fun _ _ => by kernel_rfl⟩
instance cf31 : CF Tryd.prog 31 := ⟨fun _ _ => by kernel_rfl⟩
instance cf32 : CF Tryd.prog 32 := ⟨fun _ _ => by kernel_rfl⟩
instance cf33 : CF Tryd.prog 33 := ⟨fun _ _ => by kernel_rfl⟩
instance cf34 : CF Tryd.prog 34 := ⟨fun _ _ => by kernel_rfl⟩
instance cf35 : CF Tryd.prog 35 := ⟨fun _ _ => by kernel_rfl⟩
instance cf36 : CF Tryd.prog 36 := ⟨fun _ _ => by kernel_rfl⟩
instance cf37 : CF Tryd.prog 37 := ⟨fun _ _ => by kernel_rfl⟩
instance cf38 : CF Tryd.prog 38 := ⟨fun _ _ => by kernel_rfl⟩
instance cf39 : CF Tryd.prog 39 := ⟨fun _ _ => by kernel_rfl⟩
instance cf40 : CF Tryd.prog 40 := ⟨fun _ _ => by kernel_rfl⟩
instance cf41 : CF Tryd.prog 41 := ⟨fun _ _ => by kernel_rfl⟩
instance cf42 : CF Tryd.prog 42 := ⟨fun _ _ => by kernel_rfl⟩
instance cf43 : CF Tryd.prog 43 := ⟨fun _ _ => by kernel_rfl⟩
instance cf44 : CF Tryd.prog 44 := ⟨fun _ _ => by kernel_rfl⟩
instance cf45 : CF Tryd.prog 45 := ⟨fun _ _ => by kernel_rfl⟩
instance cf46 : CF Tryd.prog 46 := ⟨fun _ _ => by kernel_rfl⟩
instance cf47 : CF Tryd.prog 47 := ⟨fun _ _ => by kernel_rfl⟩
instance cf48 : CF Tryd.prog 48 := ⟨fun _ _ => by kernel_rfl⟩
instance cf49 : CF Tryd.prog 49 := ⟨fun _ _ => by kernel_rfl⟩
instance cf50 : CF Tryd.prog 50 := ⟨fun _ _ => by kernel_rfl⟩
instance cf51 : CF Tryd.prog 51 := ⟨fun _ _ => by kernel_rfl⟩
instance cf52 : CF Tryd.prog 52 := ⟨fun _ _ => by kernel_rfl⟩
instance cf53 : CF Tryd.prog 53 := ⟨fun _ _ => by kernel_rfl⟩
instance cf54 : CF Tryd.prog 54 := ⟨fun _ _ => by kernel_rfl⟩
instance cf55 : CF Tryd.prog 55 := ⟨fun _ _ => by kernel_rfl⟩
instance cf56 : CF Tryd.prog 56 := ⟨fun _ _ => by kernel_rfl⟩
instance cf57 : CF Tryd.prog 57 := ⟨fun _ _ => by kernel_rfl⟩
instance cf58 : CF Tryd.prog 58 := ⟨fun _ _ => by kernel_rfl⟩
instance cf59 : CF Tryd.prog 59 := ⟨fun _ _ => by kernel_rfl⟩
instance cf60 : CF Tryd.prog 60 := ⟨fun _ _ => by kernel_rfl⟩
instance cf61 : CF Tryd.prog 61 := ⟨fun _ _ => by kernel_rfl⟩
instance cf82 : CF Tryd.prog 82 := ⟨fun _ _ => by kernel_rfl⟩
end Go.Proofs.YtmiblmoppdgnjaaDoor
