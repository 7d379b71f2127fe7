/- What the program says of its types and functions. -/
import Derived.Test.YtdpiglociolagaaGreatSlM
import Derived.Test.YtdpiglociolagaaGreatRows
namespace Go.Proofs.YtdpiglociolagaaGreat
open Go.Sl
instance ul1 : UL Tryz.prog 1 (.func #[] #[] false) := ⟨Tryz.underlying1⟩
instance ti1 : TI Tryz.prog 1 (.nilFunc) 1 8 := ⟨by kernel_rfl⟩
instance na1 : NAgg Tryz.prog 1 := ⟨fun _ => by kernel_rfl⟩
instance ul2 : UL Tryz.prog 2 (.int .i64) := ⟨Tryz.underlying2⟩
instance ti2 : TI Tryz.prog 2 (.int .i64 0) 1 8 := ⟨by kernel_rfl⟩
instance na2 : NAgg Tryz.prog 2 := ⟨fun _ => by kernel_rfl⟩
instance ul3 : UL Tryz.prog 3 (.int .i64) := ⟨Tryz.underlying3⟩
instance ti3 : TI Tryz.prog 3 (.int .i64 0) 1 8 := ⟨by kernel_rfl⟩
instance na3 : NAgg Tryz.prog 3 := ⟨fun _ => by kernel_rfl⟩
instance ul4 : UL Tryz.prog 4 (.bool) := ⟨Tryz.underlying4⟩
instance ti4 : TI Tryz.prog 4 (.bool false) 1 1 := ⟨by kernel_rfl⟩
instance na4 : NAgg Tryz.prog 4 := ⟨fun _ => by kernel_rfl⟩
instance ul5 : UL Tryz.prog 5 (.int .u8) := ⟨Tryz.underlying5⟩
instance ti5 : TI Tryz.prog 5 (.int .u8 0) 1 1 := ⟨by kernel_rfl⟩
instance na5 : NAgg Tryz.prog 5 := ⟨fun _ => by kernel_rfl⟩
instance ul9 : UL Tryz.prog 9 (.string) := ⟨Tryz.underlying9⟩
instance ti9 : TI Tryz.prog 9 (.string ByteArray.empty) 1 16 := ⟨by kernel_rfl⟩
instance na9 : NAgg Tryz.prog 9 := ⟨fun _ => by kernel_rfl⟩
instance ul12 : UL Tryz.prog 12 (.int .u64) := ⟨Tryz.underlying12⟩
instance ti12 : TI Tryz.prog 12 (.int .u64 0) 1 8 := ⟨by kernel_rfl⟩
instance na12 : NAgg Tryz.prog 12 := ⟨fun _ => by kernel_rfl⟩
instance ti20 : TI Tryz.prog 20 (.nilIface) 1 16 := ⟨by kernel_rfl⟩
instance na20 : NAgg Tryz.prog 20 := ⟨fun _ => by kernel_rfl⟩
instance ul21 : UL Tryz.prog 21 (.int .i32) := ⟨Tryz.underlying21⟩
instance ti21 : TI Tryz.prog 21 (.int .i32 0) 1 4 := ⟨by kernel_rfl⟩
instance na21 : NAgg Tryz.prog 21 := ⟨fun _ => by kernel_rfl⟩
instance ul22 : UL Tryz.prog 22 (.int .u64) := ⟨Tryz.underlying22⟩
instance ti22 : TI Tryz.prog 22 (.int .u64 0) 1 8 := ⟨by kernel_rfl⟩
instance na22 : NAgg Tryz.prog 22 := ⟨fun _ => by kernel_rfl⟩
instance ti23 : TI Tryz.prog 23 (.agg #[.int .i64 0, .int .i64 0, .int .i64 0, .int .u64 0]) 4 32 := ⟨by kernel_rfl⟩
instance ia23 : IAgg Tryz.prog 23 4 := ⟨fun _ => ⟨by kernel_rfl, by kernel_rfl⟩⟩
instance fa23_0 : FA Tryz.prog 23 0 0 := ⟨fun _ _ => by kernel_rfl⟩
instance fd23_0 : FD Tryz.prog 23 0 0 := fd_mk (ft := 3) Tryz.underlying23 rfl
instance fa23_1 : FA Tryz.prog 23 1 1 := ⟨fun _ _ => by kernel_rfl⟩
instance fd23_1 : FD Tryz.prog 23 1 1 := fd_mk (ft := 3) Tryz.underlying23 rfl
instance fa23_2 : FA Tryz.prog 23 2 2 := ⟨fun _ _ => by kernel_rfl⟩
instance fd23_2 : FD Tryz.prog 23 2 2 := fd_mk (ft := 3) Tryz.underlying23 rfl
instance fa23_3 : FA Tryz.prog 23 3 3 := ⟨fun _ _ => by kernel_rfl⟩
instance fd23_3 : FD Tryz.prog 23 3 3 := fd_mk (ft := 22) Tryz.underlying23 rfl
instance bl23 : BL Tryz.prog 23 [(0, 1), (1, 1), (2, 1), (3, 1)] [.int .i64 0, .int .i64 0, .int .i64 0, .int .u64 0] := bl_mk Tryz.underlying23 (fun _ => by kernel_rfl)
instance ti24 : TI Tryz.prog 24 (.agg #[.int .i64 0, .int .i64 0, .int .i64 0, .int .u64 0]) 4 32 := ⟨by kernel_rfl⟩
instance ia24 : IAgg Tryz.prog 24 4 := ⟨fun _ => ⟨by kernel_rfl, by kernel_rfl⟩⟩
instance fa24_0 : FA Tryz.prog 24 0 0 := ⟨fun _ _ => by kernel_rfl⟩
instance fd24_0 : FD Tryz.prog 24 0 0 := fd_mk (ft := 3) Tryz.underlying24 rfl
instance fa24_1 : FA Tryz.prog 24 1 1 := ⟨fun _ _ => by kernel_rfl⟩
instance fd24_1 : FD Tryz.prog 24 1 1 := fd_mk (ft := 3) Tryz.underlying24 rfl
instance fa24_2 : FA Tryz.prog 24 2 2 := ⟨fun _ _ => by kernel_rfl⟩
instance fd24_2 : FD Tryz.prog 24 2 2 := fd_mk (ft := 3) Tryz.underlying24 rfl
instance fa24_3 : FA Tryz.prog 24 3 3 := ⟨fun _ _ => by kernel_rfl⟩
instance fd24_3 : FD Tryz.prog 24 3 3 := fd_mk (ft := 22) Tryz.underlying24 rfl
instance bl24 : BL Tryz.prog 24 [(0, 1), (1, 1), (2, 1), (3, 1)] [.int .i64 0, .int .i64 0, .int .i64 0, .int .u64 0] := bl_mk Tryz.underlying24 (fun _ => by kernel_rfl)
instance ul25 : UL Tryz.prog 25 (.slice 43) := ⟨Tryz.underlying25⟩
instance ti25 : TI Tryz.prog 25 (.slice none 0 0) 1 24 := ⟨by kernel_rfl⟩
instance na25 : NAgg Tryz.prog 25 := ⟨fun _ => by kernel_rfl⟩
instance ul26 : UL Tryz.prog 26 (.pointer 76) := ⟨Tryz.underlying26⟩
instance ti26 : TI Tryz.prog 26 (.pointer none) 1 8 := ⟨by kernel_rfl⟩
instance na26 : NAgg Tryz.prog 26 := ⟨fun _ => by kernel_rfl⟩
instance ul27 : UL Tryz.prog 27 (.slice 41) := ⟨Tryz.underlying27⟩
instance ti27 : TI Tryz.prog 27 (.slice none 0 0) 1 24 := ⟨by kernel_rfl⟩
instance na27 : NAgg Tryz.prog 27 := ⟨fun _ => by kernel_rfl⟩
instance ul28 : UL Tryz.prog 28 (.slice 3) := ⟨Tryz.underlying28⟩
instance ti28 : TI Tryz.prog 28 (.slice none 0 0) 1 24 := ⟨by kernel_rfl⟩
instance na28 : NAgg Tryz.prog 28 := ⟨fun _ => by kernel_rfl⟩
instance ul29 : UL Tryz.prog 29 (.array 4 28) := ⟨Tryz.underlying29⟩
instance ti29 : TI Tryz.prog 29 (.agg #[.slice none 0 0, .slice none 0 0, .slice none 0 0, .slice none 0 0]) 4 96 := ⟨by kernel_rfl⟩
instance ia29 : IAgg Tryz.prog 29 4 := ⟨fun _ => ⟨by kernel_rfl, by kernel_rfl⟩⟩
instance ti30 : TI Tryz.prog 30 (.agg #[.int .i64 0, .int .i64 0, .int .i64 0, .int .u64 0, .slice none 0 0, .slice none 0 0, .slice none 0 0, .slice none 0 0]) 8 128 := ⟨by kernel_rfl⟩
instance ia30 : IAgg Tryz.prog 30 8 := ⟨fun _ => ⟨by kernel_rfl, by kernel_rfl⟩⟩
instance fa30_0 : FA Tryz.prog 30 0 0 := ⟨fun _ _ => by kernel_rfl⟩
instance fd30_0 : FD Tryz.prog 30 0 0 := fd_mk (ft := 3) Tryz.underlying30 rfl
instance fa30_1 : FA Tryz.prog 30 1 1 := ⟨fun _ _ => by kernel_rfl⟩
instance fd30_1 : FD Tryz.prog 30 1 1 := fd_mk (ft := 3) Tryz.underlying30 rfl
instance fa30_2 : FA Tryz.prog 30 2 2 := ⟨fun _ _ => by kernel_rfl⟩
instance fd30_2 : FD Tryz.prog 30 2 2 := fd_mk (ft := 3) Tryz.underlying30 rfl
instance fa30_3 : FA Tryz.prog 30 3 3 := ⟨fun _ _ => by kernel_rfl⟩
instance fd30_3 : FD Tryz.prog 30 3 3 := fd_mk (ft := 22) Tryz.underlying30 rfl
instance fa30_4 : FA Tryz.prog 30 4 4 := ⟨fun _ _ => by kernel_rfl⟩
instance bl30 : BL Tryz.prog 30 [(0, 1), (1, 1), (2, 1), (3, 1), (4, 4)] [.int .i64 0, .int .i64 0, .int .i64 0, .int .u64 0, .slice none 0 0, .slice none 0 0, .slice none 0 0, .slice none 0 0] := bl_mk Tryz.underlying30 (fun _ => by kernel_rfl)
instance ti31 : TI Tryz.prog 31 (.agg #[.int .i64 0, .int .i64 0, .int .i64 0, .int .u64 0, .slice none 0 0, .slice none 0 0, .slice none 0 0, .slice none 0 0]) 8 128 := ⟨by kernel_rfl⟩
instance ia31 : IAgg Tryz.prog 31 8 := ⟨fun _ => ⟨by kernel_rfl, by kernel_rfl⟩⟩
instance fa31_0 : FA Tryz.prog 31 0 0 := ⟨fun _ _ => by kernel_rfl⟩
instance fd31_0 : FD Tryz.prog 31 0 0 := fd_mk (ft := 3) Tryz.underlying31 rfl
instance fa31_1 : FA Tryz.prog 31 1 1 := ⟨fun _ _ => by kernel_rfl⟩
instance fd31_1 : FD Tryz.prog 31 1 1 := fd_mk (ft := 3) Tryz.underlying31 rfl
instance fa31_2 : FA Tryz.prog 31 2 2 := ⟨fun _ _ => by kernel_rfl⟩
instance fd31_2 : FD Tryz.prog 31 2 2 := fd_mk (ft := 3) Tryz.underlying31 rfl
instance fa31_3 : FA Tryz.prog 31 3 3 := ⟨fun _ _ => by kernel_rfl⟩
instance fd31_3 : FD Tryz.prog 31 3 3 := fd_mk (ft := 22) Tryz.underlying31 rfl
instance fa31_4 : FA Tryz.prog 31 4 4 := ⟨fun _ _ => by kernel_rfl⟩
instance bl31 : BL Tryz.prog 31 [(0, 1), (1, 1), (2, 1), (3, 1), (4, 4)] [.int .i64 0, .int .i64 0, .int .i64 0, .int .u64 0, .slice none 0 0, .slice none 0 0, .slice none 0 0, .slice none 0 0] := bl_mk Tryz.underlying31 (fun _ => by kernel_rfl)
instance ul32 : UL Tryz.prog 32 (.slice 4) := ⟨Tryz.underlying32⟩
instance ti32 : TI Tryz.prog 32 (.slice none 0 0) 1 24 := ⟨by kernel_rfl⟩
instance na32 : NAgg Tryz.prog 32 := ⟨fun _ => by kernel_rfl⟩
instance ti33 : TI Tryz.prog 33 (.agg #[.int .i64 0, .int .u64 0, .slice none 0 0]) 3 40 := ⟨by kernel_rfl⟩
instance ia33 : IAgg Tryz.prog 33 3 := ⟨fun _ => ⟨by kernel_rfl, by kernel_rfl⟩⟩
instance fa33_0 : FA Tryz.prog 33 0 0 := ⟨fun _ _ => by kernel_rfl⟩
instance fd33_0 : FD Tryz.prog 33 0 0 := fd_mk (ft := 3) Tryz.underlying33 rfl
instance fa33_1 : FA Tryz.prog 33 1 1 := ⟨fun _ _ => by kernel_rfl⟩
instance fd33_1 : FD Tryz.prog 33 1 1 := fd_mk (ft := 22) Tryz.underlying33 rfl
instance fa33_2 : FA Tryz.prog 33 2 2 := ⟨fun _ _ => by kernel_rfl⟩
instance fd33_2 : FD Tryz.prog 33 2 2 := fd_mk (ft := 32) Tryz.underlying33 rfl
instance bl33 : BL Tryz.prog 33 [(0, 1), (1, 1), (2, 1)] [.int .i64 0, .int .u64 0, .slice none 0 0] := bl_mk Tryz.underlying33 (fun _ => by kernel_rfl)
instance ti34 : TI Tryz.prog 34 (.agg #[.int .i64 0, .int .u64 0, .slice none 0 0]) 3 40 := ⟨by kernel_rfl⟩
instance ia34 : IAgg Tryz.prog 34 3 := ⟨fun _ => ⟨by kernel_rfl, by kernel_rfl⟩⟩
instance fa34_0 : FA Tryz.prog 34 0 0 := ⟨fun _ _ => by kernel_rfl⟩
instance fd34_0 : FD Tryz.prog 34 0 0 := fd_mk (ft := 3) Tryz.underlying34 rfl
instance fa34_1 : FA Tryz.prog 34 1 1 := ⟨fun _ _ => by kernel_rfl⟩
instance fd34_1 : FD Tryz.prog 34 1 1 := fd_mk (ft := 22) Tryz.underlying34 rfl
instance fa34_2 : FA Tryz.prog 34 2 2 := ⟨fun _ _ => by kernel_rfl⟩
instance fd34_2 : FD Tryz.prog 34 2 2 := fd_mk (ft := 32) Tryz.underlying34 rfl
instance bl34 : BL Tryz.prog 34 [(0, 1), (1, 1), (2, 1)] [.int .i64 0, .int .u64 0, .slice none 0 0] := bl_mk Tryz.underlying34 (fun _ => by kernel_rfl)
instance ti35 : TI Tryz.prog 35 (.agg #[.int .i64 0, .int .i64 0, .int .i64 0, .int .i64 0, .slice none 0 0, .slice none 0 0, .slice none 0 0, .int .i64 0, .int .i64 0, .int .i64 0, .int .u64 0, .slice none 0 0, .slice none 0 0, .slice none 0 0, .slice none 0 0, .int .i64 0, .int .u64 0, .slice none 0 0, .int .i64 0, .int .u64 0, .slice none 0 0]) 21 312 := ⟨by kernel_rfl⟩
instance ia35 : IAgg Tryz.prog 35 21 := ⟨fun _ => ⟨by kernel_rfl, by kernel_rfl⟩⟩
instance fa35_0 : FA Tryz.prog 35 0 0 := ⟨fun _ _ => by kernel_rfl⟩
instance fd35_0 : FD Tryz.prog 35 0 0 := fd_mk (ft := 3) Tryz.underlying35 rfl
instance fa35_1 : FA Tryz.prog 35 1 1 := ⟨fun _ _ => by kernel_rfl⟩
instance fd35_1 : FD Tryz.prog 35 1 1 := fd_mk (ft := 3) Tryz.underlying35 rfl
instance fa35_2 : FA Tryz.prog 35 2 2 := ⟨fun _ _ => by kernel_rfl⟩
instance fd35_2 : FD Tryz.prog 35 2 2 := fd_mk (ft := 3) Tryz.underlying35 rfl
instance fa35_3 : FA Tryz.prog 35 3 3 := ⟨fun _ _ => by kernel_rfl⟩
instance fd35_3 : FD Tryz.prog 35 3 3 := fd_mk (ft := 3) Tryz.underlying35 rfl
instance fa35_4 : FA Tryz.prog 35 4 4 := ⟨fun _ _ => by kernel_rfl⟩
instance fd35_4 : FD Tryz.prog 35 4 4 := fd_mk (ft := 27) Tryz.underlying35 rfl
instance fa35_5 : FA Tryz.prog 35 5 5 := ⟨fun _ _ => by kernel_rfl⟩
instance fd35_5 : FD Tryz.prog 35 5 5 := fd_mk (ft := 27) Tryz.underlying35 rfl
instance fa35_6 : FA Tryz.prog 35 6 6 := ⟨fun _ _ => by kernel_rfl⟩
instance fd35_6 : FD Tryz.prog 35 6 6 := fd_mk (ft := 27) Tryz.underlying35 rfl
instance fa35_7 : FA Tryz.prog 35 7 7 := ⟨fun _ _ => by kernel_rfl⟩
instance fa35_8 : FA Tryz.prog 35 8 15 := ⟨fun _ _ => by kernel_rfl⟩
instance fa35_9 : FA Tryz.prog 35 9 18 := ⟨fun _ _ => by kernel_rfl⟩
instance bl35 : BL Tryz.prog 35 [(0, 1), (1, 1), (2, 1), (3, 1), (4, 1), (5, 1), (6, 1), (7, 8), (15, 3), (18, 3)] [.int .i64 0, .int .i64 0, .int .i64 0, .int .i64 0, .slice none 0 0, .slice none 0 0, .slice none 0 0, .int .i64 0, .int .i64 0, .int .i64 0, .int .u64 0, .slice none 0 0, .slice none 0 0, .slice none 0 0, .slice none 0 0, .int .i64 0, .int .u64 0, .slice none 0 0, .int .i64 0, .int .u64 0, .slice none 0 0] := bl_mk Tryz.underlying35 (fun _ => by kernel_rfl)
instance ti36 : TI Tryz.prog 36 (.agg #[.int .i64 0, .int .i64 0, .int .i64 0, .int .i64 0, .slice none 0 0, .slice none 0 0, .slice none 0 0, .int .i64 0, .int .i64 0, .int .i64 0, .int .u64 0, .slice none 0 0, .slice none 0 0, .slice none 0 0, .slice none 0 0, .int .i64 0, .int .u64 0, .slice none 0 0, .int .i64 0, .int .u64 0, .slice none 0 0]) 21 312 := ⟨by kernel_rfl⟩
instance ia36 : IAgg Tryz.prog 36 21 := ⟨fun _ => ⟨by kernel_rfl, by kernel_rfl⟩⟩
instance fa36_0 : FA Tryz.prog 36 0 0 := ⟨fun _ _ => by kernel_rfl⟩
instance fd36_0 : FD Tryz.prog 36 0 0 := fd_mk (ft := 3) Tryz.underlying36 rfl
instance fa36_1 : FA Tryz.prog 36 1 1 := ⟨fun _ _ => by kernel_rfl⟩
instance fd36_1 : FD Tryz.prog 36 1 1 := fd_mk (ft := 3) Tryz.underlying36 rfl
instance fa36_2 : FA Tryz.prog 36 2 2 := ⟨fun _ _ => by kernel_rfl⟩
instance fd36_2 : FD Tryz.prog 36 2 2 := fd_mk (ft := 3) Tryz.underlying36 rfl
instance fa36_3 : FA Tryz.prog 36 3 3 := ⟨fun _ _ => by kernel_rfl⟩
instance fd36_3 : FD Tryz.prog 36 3 3 := fd_mk (ft := 3) Tryz.underlying36 rfl
instance fa36_4 : FA Tryz.prog 36 4 4 := ⟨fun _ _ => by kernel_rfl⟩
instance fd36_4 : FD Tryz.prog 36 4 4 := fd_mk (ft := 27) Tryz.underlying36 rfl
instance fa36_5 : FA Tryz.prog 36 5 5 := ⟨fun _ _ => by kernel_rfl⟩
instance fd36_5 : FD Tryz.prog 36 5 5 := fd_mk (ft := 27) Tryz.underlying36 rfl
instance fa36_6 : FA Tryz.prog 36 6 6 := ⟨fun _ _ => by kernel_rfl⟩
instance fd36_6 : FD Tryz.prog 36 6 6 := fd_mk (ft := 27) Tryz.underlying36 rfl
instance fa36_7 : FA Tryz.prog 36 7 7 := ⟨fun _ _ => by kernel_rfl⟩
instance fa36_8 : FA Tryz.prog 36 8 15 := ⟨fun _ _ => by kernel_rfl⟩
instance fa36_9 : FA Tryz.prog 36 9 18 := ⟨fun _ _ => by kernel_rfl⟩
instance bl36 : BL Tryz.prog 36 [(0, 1), (1, 1), (2, 1), (3, 1), (4, 1), (5, 1), (6, 1), (7, 8), (15, 3), (18, 3)] [.int .i64 0, .int .i64 0, .int .i64 0, .int .i64 0, .slice none 0 0, .slice none 0 0, .slice none 0 0, .int .i64 0, .int .i64 0, .int .i64 0, .int .u64 0, .slice none 0 0, .slice none 0 0, .slice none 0 0, .slice none 0 0, .int .i64 0, .int .u64 0, .slice none 0 0, .int .i64 0, .int .u64 0, .slice none 0 0] := bl_mk Tryz.underlying36 (fun _ => by kernel_rfl)
instance ul38 : UL Tryz.prog 38 (.func #[24] #[26, 36, 4] false) := ⟨Tryz.underlying38⟩
instance ti38 : TI Tryz.prog 38 (.nilFunc) 1 8 := ⟨by kernel_rfl⟩
instance na38 : NAgg Tryz.prog 38 := ⟨fun _ => by kernel_rfl⟩
instance ul39 : UL Tryz.prog 39 (.func #[] #[4] false) := ⟨Tryz.underlying39⟩
instance ti39 : TI Tryz.prog 39 (.nilFunc) 1 8 := ⟨by kernel_rfl⟩
instance na39 : NAgg Tryz.prog 39 := ⟨fun _ => by kernel_rfl⟩
instance mt40 : MTyA Tryz.prog 40 Bool .u32 (fun b : Bool => .bool b) := ⟨trivial⟩
instance ul40 : UL Tryz.prog 40 (.map 41 4) := ⟨Tryz.underlying40⟩
instance ti40 : TI Tryz.prog 40 (.map none) 1 8 := ⟨by kernel_rfl⟩
instance na40 : NAgg Tryz.prog 40 := ⟨fun _ => by kernel_rfl⟩
instance ul41 : UL Tryz.prog 41 (.int .u32) := ⟨Tryz.underlying41⟩
instance ti41 : TI Tryz.prog 41 (.int .u32 0) 1 4 := ⟨by kernel_rfl⟩
instance na41 : NAgg Tryz.prog 41 := ⟨fun _ => by kernel_rfl⟩
instance ti42 : TI Tryz.prog 42 (.agg #[.int .i64 0, .int .u32 0]) 2 16 := ⟨by kernel_rfl⟩
instance ia42 : IAgg Tryz.prog 42 2 := ⟨fun _ => ⟨by kernel_rfl, by kernel_rfl⟩⟩
instance fa42_0 : FA Tryz.prog 42 0 0 := ⟨fun _ _ => by kernel_rfl⟩
instance fd42_0 : FD Tryz.prog 42 0 0 := fd_mk (ft := 3) Tryz.underlying42 rfl
instance fa42_1 : FA Tryz.prog 42 1 1 := ⟨fun _ _ => by kernel_rfl⟩
instance fd42_1 : FD Tryz.prog 42 1 1 := fd_mk (ft := 41) Tryz.underlying42 rfl
instance bl42 : BL Tryz.prog 42 [(0, 1), (1, 1)] [.int .i64 0, .int .u32 0] := bl_mk Tryz.underlying42 (fun _ => by kernel_rfl)
instance ti43 : TI Tryz.prog 43 (.agg #[.int .i64 0, .int .u32 0]) 2 16 := ⟨by kernel_rfl⟩
instance ia43 : IAgg Tryz.prog 43 2 := ⟨fun _ => ⟨by kernel_rfl, by kernel_rfl⟩⟩
instance fa43_0 : FA Tryz.prog 43 0 0 := ⟨fun _ _ => by kernel_rfl⟩
instance fd43_0 : FD Tryz.prog 43 0 0 := fd_mk (ft := 3) Tryz.underlying43 rfl
instance fa43_1 : FA Tryz.prog 43 1 1 := ⟨fun _ _ => by kernel_rfl⟩
instance fd43_1 : FD Tryz.prog 43 1 1 := fd_mk (ft := 41) Tryz.underlying43 rfl
instance bl43 : BL Tryz.prog 43 [(0, 1), (1, 1)] [.int .i64 0, .int .u32 0] := bl_mk Tryz.underlying43 (fun _ => by kernel_rfl)
instance ul45 : UL Tryz.prog 45 (.func #[] #[27, 27, 27] false) := ⟨Tryz.underlying45⟩
instance ti45 : TI Tryz.prog 45 (.nilFunc) 1 8 := ⟨by kernel_rfl⟩
instance na45 : NAgg Tryz.prog 45 := ⟨fun _ => by kernel_rfl⟩
instance ti46 : TI Tryz.prog 46 (.agg #[.bool false, .bool false, .int .u32 0]) 3 8 := ⟨by kernel_rfl⟩
instance ia46 : IAgg Tryz.prog 46 3 := ⟨fun _ => ⟨by kernel_rfl, by kernel_rfl⟩⟩
instance fa46_0 : FA Tryz.prog 46 0 0 := ⟨fun _ _ => by kernel_rfl⟩
instance fd46_0 : FD Tryz.prog 46 0 0 := fd_mk (ft := 4) Tryz.underlying46 rfl
instance fa46_1 : FA Tryz.prog 46 1 1 := ⟨fun _ _ => by kernel_rfl⟩
instance fd46_1 : FD Tryz.prog 46 1 1 := fd_mk (ft := 4) Tryz.underlying46 rfl
instance fa46_2 : FA Tryz.prog 46 2 2 := ⟨fun _ _ => by kernel_rfl⟩
instance fd46_2 : FD Tryz.prog 46 2 2 := fd_mk (ft := 41) Tryz.underlying46 rfl
instance bl46 : BL Tryz.prog 46 [(0, 1), (1, 1), (2, 1)] [.bool false, .bool false, .int .u32 0] := bl_mk Tryz.underlying46 (fun _ => by kernel_rfl)
instance ti47 : TI Tryz.prog 47 (.agg #[.bool false, .bool false, .int .u32 0]) 3 8 := ⟨by kernel_rfl⟩
instance ia47 : IAgg Tryz.prog 47 3 := ⟨fun _ => ⟨by kernel_rfl, by kernel_rfl⟩⟩
instance fa47_0 : FA Tryz.prog 47 0 0 := ⟨fun _ _ => by kernel_rfl⟩
instance fd47_0 : FD Tryz.prog 47 0 0 := fd_mk (ft := 4) Tryz.underlying47 rfl
instance fa47_1 : FA Tryz.prog 47 1 1 := ⟨fun _ _ => by kernel_rfl⟩
instance fd47_1 : FD Tryz.prog 47 1 1 := fd_mk (ft := 4) Tryz.underlying47 rfl
instance fa47_2 : FA Tryz.prog 47 2 2 := ⟨fun _ _ => by kernel_rfl⟩
instance fd47_2 : FD Tryz.prog 47 2 2 := fd_mk (ft := 41) Tryz.underlying47 rfl
instance bl47 : BL Tryz.prog 47 [(0, 1), (1, 1), (2, 1)] [.bool false, .bool false, .int .u32 0] := bl_mk Tryz.underlying47 (fun _ => by kernel_rfl)
instance ul48 : UL Tryz.prog 48 (.int .i64) := ⟨Tryz.underlying48⟩
instance ti48 : TI Tryz.prog 48 (.int .i64 0) 1 8 := ⟨by kernel_rfl⟩
instance na48 : NAgg Tryz.prog 48 := ⟨fun _ => by kernel_rfl⟩
instance ul50 : UL Tryz.prog 50 (.func #[41] #[47, 48] false) := ⟨Tryz.underlying50⟩
instance ti50 : TI Tryz.prog 50 (.nilFunc) 1 8 := ⟨by kernel_rfl⟩
instance na50 : NAgg Tryz.prog 50 := ⟨fun _ => by kernel_rfl⟩
instance ul51 : UL Tryz.prog 51 (.func #[41] #[3] false) := ⟨Tryz.underlying51⟩
instance ti51 : TI Tryz.prog 51 (.nilFunc) 1 8 := ⟨by kernel_rfl⟩
instance na51 : NAgg Tryz.prog 51 := ⟨fun _ => by kernel_rfl⟩
instance ul52 : UL Tryz.prog 52 (.func #[41] #[4] false) := ⟨Tryz.underlying52⟩
instance ti52 : TI Tryz.prog 52 (.nilFunc) 1 8 := ⟨by kernel_rfl⟩
instance na52 : NAgg Tryz.prog 52 := ⟨fun _ => by kernel_rfl⟩
instance ul54 : UL Tryz.prog 54 (.func #[41] #[4, 48] false) := ⟨Tryz.underlying54⟩
instance ti54 : TI Tryz.prog 54 (.nilFunc) 1 8 := ⟨by kernel_rfl⟩
instance na54 : NAgg Tryz.prog 54 := ⟨fun _ => by kernel_rfl⟩
instance ul55 : UL Tryz.prog 55 (.func #[] #[3] false) := ⟨Tryz.underlying55⟩
instance ti55 : TI Tryz.prog 55 (.nilFunc) 1 8 := ⟨by kernel_rfl⟩
instance na55 : NAgg Tryz.prog 55 := ⟨fun _ => by kernel_rfl⟩
instance mt56 : MTyA Tryz.prog 56 Int .u32 (fun z : Int => .int .i64 z) := ⟨trivial⟩
instance ul56 : UL Tryz.prog 56 (.map 41 3) := ⟨Tryz.underlying56⟩
instance ti56 : TI Tryz.prog 56 (.map none) 1 8 := ⟨by kernel_rfl⟩
instance na56 : NAgg Tryz.prog 56 := ⟨fun _ => by kernel_rfl⟩
instance ul57 : UL Tryz.prog 57 (.slice 27) := ⟨Tryz.underlying57⟩
instance ti57 : TI Tryz.prog 57 (.slice none 0 0) 1 24 := ⟨by kernel_rfl⟩
instance na57 : NAgg Tryz.prog 57 := ⟨fun _ => by kernel_rfl⟩
instance ul58 : UL Tryz.prog 58 (.func #[24, 25] #[4] false) := ⟨Tryz.underlying58⟩
instance ti58 : TI Tryz.prog 58 (.nilFunc) 1 8 := ⟨by kernel_rfl⟩
instance na58 : NAgg Tryz.prog 58 := ⟨fun _ => by kernel_rfl⟩
instance ul60 : UL Tryz.prog 60 (.func #[3, 3, 3, 22] #[26, 48] false) := ⟨Tryz.underlying60⟩
instance ti60 : TI Tryz.prog 60 (.nilFunc) 1 8 := ⟨by kernel_rfl⟩
instance na60 : NAgg Tryz.prog 60 := ⟨fun _ => by kernel_rfl⟩
instance ul62 : UL Tryz.prog 62 (.func #[3, 3, 3, 22] #[36, 3] false) := ⟨Tryz.underlying62⟩
instance ti62 : TI Tryz.prog 62 (.nilFunc) 1 8 := ⟨by kernel_rfl⟩
instance na62 : NAgg Tryz.prog 62 := ⟨fun _ => by kernel_rfl⟩
instance ul63 : UL Tryz.prog 63 (.func #[26, 36, 41] #[4] false) := ⟨Tryz.underlying63⟩
instance ti63 : TI Tryz.prog 63 (.nilFunc) 1 8 := ⟨by kernel_rfl⟩
instance na63 : NAgg Tryz.prog 63 := ⟨fun _ => by kernel_rfl⟩
instance ul64 : UL Tryz.prog 64 (.func #[24] #[4] false) := ⟨Tryz.underlying64⟩
instance ti64 : TI Tryz.prog 64 (.nilFunc) 1 8 := ⟨by kernel_rfl⟩
instance na64 : NAgg Tryz.prog 64 := ⟨fun _ => by kernel_rfl⟩
instance ul65 : UL Tryz.prog 65 (.func #[26, 36, 25] #[26, 36, 4] false) := ⟨Tryz.underlying65⟩
instance ti65 : TI Tryz.prog 65 (.nilFunc) 1 8 := ⟨by kernel_rfl⟩
instance na65 : NAgg Tryz.prog 65 := ⟨fun _ => by kernel_rfl⟩
instance mt66 : MTyA Tryz.prog 66 Nat .u32 (fun n : Nat => .int .u32 (n : Nat)) := ⟨trivial⟩
instance ul66 : UL Tryz.prog 66 (.map 41 41) := ⟨Tryz.underlying66⟩
instance ti66 : TI Tryz.prog 66 (.map none) 1 8 := ⟨by kernel_rfl⟩
instance na66 : NAgg Tryz.prog 66 := ⟨fun _ => by kernel_rfl⟩
instance ti67 : TI Tryz.prog 67 (.agg #[.map none, .slice none 0 0, .slice none 0 0]) 3 56 := ⟨by kernel_rfl⟩
instance ia67 : IAgg Tryz.prog 67 3 := ⟨fun _ => ⟨by kernel_rfl, by kernel_rfl⟩⟩
instance fa67_0 : FA Tryz.prog 67 0 0 := ⟨fun _ _ => by kernel_rfl⟩
instance fd67_0 : FD Tryz.prog 67 0 0 := fd_mk (ft := 66) Tryz.underlying67 rfl
instance fa67_1 : FA Tryz.prog 67 1 1 := ⟨fun _ _ => by kernel_rfl⟩
instance fd67_1 : FD Tryz.prog 67 1 1 := fd_mk (ft := 27) Tryz.underlying67 rfl
instance fa67_2 : FA Tryz.prog 67 2 2 := ⟨fun _ _ => by kernel_rfl⟩
instance fd67_2 : FD Tryz.prog 67 2 2 := fd_mk (ft := 27) Tryz.underlying67 rfl
instance bl67 : BL Tryz.prog 67 [(0, 1), (1, 1), (2, 1)] [.map none, .slice none 0 0, .slice none 0 0] := bl_mk Tryz.underlying67 (fun _ => by kernel_rfl)
instance ti68 : TI Tryz.prog 68 (.agg #[.map none, .slice none 0 0, .slice none 0 0]) 3 56 := ⟨by kernel_rfl⟩
instance ia68 : IAgg Tryz.prog 68 3 := ⟨fun _ => ⟨by kernel_rfl, by kernel_rfl⟩⟩
instance fa68_0 : FA Tryz.prog 68 0 0 := ⟨fun _ _ => by kernel_rfl⟩
instance fd68_0 : FD Tryz.prog 68 0 0 := fd_mk (ft := 66) Tryz.underlying68 rfl
instance fa68_1 : FA Tryz.prog 68 1 1 := ⟨fun _ _ => by kernel_rfl⟩
instance fd68_1 : FD Tryz.prog 68 1 1 := fd_mk (ft := 27) Tryz.underlying68 rfl
instance fa68_2 : FA Tryz.prog 68 2 2 := ⟨fun _ _ => by kernel_rfl⟩
instance fd68_2 : FD Tryz.prog 68 2 2 := fd_mk (ft := 27) Tryz.underlying68 rfl
instance bl68 : BL Tryz.prog 68 [(0, 1), (1, 1), (2, 1)] [.map none, .slice none 0 0, .slice none 0 0] := bl_mk Tryz.underlying68 (fun _ => by kernel_rfl)
instance ul69 : UL Tryz.prog 69 (.pointer 121) := ⟨Tryz.underlying69⟩
instance ti69 : TI Tryz.prog 69 (.pointer none) 1 8 := ⟨by kernel_rfl⟩
instance na69 : NAgg Tryz.prog 69 := ⟨fun _ => by kernel_rfl⟩
instance ul70 : UL Tryz.prog 70 (.pointer 142) := ⟨Tryz.underlying70⟩
instance ti70 : TI Tryz.prog 70 (.pointer none) 1 8 := ⟨by kernel_rfl⟩
instance na70 : NAgg Tryz.prog 70 := ⟨fun _ => by kernel_rfl⟩
instance ul71 : UL Tryz.prog 71 (.pointer 159) := ⟨Tryz.underlying71⟩
instance ti71 : TI Tryz.prog 71 (.pointer none) 1 8 := ⟨by kernel_rfl⟩
instance na71 : NAgg Tryz.prog 71 := ⟨fun _ => by kernel_rfl⟩
instance ul72 : UL Tryz.prog 72 (.pointer 161) := ⟨Tryz.underlying72⟩
instance ti72 : TI Tryz.prog 72 (.pointer none) 1 8 := ⟨by kernel_rfl⟩
instance na72 : NAgg Tryz.prog 72 := ⟨fun _ => by kernel_rfl⟩
instance ti73 : TI Tryz.prog 73 (.agg #[.pointer none, .pointer none, .int .i64 0, .int .i64 0]) 4 32 := ⟨by kernel_rfl⟩
instance ia73 : IAgg Tryz.prog 73 4 := ⟨fun _ => ⟨by kernel_rfl, by kernel_rfl⟩⟩
instance fa73_0 : FA Tryz.prog 73 0 0 := ⟨fun _ _ => by kernel_rfl⟩
instance fd73_0 : FD Tryz.prog 73 0 0 := fd_mk (ft := 71) Tryz.underlying73 rfl
instance fa73_1 : FA Tryz.prog 73 1 1 := ⟨fun _ _ => by kernel_rfl⟩
instance fd73_1 : FD Tryz.prog 73 1 1 := fd_mk (ft := 72) Tryz.underlying73 rfl
instance fa73_2 : FA Tryz.prog 73 2 2 := ⟨fun _ _ => by kernel_rfl⟩
instance fd73_2 : FD Tryz.prog 73 2 2 := fd_mk (ft := 3) Tryz.underlying73 rfl
instance fa73_3 : FA Tryz.prog 73 3 3 := ⟨fun _ _ => by kernel_rfl⟩
instance fd73_3 : FD Tryz.prog 73 3 3 := fd_mk (ft := 3) Tryz.underlying73 rfl
instance bl73 : BL Tryz.prog 73 [(0, 1), (1, 1), (2, 1), (3, 1)] [.pointer none, .pointer none, .int .i64 0, .int .i64 0] := bl_mk Tryz.underlying73 (fun _ => by kernel_rfl)
instance ti74 : TI Tryz.prog 74 (.agg #[.pointer none, .pointer none, .int .i64 0, .int .i64 0]) 4 32 := ⟨by kernel_rfl⟩
instance ia74 : IAgg Tryz.prog 74 4 := ⟨fun _ => ⟨by kernel_rfl, by kernel_rfl⟩⟩
instance fa74_0 : FA Tryz.prog 74 0 0 := ⟨fun _ _ => by kernel_rfl⟩
instance fd74_0 : FD Tryz.prog 74 0 0 := fd_mk (ft := 71) Tryz.underlying74 rfl
instance fa74_1 : FA Tryz.prog 74 1 1 := ⟨fun _ _ => by kernel_rfl⟩
instance fd74_1 : FD Tryz.prog 74 1 1 := fd_mk (ft := 72) Tryz.underlying74 rfl
instance fa74_2 : FA Tryz.prog 74 2 2 := ⟨fun _ _ => by kernel_rfl⟩
instance fd74_2 : FD Tryz.prog 74 2 2 := fd_mk (ft := 3) Tryz.underlying74 rfl
instance fa74_3 : FA Tryz.prog 74 3 3 := ⟨fun _ _ => by kernel_rfl⟩
instance fd74_3 : FD Tryz.prog 74 3 3 := fd_mk (ft := 3) Tryz.underlying74 rfl
instance bl74 : BL Tryz.prog 74 [(0, 1), (1, 1), (2, 1), (3, 1)] [.pointer none, .pointer none, .int .i64 0, .int .i64 0] := bl_mk Tryz.underlying74 (fun _ => by kernel_rfl)
instance ti75 : TI Tryz.prog 75 (.agg #[.int .i64 0, .int .i64 0, .map none, .slice none 0 0, .slice none 0 0, .pointer none, .pointer none, .pointer none, .pointer none, .int .i64 0, .int .i64 0]) 11 120 := ⟨by kernel_rfl⟩
instance ia75 : IAgg Tryz.prog 75 11 := ⟨fun _ => ⟨by kernel_rfl, by kernel_rfl⟩⟩
instance fa75_0 : FA Tryz.prog 75 0 0 := ⟨fun _ _ => by kernel_rfl⟩
instance fd75_0 : FD Tryz.prog 75 0 0 := fd_mk (ft := 3) Tryz.underlying75 rfl
instance fa75_1 : FA Tryz.prog 75 1 1 := ⟨fun _ _ => by kernel_rfl⟩
instance fd75_1 : FD Tryz.prog 75 1 1 := fd_mk (ft := 3) Tryz.underlying75 rfl
instance fa75_2 : FA Tryz.prog 75 2 2 := ⟨fun _ _ => by kernel_rfl⟩
instance fa75_3 : FA Tryz.prog 75 3 5 := ⟨fun _ _ => by kernel_rfl⟩
instance fd75_3 : FD Tryz.prog 75 3 5 := fd_mk (ft := 69) Tryz.underlying75 rfl
instance fa75_4 : FA Tryz.prog 75 4 6 := ⟨fun _ _ => by kernel_rfl⟩
instance fd75_4 : FD Tryz.prog 75 4 6 := fd_mk (ft := 70) Tryz.underlying75 rfl
instance fa75_5 : FA Tryz.prog 75 5 7 := ⟨fun _ _ => by kernel_rfl⟩
instance bl75 : BL Tryz.prog 75 [(0, 1), (1, 1), (2, 3), (5, 1), (6, 1), (7, 4)] [.int .i64 0, .int .i64 0, .map none, .slice none 0 0, .slice none 0 0, .pointer none, .pointer none, .pointer none, .pointer none, .int .i64 0, .int .i64 0] := bl_mk Tryz.underlying75 (fun _ => by kernel_rfl)
instance ti76 : TI Tryz.prog 76 (.agg #[.int .i64 0, .int .i64 0, .map none, .slice none 0 0, .slice none 0 0, .pointer none, .pointer none, .pointer none, .pointer none, .int .i64 0, .int .i64 0]) 11 120 := ⟨by kernel_rfl⟩
instance ia76 : IAgg Tryz.prog 76 11 := ⟨fun _ => ⟨by kernel_rfl, by kernel_rfl⟩⟩
instance fa76_0 : FA Tryz.prog 76 0 0 := ⟨fun _ _ => by kernel_rfl⟩
instance fd76_0 : FD Tryz.prog 76 0 0 := fd_mk (ft := 3) Tryz.underlying76 rfl
instance fa76_1 : FA Tryz.prog 76 1 1 := ⟨fun _ _ => by kernel_rfl⟩
instance fd76_1 : FD Tryz.prog 76 1 1 := fd_mk (ft := 3) Tryz.underlying76 rfl
instance fa76_2 : FA Tryz.prog 76 2 2 := ⟨fun _ _ => by kernel_rfl⟩
instance fa76_3 : FA Tryz.prog 76 3 5 := ⟨fun _ _ => by kernel_rfl⟩
instance fd76_3 : FD Tryz.prog 76 3 5 := fd_mk (ft := 69) Tryz.underlying76 rfl
instance fa76_4 : FA Tryz.prog 76 4 6 := ⟨fun _ _ => by kernel_rfl⟩
instance fd76_4 : FD Tryz.prog 76 4 6 := fd_mk (ft := 70) Tryz.underlying76 rfl
instance fa76_5 : FA Tryz.prog 76 5 7 := ⟨fun _ _ => by kernel_rfl⟩
instance bl76 : BL Tryz.prog 76 [(0, 1), (1, 1), (2, 3), (5, 1), (6, 1), (7, 4)] [.int .i64 0, .int .i64 0, .map none, .slice none 0 0, .slice none 0 0, .pointer none, .pointer none, .pointer none, .pointer none, .int .i64 0, .int .i64 0] := bl_mk Tryz.underlying76 (fun _ => by kernel_rfl)
instance ul77 : UL Tryz.prog 77 (.slice 26) := ⟨Tryz.underlying77⟩
instance ti77 : TI Tryz.prog 77 (.slice none 0 0) 1 24 := ⟨by kernel_rfl⟩
instance na77 : NAgg Tryz.prog 77 := ⟨fun _ => by kernel_rfl⟩
instance ul78 : UL Tryz.prog 78 (.func #[26, 27, 27, 27] #[4] false) := ⟨Tryz.underlying78⟩
instance ti78 : TI Tryz.prog 78 (.nilFunc) 1 8 := ⟨by kernel_rfl⟩
instance na78 : NAgg Tryz.prog 78 := ⟨fun _ => by kernel_rfl⟩
instance ul79 : UL Tryz.prog 79 (.func #[] #[26] false) := ⟨Tryz.underlying79⟩
instance ti79 : TI Tryz.prog 79 (.nilFunc) 1 8 := ⟨by kernel_rfl⟩
instance na79 : NAgg Tryz.prog 79 := ⟨fun _ => by kernel_rfl⟩
instance ul80 : UL Tryz.prog 80 (.func #[26, 41, 47] #[4] false) := ⟨Tryz.underlying80⟩
instance ti80 : TI Tryz.prog 80 (.nilFunc) 1 8 := ⟨by kernel_rfl⟩
instance na80 : NAgg Tryz.prog 80 := ⟨fun _ => by kernel_rfl⟩
instance ul81 : UL Tryz.prog 81 (.func #[41] #[47] false) := ⟨Tryz.underlying81⟩
instance ti81 : TI Tryz.prog 81 (.nilFunc) 1 8 := ⟨by kernel_rfl⟩
instance na81 : NAgg Tryz.prog 81 := ⟨fun _ => by kernel_rfl⟩
instance ul82 : UL Tryz.prog 82 (.array 3 3) := ⟨Tryz.underlying82⟩
instance ti82 : TI Tryz.prog 82 (.agg #[.int .i64 0, .int .i64 0, .int .i64 0]) 3 24 := ⟨by kernel_rfl⟩
instance ia82 : IAgg Tryz.prog 82 3 := ⟨fun _ => ⟨by kernel_rfl, by kernel_rfl⟩⟩
instance ul83 : UL Tryz.prog 83 (.slice 82) := ⟨Tryz.underlying83⟩
instance ti83 : TI Tryz.prog 83 (.slice none 0 0) 1 24 := ⟨by kernel_rfl⟩
instance na83 : NAgg Tryz.prog 83 := ⟨fun _ => by kernel_rfl⟩
instance ul84 : UL Tryz.prog 84 (.func #[52] #[] false) := ⟨Tryz.underlying84⟩
instance ti84 : TI Tryz.prog 84 (.nilFunc) 1 8 := ⟨by kernel_rfl⟩
instance na84 : NAgg Tryz.prog 84 := ⟨fun _ => by kernel_rfl⟩
instance ul85 : UL Tryz.prog 85 (.func #[52] #[] false) := ⟨Tryz.underlying85⟩
instance ti85 : TI Tryz.prog 85 (.nilFunc) 1 8 := ⟨by kernel_rfl⟩
instance na85 : NAgg Tryz.prog 85 := ⟨fun _ => by kernel_rfl⟩
instance ul86 : UL Tryz.prog 86 (.func #[] #[85] false) := ⟨Tryz.underlying86⟩
instance ti86 : TI Tryz.prog 86 (.nilFunc) 1 8 := ⟨by kernel_rfl⟩
instance na86 : NAgg Tryz.prog 86 := ⟨fun _ => by kernel_rfl⟩
instance ul87 : UL Tryz.prog 87 (.func #[27] #[] false) := ⟨Tryz.underlying87⟩
instance ti87 : TI Tryz.prog 87 (.nilFunc) 1 8 := ⟨by kernel_rfl⟩
instance na87 : NAgg Tryz.prog 87 := ⟨fun _ => by kernel_rfl⟩
instance ul88 : UL Tryz.prog 88 (.func #[89] #[27] false) := ⟨Tryz.underlying88⟩
instance ti88 : TI Tryz.prog 88 (.nilFunc) 1 8 := ⟨by kernel_rfl⟩
instance na88 : NAgg Tryz.prog 88 := ⟨fun _ => by kernel_rfl⟩
instance ul89 : UL Tryz.prog 89 (.int .i64) := ⟨Tryz.underlying89⟩
instance ti89 : TI Tryz.prog 89 (.int .i64 0) 1 8 := ⟨by kernel_rfl⟩
instance na89 : NAgg Tryz.prog 89 := ⟨fun _ => by kernel_rfl⟩
instance ul90 : UL Tryz.prog 90 (.func #[41] #[] false) := ⟨Tryz.underlying90⟩
instance ti90 : TI Tryz.prog 90 (.nilFunc) 1 8 := ⟨by kernel_rfl⟩
instance na90 : NAgg Tryz.prog 90 := ⟨fun _ => by kernel_rfl⟩
instance ul92 : UL Tryz.prog 92 (.func #[41] #[48] false) := ⟨Tryz.underlying92⟩
instance ti92 : TI Tryz.prog 92 (.nilFunc) 1 8 := ⟨by kernel_rfl⟩
instance na92 : NAgg Tryz.prog 92 := ⟨fun _ => by kernel_rfl⟩
instance ul94 : UL Tryz.prog 94 (.func #[41, 3] #[27, 48] false) := ⟨Tryz.underlying94⟩
instance ti94 : TI Tryz.prog 94 (.nilFunc) 1 8 := ⟨by kernel_rfl⟩
instance na94 : NAgg Tryz.prog 94 := ⟨fun _ => by kernel_rfl⟩
instance ul95 : UL Tryz.prog 95 (.func #[41] #[41] false) := ⟨Tryz.underlying95⟩
instance ti95 : TI Tryz.prog 95 (.nilFunc) 1 8 := ⟨by kernel_rfl⟩
instance na95 : NAgg Tryz.prog 95 := ⟨fun _ => by kernel_rfl⟩
instance ul96 : UL Tryz.prog 96 (.func #[] #[47] false) := ⟨Tryz.underlying96⟩
instance ti96 : TI Tryz.prog 96 (.nilFunc) 1 8 := ⟨by kernel_rfl⟩
instance na96 : NAgg Tryz.prog 96 := ⟨fun _ => by kernel_rfl⟩
instance ul98 : UL Tryz.prog 98 (.func #[3, 22, 3] #[71, 48] false) := ⟨Tryz.underlying98⟩
instance ti98 : TI Tryz.prog 98 (.nilFunc) 1 8 := ⟨by kernel_rfl⟩
instance na98 : NAgg Tryz.prog 98 := ⟨fun _ => by kernel_rfl⟩
instance ul99 : UL Tryz.prog 99 (.func #[3, 3] #[3] false) := ⟨Tryz.underlying99⟩
instance ti99 : TI Tryz.prog 99 (.nilFunc) 1 8 := ⟨by kernel_rfl⟩
instance na99 : NAgg Tryz.prog 99 := ⟨fun _ => by kernel_rfl⟩
instance ul101 : UL Tryz.prog 101 (.func #[3, 3, 22] #[72, 48] false) := ⟨Tryz.underlying101⟩
instance ti101 : TI Tryz.prog 101 (.nilFunc) 1 8 := ⟨by kernel_rfl⟩
instance na101 : NAgg Tryz.prog 101 := ⟨fun _ => by kernel_rfl⟩
instance ul103 : UL Tryz.prog 103 (.func #[3] #[70, 48] false) := ⟨Tryz.underlying103⟩
instance ti103 : TI Tryz.prog 103 (.nilFunc) 1 8 := ⟨by kernel_rfl⟩
instance na103 : NAgg Tryz.prog 103 := ⟨fun _ => by kernel_rfl⟩
instance ul104 : UL Tryz.prog 104 (.func #[3] #[68] false) := ⟨Tryz.underlying104⟩
instance ti104 : TI Tryz.prog 104 (.nilFunc) 1 8 := ⟨by kernel_rfl⟩
instance na104 : NAgg Tryz.prog 104 := ⟨fun _ => by kernel_rfl⟩
instance ul105 : UL Tryz.prog 105 (.func #[] #[69] false) := ⟨Tryz.underlying105⟩
instance ti105 : TI Tryz.prog 105 (.nilFunc) 1 8 := ⟨by kernel_rfl⟩
instance na105 : NAgg Tryz.prog 105 := ⟨fun _ => by kernel_rfl⟩
instance ul107 : UL Tryz.prog 107 (.func #[3, 22, 3] #[31, 3] false) := ⟨Tryz.underlying107⟩
instance ti107 : TI Tryz.prog 107 (.nilFunc) 1 8 := ⟨by kernel_rfl⟩
instance na107 : NAgg Tryz.prog 107 := ⟨fun _ => by kernel_rfl⟩
instance ul109 : UL Tryz.prog 109 (.func #[3, 3, 22] #[34, 3] false) := ⟨Tryz.underlying109⟩
instance ti109 : TI Tryz.prog 109 (.nilFunc) 1 8 := ⟨by kernel_rfl⟩
instance na109 : NAgg Tryz.prog 109 := ⟨fun _ => by kernel_rfl⟩
instance ul111 : UL Tryz.prog 111 (.func #[41] #[36, 47] false) := ⟨Tryz.underlying111⟩
instance ti111 : TI Tryz.prog 111 (.nilFunc) 1 8 := ⟨by kernel_rfl⟩
instance na111 : NAgg Tryz.prog 111 := ⟨fun _ => by kernel_rfl⟩
instance ul113 : UL Tryz.prog 113 (.func #[41] #[36, 4] false) := ⟨Tryz.underlying113⟩
instance ti113 : TI Tryz.prog 113 (.nilFunc) 1 8 := ⟨by kernel_rfl⟩
instance na113 : NAgg Tryz.prog 113 := ⟨fun _ => by kernel_rfl⟩
instance ul114 : UL Tryz.prog 114 (.func #[27, 27] #[4] false) := ⟨Tryz.underlying114⟩
instance ti114 : TI Tryz.prog 114 (.nilFunc) 1 8 := ⟨by kernel_rfl⟩
instance na114 : NAgg Tryz.prog 114 := ⟨fun _ => by kernel_rfl⟩
instance ul115 : UL Tryz.prog 115 (.func #[] #[71] false) := ⟨Tryz.underlying115⟩
instance ti115 : TI Tryz.prog 115 (.nilFunc) 1 8 := ⟨by kernel_rfl⟩
instance na115 : NAgg Tryz.prog 115 := ⟨fun _ => by kernel_rfl⟩
instance ul116 : UL Tryz.prog 116 (.func #[] #[72] false) := ⟨Tryz.underlying116⟩
instance ti116 : TI Tryz.prog 116 (.nilFunc) 1 8 := ⟨by kernel_rfl⟩
instance na116 : NAgg Tryz.prog 116 := ⟨fun _ => by kernel_rfl⟩
instance ul117 : UL Tryz.prog 117 (.func #[] #[68] false) := ⟨Tryz.underlying117⟩
instance ti117 : TI Tryz.prog 117 (.nilFunc) 1 8 := ⟨by kernel_rfl⟩
instance na117 : NAgg Tryz.prog 117 := ⟨fun _ => by kernel_rfl⟩
instance ul118 : UL Tryz.prog 118 (.func #[] #[70] false) := ⟨Tryz.underlying118⟩
instance ti118 : TI Tryz.prog 118 (.nilFunc) 1 8 := ⟨by kernel_rfl⟩
instance na118 : NAgg Tryz.prog 118 := ⟨fun _ => by kernel_rfl⟩
instance ul119 : UL Tryz.prog 119 (.pointer 184) := ⟨Tryz.underlying119⟩
instance ti119 : TI Tryz.prog 119 (.pointer none) 1 8 := ⟨by kernel_rfl⟩
instance na119 : NAgg Tryz.prog 119 := ⟨fun _ => by kernel_rfl⟩
instance ti120 : TI Tryz.prog 120 (.agg #[.pointer none]) 1 8 := ⟨by kernel_rfl⟩
instance ia120 : IAgg Tryz.prog 120 1 := ⟨fun _ => ⟨by kernel_rfl, by kernel_rfl⟩⟩
instance fa120_0 : FA Tryz.prog 120 0 0 := ⟨fun _ _ => by kernel_rfl⟩
instance fd120_0 : FD Tryz.prog 120 0 0 := fd_mk (ft := 119) Tryz.underlying120 rfl
instance bl120 : BL Tryz.prog 120 [(0, 1)] [.pointer none] := bl_mk Tryz.underlying120 (fun _ => by kernel_rfl)
instance ti121 : TI Tryz.prog 121 (.agg #[.pointer none]) 1 8 := ⟨by kernel_rfl⟩
instance ia121 : IAgg Tryz.prog 121 1 := ⟨fun _ => ⟨by kernel_rfl, by kernel_rfl⟩⟩
instance fa121_0 : FA Tryz.prog 121 0 0 := ⟨fun _ _ => by kernel_rfl⟩
instance fd121_0 : FD Tryz.prog 121 0 0 := fd_mk (ft := 119) Tryz.underlying121 rfl
instance bl121 : BL Tryz.prog 121 [(0, 1)] [.pointer none] := bl_mk Tryz.underlying121 (fun _ => by kernel_rfl)
instance ul122 : UL Tryz.prog 122 (.func #[3] #[85] false) := ⟨Tryz.underlying122⟩
instance ti122 : TI Tryz.prog 122 (.nilFunc) 1 8 := ⟨by kernel_rfl⟩
instance na122 : NAgg Tryz.prog 122 := ⟨fun _ => by kernel_rfl⟩
instance ul123 : UL Tryz.prog 123 (.func #[173] #[] false) := ⟨Tryz.underlying123⟩
instance ti123 : TI Tryz.prog 123 (.nilFunc) 1 8 := ⟨by kernel_rfl⟩
instance na123 : NAgg Tryz.prog 123 := ⟨fun _ => by kernel_rfl⟩
instance ul124 : UL Tryz.prog 124 (.func #[173] #[] false) := ⟨Tryz.underlying124⟩
instance ti124 : TI Tryz.prog 124 (.nilFunc) 1 8 := ⟨by kernel_rfl⟩
instance na124 : NAgg Tryz.prog 124 := ⟨fun _ => by kernel_rfl⟩
instance ul125 : UL Tryz.prog 125 (.func #[126] #[124] false) := ⟨Tryz.underlying125⟩
instance ti125 : TI Tryz.prog 125 (.nilFunc) 1 8 := ⟨by kernel_rfl⟩
instance na125 : NAgg Tryz.prog 125 := ⟨fun _ => by kernel_rfl⟩
instance ul126 : UL Tryz.prog 126 (.slice 128) := ⟨Tryz.underlying126⟩
instance ti126 : TI Tryz.prog 126 (.slice none 0 0) 1 24 := ⟨by kernel_rfl⟩
instance na126 : NAgg Tryz.prog 126 := ⟨fun _ => by kernel_rfl⟩
instance ti127 : TI Tryz.prog 127 (.agg #[.int .u32 0, .int .i64 0]) 2 16 := ⟨by kernel_rfl⟩
instance ia127 : IAgg Tryz.prog 127 2 := ⟨fun _ => ⟨by kernel_rfl, by kernel_rfl⟩⟩
instance fa127_0 : FA Tryz.prog 127 0 0 := ⟨fun _ _ => by kernel_rfl⟩
instance fd127_0 : FD Tryz.prog 127 0 0 := fd_mk (ft := 41) Tryz.underlying127 rfl
instance fa127_1 : FA Tryz.prog 127 1 1 := ⟨fun _ _ => by kernel_rfl⟩
instance fd127_1 : FD Tryz.prog 127 1 1 := fd_mk (ft := 3) Tryz.underlying127 rfl
instance bl127 : BL Tryz.prog 127 [(0, 1), (1, 1)] [.int .u32 0, .int .i64 0] := bl_mk Tryz.underlying127 (fun _ => by kernel_rfl)
instance ti128 : TI Tryz.prog 128 (.agg #[.int .u32 0, .int .i64 0]) 2 16 := ⟨by kernel_rfl⟩
instance ia128 : IAgg Tryz.prog 128 2 := ⟨fun _ => ⟨by kernel_rfl, by kernel_rfl⟩⟩
instance fa128_0 : FA Tryz.prog 128 0 0 := ⟨fun _ _ => by kernel_rfl⟩
instance fd128_0 : FD Tryz.prog 128 0 0 := fd_mk (ft := 41) Tryz.underlying128 rfl
instance fa128_1 : FA Tryz.prog 128 1 1 := ⟨fun _ _ => by kernel_rfl⟩
instance fd128_1 : FD Tryz.prog 128 1 1 := fd_mk (ft := 3) Tryz.underlying128 rfl
instance bl128 : BL Tryz.prog 128 [(0, 1), (1, 1)] [.int .u32 0, .int .i64 0] := bl_mk Tryz.underlying128 (fun _ => by kernel_rfl)
instance ul129 : UL Tryz.prog 129 (.func #[89] #[126] false) := ⟨Tryz.underlying129⟩
instance ti129 : TI Tryz.prog 129 (.nilFunc) 1 8 := ⟨by kernel_rfl⟩
instance na129 : NAgg Tryz.prog 129 := ⟨fun _ => by kernel_rfl⟩
instance ul130 : UL Tryz.prog 130 (.pointer 74) := ⟨Tryz.underlying130⟩
instance ti130 : TI Tryz.prog 130 (.pointer none) 1 8 := ⟨by kernel_rfl⟩
instance na130 : NAgg Tryz.prog 130 := ⟨fun _ => by kernel_rfl⟩
instance ul131 : UL Tryz.prog 131 (.func #[41] #[9] false) := ⟨Tryz.underlying131⟩
instance ti131 : TI Tryz.prog 131 (.nilFunc) 1 8 := ⟨by kernel_rfl⟩
instance na131 : NAgg Tryz.prog 131 := ⟨fun _ => by kernel_rfl⟩
instance ul132 : UL Tryz.prog 132 (.func #[9] #[4] false) := ⟨Tryz.underlying132⟩
instance ti132 : TI Tryz.prog 132 (.nilFunc) 1 8 := ⟨by kernel_rfl⟩
instance na132 : NAgg Tryz.prog 132 := ⟨fun _ => by kernel_rfl⟩
instance ul133 : UL Tryz.prog 133 (.func #[9] #[4, 48] false) := ⟨Tryz.underlying133⟩
instance ti133 : TI Tryz.prog 133 (.nilFunc) 1 8 := ⟨by kernel_rfl⟩
instance na133 : NAgg Tryz.prog 133 := ⟨fun _ => by kernel_rfl⟩
instance ul134 : UL Tryz.prog 134 (.func #[] #[48] false) := ⟨Tryz.underlying134⟩
instance ti134 : TI Tryz.prog 134 (.nilFunc) 1 8 := ⟨by kernel_rfl⟩
instance na134 : NAgg Tryz.prog 134 := ⟨fun _ => by kernel_rfl⟩
instance ul136 : UL Tryz.prog 136 (.func #[41] #[3, 48] false) := ⟨Tryz.underlying136⟩
instance ti136 : TI Tryz.prog 136 (.nilFunc) 1 8 := ⟨by kernel_rfl⟩
instance na136 : NAgg Tryz.prog 136 := ⟨fun _ => by kernel_rfl⟩
instance ul137 : UL Tryz.prog 137 (.func #[3, 41] #[48] false) := ⟨Tryz.underlying137⟩
instance ti137 : TI Tryz.prog 137 (.nilFunc) 1 8 := ⟨by kernel_rfl⟩
instance na137 : NAgg Tryz.prog 137 := ⟨fun _ => by kernel_rfl⟩
instance ul138 : UL Tryz.prog 138 (.func #[41, 3] #[48] false) := ⟨Tryz.underlying138⟩
instance ti138 : TI Tryz.prog 138 (.nilFunc) 1 8 := ⟨by kernel_rfl⟩
instance na138 : NAgg Tryz.prog 138 := ⟨fun _ => by kernel_rfl⟩
instance ul139 : UL Tryz.prog 139 (.array 2 69) := ⟨Tryz.underlying139⟩
instance ti139 : TI Tryz.prog 139 (.agg #[.pointer none, .pointer none]) 2 16 := ⟨by kernel_rfl⟩
instance ia139 : IAgg Tryz.prog 139 2 := ⟨fun _ => ⟨by kernel_rfl, by kernel_rfl⟩⟩
instance ul140 : UL Tryz.prog 140 (.array 2 3) := ⟨Tryz.underlying140⟩
instance ti140 : TI Tryz.prog 140 (.agg #[.int .i64 0, .int .i64 0]) 2 16 := ⟨by kernel_rfl⟩
instance ia140 : IAgg Tryz.prog 140 2 := ⟨fun _ => ⟨by kernel_rfl, by kernel_rfl⟩⟩
instance ti141 : TI Tryz.prog 141 (.agg #[.pointer none, .pointer none, .int .i64 0, .int .i64 0, .map none, .int .i64 0]) 6 48 := ⟨by kernel_rfl⟩
instance ia141 : IAgg Tryz.prog 141 6 := ⟨fun _ => ⟨by kernel_rfl, by kernel_rfl⟩⟩
instance fa141_0 : FA Tryz.prog 141 0 0 := ⟨fun _ _ => by kernel_rfl⟩
instance fa141_1 : FA Tryz.prog 141 1 2 := ⟨fun _ _ => by kernel_rfl⟩
instance fa141_2 : FA Tryz.prog 141 2 4 := ⟨fun _ _ => by kernel_rfl⟩
instance fd141_2 : FD Tryz.prog 141 2 4 := fd_mk (ft := 56) Tryz.underlying141 rfl
instance fa141_3 : FA Tryz.prog 141 3 5 := ⟨fun _ _ => by kernel_rfl⟩
instance fd141_3 : FD Tryz.prog 141 3 5 := fd_mk (ft := 3) Tryz.underlying141 rfl
instance bl141 : BL Tryz.prog 141 [(0, 2), (2, 2), (4, 1), (5, 1)] [.pointer none, .pointer none, .int .i64 0, .int .i64 0, .map none, .int .i64 0] := bl_mk Tryz.underlying141 (fun _ => by kernel_rfl)
instance ti142 : TI Tryz.prog 142 (.agg #[.pointer none, .pointer none, .int .i64 0, .int .i64 0, .map none, .int .i64 0]) 6 48 := ⟨by kernel_rfl⟩
instance ia142 : IAgg Tryz.prog 142 6 := ⟨fun _ => ⟨by kernel_rfl, by kernel_rfl⟩⟩
instance fa142_0 : FA Tryz.prog 142 0 0 := ⟨fun _ _ => by kernel_rfl⟩
instance fa142_1 : FA Tryz.prog 142 1 2 := ⟨fun _ _ => by kernel_rfl⟩
instance fa142_2 : FA Tryz.prog 142 2 4 := ⟨fun _ _ => by kernel_rfl⟩
instance fd142_2 : FD Tryz.prog 142 2 4 := fd_mk (ft := 56) Tryz.underlying142 rfl
instance fa142_3 : FA Tryz.prog 142 3 5 := ⟨fun _ _ => by kernel_rfl⟩
instance fd142_3 : FD Tryz.prog 142 3 5 := fd_mk (ft := 3) Tryz.underlying142 rfl
instance bl142 : BL Tryz.prog 142 [(0, 2), (2, 2), (4, 1), (5, 1)] [.pointer none, .pointer none, .int .i64 0, .int .i64 0, .map none, .int .i64 0] := bl_mk Tryz.underlying142 (fun _ => by kernel_rfl)
instance ul143 : UL Tryz.prog 143 (.func #[89, 41, 3] #[] false) := ⟨Tryz.underlying143⟩
instance ti143 : TI Tryz.prog 143 (.nilFunc) 1 8 := ⟨by kernel_rfl⟩
instance na143 : NAgg Tryz.prog 143 := ⟨fun _ => by kernel_rfl⟩
instance ul144 : UL Tryz.prog 144 (.func #[] #[27] false) := ⟨Tryz.underlying144⟩
instance ti144 : TI Tryz.prog 144 (.nilFunc) 1 8 := ⟨by kernel_rfl⟩
instance na144 : NAgg Tryz.prog 144 := ⟨fun _ => by kernel_rfl⟩
instance ul145 : UL Tryz.prog 145 (.pointer 68) := ⟨Tryz.underlying145⟩
instance ti145 : TI Tryz.prog 145 (.pointer none) 1 8 := ⟨by kernel_rfl⟩
instance na145 : NAgg Tryz.prog 145 := ⟨fun _ => by kernel_rfl⟩
instance ul146 : UL Tryz.prog 146 (.func #[3] #[3] false) := ⟨Tryz.underlying146⟩
instance ti146 : TI Tryz.prog 146 (.nilFunc) 1 8 := ⟨by kernel_rfl⟩
instance na146 : NAgg Tryz.prog 146 := ⟨fun _ => by kernel_rfl⟩
instance ul148 : UL Tryz.prog 148 (.func #[] #[41, 48] false) := ⟨Tryz.underlying148⟩
instance ti148 : TI Tryz.prog 148 (.nilFunc) 1 8 := ⟨by kernel_rfl⟩
instance na148 : NAgg Tryz.prog 148 := ⟨fun _ => by kernel_rfl⟩
instance ul149 : UL Tryz.prog 149 (.func #[] #[41] false) := ⟨Tryz.underlying149⟩
instance ti149 : TI Tryz.prog 149 (.nilFunc) 1 8 := ⟨by kernel_rfl⟩
instance na149 : NAgg Tryz.prog 149 := ⟨fun _ => by kernel_rfl⟩
instance ul150 : UL Tryz.prog 150 (.func #[9] #[3] false) := ⟨Tryz.underlying150⟩
instance ti150 : TI Tryz.prog 150 (.nilFunc) 1 8 := ⟨by kernel_rfl⟩
instance na150 : NAgg Tryz.prog 150 := ⟨fun _ => by kernel_rfl⟩
instance ul151 : UL Tryz.prog 151 (.func #[152] #[3] false) := ⟨Tryz.underlying151⟩
instance ti151 : TI Tryz.prog 151 (.nilFunc) 1 8 := ⟨by kernel_rfl⟩
instance na151 : NAgg Tryz.prog 151 := ⟨fun _ => by kernel_rfl⟩
instance ul152 : UL Tryz.prog 152 (.int .u64) := ⟨Tryz.underlying152⟩
instance ti152 : TI Tryz.prog 152 (.int .u64 0) 1 8 := ⟨by kernel_rfl⟩
instance na152 : NAgg Tryz.prog 152 := ⟨fun _ => by kernel_rfl⟩
instance ti153 : TI Tryz.prog 153 (.agg #[.int .u64 0, .bool false]) 2 16 := ⟨by kernel_rfl⟩
instance ia153 : IAgg Tryz.prog 153 2 := ⟨fun _ => ⟨by kernel_rfl, by kernel_rfl⟩⟩
instance fa153_0 : FA Tryz.prog 153 0 0 := ⟨fun _ _ => by kernel_rfl⟩
instance fd153_0 : FD Tryz.prog 153 0 0 := fd_mk (ft := 22) Tryz.underlying153 rfl
instance fa153_1 : FA Tryz.prog 153 1 1 := ⟨fun _ _ => by kernel_rfl⟩
instance fd153_1 : FD Tryz.prog 153 1 1 := fd_mk (ft := 4) Tryz.underlying153 rfl
instance bl153 : BL Tryz.prog 153 [(0, 1), (1, 1)] [.int .u64 0, .bool false] := bl_mk Tryz.underlying153 (fun _ => by kernel_rfl)
instance ti154 : TI Tryz.prog 154 (.agg #[.int .u64 0, .bool false]) 2 16 := ⟨by kernel_rfl⟩
instance ia154 : IAgg Tryz.prog 154 2 := ⟨fun _ => ⟨by kernel_rfl, by kernel_rfl⟩⟩
instance fa154_0 : FA Tryz.prog 154 0 0 := ⟨fun _ _ => by kernel_rfl⟩
instance fd154_0 : FD Tryz.prog 154 0 0 := fd_mk (ft := 22) Tryz.underlying154 rfl
instance fa154_1 : FA Tryz.prog 154 1 1 := ⟨fun _ _ => by kernel_rfl⟩
instance fd154_1 : FD Tryz.prog 154 1 1 := fd_mk (ft := 4) Tryz.underlying154 rfl
instance bl154 : BL Tryz.prog 154 [(0, 1), (1, 1)] [.int .u64 0, .bool false] := bl_mk Tryz.underlying154 (fun _ => by kernel_rfl)
instance ul155 : UL Tryz.prog 155 (.func #[22, 4] #[154] false) := ⟨Tryz.underlying155⟩
instance ti155 : TI Tryz.prog 155 (.nilFunc) 1 8 := ⟨by kernel_rfl⟩
instance na155 : NAgg Tryz.prog 155 := ⟨fun _ => by kernel_rfl⟩
instance ul156 : UL Tryz.prog 156 (.slice 22) := ⟨Tryz.underlying156⟩
instance ti156 : TI Tryz.prog 156 (.slice none 0 0) 1 24 := ⟨by kernel_rfl⟩
instance na156 : NAgg Tryz.prog 156 := ⟨fun _ => by kernel_rfl⟩
instance ul157 : UL Tryz.prog 157 (.array 4 156) := ⟨Tryz.underlying157⟩
instance ti157 : TI Tryz.prog 157 (.agg #[.slice none 0 0, .slice none 0 0, .slice none 0 0, .slice none 0 0]) 4 96 := ⟨by kernel_rfl⟩
instance ia157 : IAgg Tryz.prog 157 4 := ⟨fun _ => ⟨by kernel_rfl, by kernel_rfl⟩⟩
instance ti158 : TI Tryz.prog 158 (.agg #[.int .i64 0, .int .i64 0, .int .i64 0, .int .u64 0, .bool false, .slice none 0 0, .slice none 0 0, .slice none 0 0, .slice none 0 0]) 9 136 := ⟨by kernel_rfl⟩
instance ia158 : IAgg Tryz.prog 158 9 := ⟨fun _ => ⟨by kernel_rfl, by kernel_rfl⟩⟩
instance fa158_0 : FA Tryz.prog 158 0 0 := ⟨fun _ _ => by kernel_rfl⟩
instance fd158_0 : FD Tryz.prog 158 0 0 := fd_mk (ft := 3) Tryz.underlying158 rfl
instance fa158_1 : FA Tryz.prog 158 1 1 := ⟨fun _ _ => by kernel_rfl⟩
instance fd158_1 : FD Tryz.prog 158 1 1 := fd_mk (ft := 3) Tryz.underlying158 rfl
instance fa158_2 : FA Tryz.prog 158 2 2 := ⟨fun _ _ => by kernel_rfl⟩
instance fd158_2 : FD Tryz.prog 158 2 2 := fd_mk (ft := 3) Tryz.underlying158 rfl
instance fa158_3 : FA Tryz.prog 158 3 3 := ⟨fun _ _ => by kernel_rfl⟩
instance fa158_4 : FA Tryz.prog 158 4 5 := ⟨fun _ _ => by kernel_rfl⟩
instance bl158 : BL Tryz.prog 158 [(0, 1), (1, 1), (2, 1), (3, 2), (5, 4)] [.int .i64 0, .int .i64 0, .int .i64 0, .int .u64 0, .bool false, .slice none 0 0, .slice none 0 0, .slice none 0 0, .slice none 0 0] := bl_mk Tryz.underlying158 (fun _ => by kernel_rfl)
instance ti159 : TI Tryz.prog 159 (.agg #[.int .i64 0, .int .i64 0, .int .i64 0, .int .u64 0, .bool false, .slice none 0 0, .slice none 0 0, .slice none 0 0, .slice none 0 0]) 9 136 := ⟨by kernel_rfl⟩
instance ia159 : IAgg Tryz.prog 159 9 := ⟨fun _ => ⟨by kernel_rfl, by kernel_rfl⟩⟩
instance fa159_0 : FA Tryz.prog 159 0 0 := ⟨fun _ _ => by kernel_rfl⟩
instance fd159_0 : FD Tryz.prog 159 0 0 := fd_mk (ft := 3) Tryz.underlying159 rfl
instance fa159_1 : FA Tryz.prog 159 1 1 := ⟨fun _ _ => by kernel_rfl⟩
instance fd159_1 : FD Tryz.prog 159 1 1 := fd_mk (ft := 3) Tryz.underlying159 rfl
instance fa159_2 : FA Tryz.prog 159 2 2 := ⟨fun _ _ => by kernel_rfl⟩
instance fd159_2 : FD Tryz.prog 159 2 2 := fd_mk (ft := 3) Tryz.underlying159 rfl
instance fa159_3 : FA Tryz.prog 159 3 3 := ⟨fun _ _ => by kernel_rfl⟩
instance fa159_4 : FA Tryz.prog 159 4 5 := ⟨fun _ _ => by kernel_rfl⟩
instance bl159 : BL Tryz.prog 159 [(0, 1), (1, 1), (2, 1), (3, 2), (5, 4)] [.int .i64 0, .int .i64 0, .int .i64 0, .int .u64 0, .bool false, .slice none 0 0, .slice none 0 0, .slice none 0 0, .slice none 0 0] := bl_mk Tryz.underlying159 (fun _ => by kernel_rfl)
instance ti160 : TI Tryz.prog 160 (.agg #[.int .i64 0, .int .u64 0, .int .u64 0, .bool false, .slice none 0 0]) 5 56 := ⟨by kernel_rfl⟩
instance ia160 : IAgg Tryz.prog 160 5 := ⟨fun _ => ⟨by kernel_rfl, by kernel_rfl⟩⟩
instance fa160_0 : FA Tryz.prog 160 0 0 := ⟨fun _ _ => by kernel_rfl⟩
instance fd160_0 : FD Tryz.prog 160 0 0 := fd_mk (ft := 3) Tryz.underlying160 rfl
instance fa160_1 : FA Tryz.prog 160 1 1 := ⟨fun _ _ => by kernel_rfl⟩
instance fd160_1 : FD Tryz.prog 160 1 1 := fd_mk (ft := 22) Tryz.underlying160 rfl
instance fa160_2 : FA Tryz.prog 160 2 2 := ⟨fun _ _ => by kernel_rfl⟩
instance fa160_3 : FA Tryz.prog 160 3 4 := ⟨fun _ _ => by kernel_rfl⟩
instance fd160_3 : FD Tryz.prog 160 3 4 := fd_mk (ft := 156) Tryz.underlying160 rfl
instance bl160 : BL Tryz.prog 160 [(0, 1), (1, 1), (2, 2), (4, 1)] [.int .i64 0, .int .u64 0, .int .u64 0, .bool false, .slice none 0 0] := bl_mk Tryz.underlying160 (fun _ => by kernel_rfl)
instance ti161 : TI Tryz.prog 161 (.agg #[.int .i64 0, .int .u64 0, .int .u64 0, .bool false, .slice none 0 0]) 5 56 := ⟨by kernel_rfl⟩
instance ia161 : IAgg Tryz.prog 161 5 := ⟨fun _ => ⟨by kernel_rfl, by kernel_rfl⟩⟩
instance fa161_0 : FA Tryz.prog 161 0 0 := ⟨fun _ _ => by kernel_rfl⟩
instance fd161_0 : FD Tryz.prog 161 0 0 := fd_mk (ft := 3) Tryz.underlying161 rfl
instance fa161_1 : FA Tryz.prog 161 1 1 := ⟨fun _ _ => by kernel_rfl⟩
instance fd161_1 : FD Tryz.prog 161 1 1 := fd_mk (ft := 22) Tryz.underlying161 rfl
instance fa161_2 : FA Tryz.prog 161 2 2 := ⟨fun _ _ => by kernel_rfl⟩
instance fa161_3 : FA Tryz.prog 161 3 4 := ⟨fun _ _ => by kernel_rfl⟩
instance fd161_3 : FD Tryz.prog 161 3 4 := fd_mk (ft := 156) Tryz.underlying161 rfl
instance bl161 : BL Tryz.prog 161 [(0, 1), (1, 1), (2, 2), (4, 1)] [.int .i64 0, .int .u64 0, .int .u64 0, .bool false, .slice none 0 0] := bl_mk Tryz.underlying161 (fun _ => by kernel_rfl)
instance ul163 : UL Tryz.prog 163 (.func #[3, 3] #[119, 48] false) := ⟨Tryz.underlying163⟩
instance ti163 : TI Tryz.prog 163 (.nilFunc) 1 8 := ⟨by kernel_rfl⟩
instance na163 : NAgg Tryz.prog 163 := ⟨fun _ => by kernel_rfl⟩
instance ul164 : UL Tryz.prog 164 (.func #[27, 41] #[4] false) := ⟨Tryz.underlying164⟩
instance ti164 : TI Tryz.prog 164 (.nilFunc) 1 8 := ⟨by kernel_rfl⟩
instance na164 : NAgg Tryz.prog 164 := ⟨fun _ => by kernel_rfl⟩
instance ul165 : UL Tryz.prog 165 (.func #[41] #[36] false) := ⟨Tryz.underlying165⟩
instance ti165 : TI Tryz.prog 165 (.nilFunc) 1 8 := ⟨by kernel_rfl⟩
instance na165 : NAgg Tryz.prog 165 := ⟨fun _ => by kernel_rfl⟩
instance ul166 : UL Tryz.prog 166 (.func #[27, 41] #[27] false) := ⟨Tryz.underlying166⟩
instance ti166 : TI Tryz.prog 166 (.nilFunc) 1 8 := ⟨by kernel_rfl⟩
instance na166 : NAgg Tryz.prog 166 := ⟨fun _ => by kernel_rfl⟩
instance ul167 : UL Tryz.prog 167 (.func #[156] #[156] false) := ⟨Tryz.underlying167⟩
instance ti167 : TI Tryz.prog 167 (.nilFunc) 1 8 := ⟨by kernel_rfl⟩
instance na167 : NAgg Tryz.prog 167 := ⟨fun _ => by kernel_rfl⟩
instance ul168 : UL Tryz.prog 168 (.func #[] #[156] false) := ⟨Tryz.underlying168⟩
instance ti168 : TI Tryz.prog 168 (.nilFunc) 1 8 := ⟨by kernel_rfl⟩
instance na168 : NAgg Tryz.prog 168 := ⟨fun _ => by kernel_rfl⟩
instance ul169 : UL Tryz.prog 169 (.func #[66] #[66] false) := ⟨Tryz.underlying169⟩
instance ti169 : TI Tryz.prog 169 (.nilFunc) 1 8 := ⟨by kernel_rfl⟩
instance na169 : NAgg Tryz.prog 169 := ⟨fun _ => by kernel_rfl⟩
instance ul170 : UL Tryz.prog 170 (.func #[27] #[27] false) := ⟨Tryz.underlying170⟩
instance ti170 : TI Tryz.prog 170 (.nilFunc) 1 8 := ⟨by kernel_rfl⟩
instance na170 : NAgg Tryz.prog 170 := ⟨fun _ => by kernel_rfl⟩
instance ul171 : UL Tryz.prog 171 (.func #[] #[119] false) := ⟨Tryz.underlying171⟩
instance ti171 : TI Tryz.prog 171 (.nilFunc) 1 8 := ⟨by kernel_rfl⟩
instance na171 : NAgg Tryz.prog 171 := ⟨fun _ => by kernel_rfl⟩
instance ul172 : UL Tryz.prog 172 (.func #[3] #[27] false) := ⟨Tryz.underlying172⟩
instance ti172 : TI Tryz.prog 172 (.nilFunc) 1 8 := ⟨by kernel_rfl⟩
instance na172 : NAgg Tryz.prog 172 := ⟨fun _ => by kernel_rfl⟩
instance ul173 : UL Tryz.prog 173 (.func #[3, 128] #[4] false) := ⟨Tryz.underlying173⟩
instance ti173 : TI Tryz.prog 173 (.nilFunc) 1 8 := ⟨by kernel_rfl⟩
instance na173 : NAgg Tryz.prog 173 := ⟨fun _ => by kernel_rfl⟩
instance ul174 : UL Tryz.prog 174 (.func #[89] #[4] false) := ⟨Tryz.underlying174⟩
instance ti174 : TI Tryz.prog 174 (.nilFunc) 1 8 := ⟨by kernel_rfl⟩
instance na174 : NAgg Tryz.prog 174 := ⟨fun _ => by kernel_rfl⟩
instance ul175 : UL Tryz.prog 175 (.slice 5) := ⟨Tryz.underlying175⟩
instance ti175 : TI Tryz.prog 175 (.slice none 0 0) 1 24 := ⟨by kernel_rfl⟩
instance na175 : NAgg Tryz.prog 175 := ⟨fun _ => by kernel_rfl⟩
instance ul176 : UL Tryz.prog 176 (.func #[9, 177] #[] false) := ⟨Tryz.underlying176⟩
instance ti176 : TI Tryz.prog 176 (.nilFunc) 1 8 := ⟨by kernel_rfl⟩
instance na176 : NAgg Tryz.prog 176 := ⟨fun _ => by kernel_rfl⟩
instance ul177 : UL Tryz.prog 177 (.func #[3] #[] false) := ⟨Tryz.underlying177⟩
instance ti177 : TI Tryz.prog 177 (.nilFunc) 1 8 := ⟨by kernel_rfl⟩
instance na177 : NAgg Tryz.prog 177 := ⟨fun _ => by kernel_rfl⟩
instance ul178 : UL Tryz.prog 178 (.array 4 3) := ⟨Tryz.underlying178⟩
instance ti178 : TI Tryz.prog 178 (.agg #[.int .i64 0, .int .i64 0, .int .i64 0, .int .i64 0]) 4 32 := ⟨by kernel_rfl⟩
instance ia178 : IAgg Tryz.prog 178 4 := ⟨fun _ => ⟨by kernel_rfl, by kernel_rfl⟩⟩
instance ul179 : UL Tryz.prog 179 (.func #[9] #[178] false) := ⟨Tryz.underlying179⟩
instance ti179 : TI Tryz.prog 179 (.nilFunc) 1 8 := ⟨by kernel_rfl⟩
instance na179 : NAgg Tryz.prog 179 := ⟨fun _ => by kernel_rfl⟩
instance ti180 : TI Tryz.prog 180 (.agg #[.int .u32 0, .int .u32 0, .int .u32 0]) 3 12 := ⟨by kernel_rfl⟩
instance ia180 : IAgg Tryz.prog 180 3 := ⟨fun _ => ⟨by kernel_rfl, by kernel_rfl⟩⟩
instance fa180_0 : FA Tryz.prog 180 0 0 := ⟨fun _ _ => by kernel_rfl⟩
instance fd180_0 : FD Tryz.prog 180 0 0 := fd_mk (ft := 41) Tryz.underlying180 rfl
instance fa180_1 : FA Tryz.prog 180 1 1 := ⟨fun _ _ => by kernel_rfl⟩
instance fd180_1 : FD Tryz.prog 180 1 1 := fd_mk (ft := 41) Tryz.underlying180 rfl
instance fa180_2 : FA Tryz.prog 180 2 2 := ⟨fun _ _ => by kernel_rfl⟩
instance fd180_2 : FD Tryz.prog 180 2 2 := fd_mk (ft := 41) Tryz.underlying180 rfl
instance bl180 : BL Tryz.prog 180 [(0, 1), (1, 1), (2, 1)] [.int .u32 0, .int .u32 0, .int .u32 0] := bl_mk Tryz.underlying180 (fun _ => by kernel_rfl)
instance ti181 : TI Tryz.prog 181 (.agg #[.int .u32 0, .int .u32 0, .int .u32 0]) 3 12 := ⟨by kernel_rfl⟩
instance ia181 : IAgg Tryz.prog 181 3 := ⟨fun _ => ⟨by kernel_rfl, by kernel_rfl⟩⟩
instance fa181_0 : FA Tryz.prog 181 0 0 := ⟨fun _ _ => by kernel_rfl⟩
instance fd181_0 : FD Tryz.prog 181 0 0 := fd_mk (ft := 41) Tryz.underlying181 rfl
instance fa181_1 : FA Tryz.prog 181 1 1 := ⟨fun _ _ => by kernel_rfl⟩
instance fd181_1 : FD Tryz.prog 181 1 1 := fd_mk (ft := 41) Tryz.underlying181 rfl
instance fa181_2 : FA Tryz.prog 181 2 2 := ⟨fun _ _ => by kernel_rfl⟩
instance fd181_2 : FD Tryz.prog 181 2 2 := fd_mk (ft := 41) Tryz.underlying181 rfl
instance bl181 : BL Tryz.prog 181 [(0, 1), (1, 1), (2, 1)] [.int .u32 0, .int .u32 0, .int .u32 0] := bl_mk Tryz.underlying181 (fun _ => by kernel_rfl)
instance ul182 : UL Tryz.prog 182 (.slice 181) := ⟨Tryz.underlying182⟩
instance ti182 : TI Tryz.prog 182 (.slice none 0 0) 1 24 := ⟨by kernel_rfl⟩
instance na182 : NAgg Tryz.prog 182 := ⟨fun _ => by kernel_rfl⟩
instance ti183 : TI Tryz.prog 183 (.agg #[.slice none 0 0, .int .i64 0, .slice none 0 0]) 3 56 := ⟨by kernel_rfl⟩
instance ia183 : IAgg Tryz.prog 183 3 := ⟨fun _ => ⟨by kernel_rfl, by kernel_rfl⟩⟩
instance fa183_0 : FA Tryz.prog 183 0 0 := ⟨fun _ _ => by kernel_rfl⟩
instance fd183_0 : FD Tryz.prog 183 0 0 := fd_mk (ft := 182) Tryz.underlying183 rfl
instance fa183_1 : FA Tryz.prog 183 1 1 := ⟨fun _ _ => by kernel_rfl⟩
instance fd183_1 : FD Tryz.prog 183 1 1 := fd_mk (ft := 3) Tryz.underlying183 rfl
instance fa183_2 : FA Tryz.prog 183 2 2 := ⟨fun _ _ => by kernel_rfl⟩
instance fd183_2 : FD Tryz.prog 183 2 2 := fd_mk (ft := 28) Tryz.underlying183 rfl
instance bl183 : BL Tryz.prog 183 [(0, 1), (1, 1), (2, 1)] [.slice none 0 0, .int .i64 0, .slice none 0 0] := bl_mk Tryz.underlying183 (fun _ => by kernel_rfl)
instance ti184 : TI Tryz.prog 184 (.agg #[.slice none 0 0, .int .i64 0, .slice none 0 0]) 3 56 := ⟨by kernel_rfl⟩
instance ia184 : IAgg Tryz.prog 184 3 := ⟨fun _ => ⟨by kernel_rfl, by kernel_rfl⟩⟩
instance fa184_0 : FA Tryz.prog 184 0 0 := ⟨fun _ _ => by kernel_rfl⟩
instance fd184_0 : FD Tryz.prog 184 0 0 := fd_mk (ft := 182) Tryz.underlying184 rfl
instance fa184_1 : FA Tryz.prog 184 1 1 := ⟨fun _ _ => by kernel_rfl⟩
instance fd184_1 : FD Tryz.prog 184 1 1 := fd_mk (ft := 3) Tryz.underlying184 rfl
instance fa184_2 : FA Tryz.prog 184 2 2 := ⟨fun _ _ => by kernel_rfl⟩
instance fd184_2 : FD Tryz.prog 184 2 2 := fd_mk (ft := 28) Tryz.underlying184 rfl
instance bl184 : BL Tryz.prog 184 [(0, 1), (1, 1), (2, 1)] [.slice none 0 0, .int .i64 0, .slice none 0 0] := bl_mk Tryz.underlying184 (fun _ => by kernel_rfl)
instance ul185 : UL Tryz.prog 185 (.func #[3, 41, 4] #[48] false) := ⟨Tryz.underlying185⟩
instance ti185 : TI Tryz.prog 185 (.nilFunc) 1 8 := ⟨by kernel_rfl⟩
instance na185 : NAgg Tryz.prog 185 := ⟨fun _ => by kernel_rfl⟩
instance ul187 : UL Tryz.prog 187 (.func #[41] #[89] false) := ⟨Tryz.underlying187⟩
instance ti187 : TI Tryz.prog 187 (.nilFunc) 1 8 := ⟨by kernel_rfl⟩
instance na187 : NAgg Tryz.prog 187 := ⟨fun _ => by kernel_rfl⟩
instance ul188 : UL Tryz.prog 188 (.func #[27, 3] #[48] false) := ⟨Tryz.underlying188⟩
instance ti188 : TI Tryz.prog 188 (.nilFunc) 1 8 := ⟨by kernel_rfl⟩
instance na188 : NAgg Tryz.prog 188 := ⟨fun _ => by kernel_rfl⟩
instance ul189 : UL Tryz.prog 189 (.func #[3] #[48] false) := ⟨Tryz.underlying189⟩
instance ti189 : TI Tryz.prog 189 (.nilFunc) 1 8 := ⟨by kernel_rfl⟩
instance na189 : NAgg Tryz.prog 189 := ⟨fun _ => by kernel_rfl⟩
instance ul190 : UL Tryz.prog 190 (.func #[191] #[41, 48] false) := ⟨Tryz.underlying190⟩
instance ti190 : TI Tryz.prog 190 (.nilFunc) 1 8 := ⟨by kernel_rfl⟩
instance na190 : NAgg Tryz.prog 190 := ⟨fun _ => by kernel_rfl⟩
instance ul191 : UL Tryz.prog 191 (.func #[119, 3] #[41, 48] false) := ⟨Tryz.underlying191⟩
instance ti191 : TI Tryz.prog 191 (.nilFunc) 1 8 := ⟨by kernel_rfl⟩
instance na191 : NAgg Tryz.prog 191 := ⟨fun _ => by kernel_rfl⟩
instance ul192 : UL Tryz.prog 192 (.func #[3] #[41, 48] false) := ⟨Tryz.underlying192⟩
instance ti192 : TI Tryz.prog 192 (.nilFunc) 1 8 := ⟨by kernel_rfl⟩
instance na192 : NAgg Tryz.prog 192 := ⟨fun _ => by kernel_rfl⟩
instance ul193 : UL Tryz.prog 193 (.func #[89] #[3] false) := ⟨Tryz.underlying193⟩
instance ti193 : TI Tryz.prog 193 (.nilFunc) 1 8 := ⟨by kernel_rfl⟩
instance na193 : NAgg Tryz.prog 193 := ⟨fun _ => by kernel_rfl⟩
instance ul194 : UL Tryz.prog 194 (.func #[22] #[3] false) := ⟨Tryz.underlying194⟩
instance ti194 : TI Tryz.prog 194 (.nilFunc) 1 8 := ⟨by kernel_rfl⟩
instance na194 : NAgg Tryz.prog 194 := ⟨fun _ => by kernel_rfl⟩
instance ul195 : UL Tryz.prog 195 (.int .i64) := ⟨Tryz.underlying195⟩
instance ti195 : TI Tryz.prog 195 (.int .i64 0) 1 8 := ⟨by kernel_rfl⟩
instance na195 : NAgg Tryz.prog 195 := ⟨fun _ => by kernel_rfl⟩
instance ul196 : UL Tryz.prog 196 (.func #[119] #[41] false) := ⟨Tryz.underlying196⟩
instance ti196 : TI Tryz.prog 196 (.nilFunc) 1 8 := ⟨by kernel_rfl⟩
instance na196 : NAgg Tryz.prog 196 := ⟨fun _ => by kernel_rfl⟩
instance ti197 : TI Tryz.prog 197 (.agg #[.int .i64 0, .slice none 0 0]) 2 32 := ⟨by kernel_rfl⟩
instance ia197 : IAgg Tryz.prog 197 2 := ⟨fun _ => ⟨by kernel_rfl, by kernel_rfl⟩⟩
instance fa197_0 : FA Tryz.prog 197 0 0 := ⟨fun _ _ => by kernel_rfl⟩
instance fd197_0 : FD Tryz.prog 197 0 0 := fd_mk (ft := 3) Tryz.underlying197 rfl
instance fa197_1 : FA Tryz.prog 197 1 1 := ⟨fun _ _ => by kernel_rfl⟩
instance fd197_1 : FD Tryz.prog 197 1 1 := fd_mk (ft := 27) Tryz.underlying197 rfl
instance bl197 : BL Tryz.prog 197 [(0, 1), (1, 1)] [.int .i64 0, .slice none 0 0] := bl_mk Tryz.underlying197 (fun _ => by kernel_rfl)
instance ti198 : TI Tryz.prog 198 (.agg #[.int .i64 0, .slice none 0 0]) 2 32 := ⟨by kernel_rfl⟩
instance ia198 : IAgg Tryz.prog 198 2 := ⟨fun _ => ⟨by kernel_rfl, by kernel_rfl⟩⟩
instance fa198_0 : FA Tryz.prog 198 0 0 := ⟨fun _ _ => by kernel_rfl⟩
instance fd198_0 : FD Tryz.prog 198 0 0 := fd_mk (ft := 3) Tryz.underlying198 rfl
instance fa198_1 : FA Tryz.prog 198 1 1 := ⟨fun _ _ => by kernel_rfl⟩
instance fd198_1 : FD Tryz.prog 198 1 1 := fd_mk (ft := 27) Tryz.underlying198 rfl
instance bl198 : BL Tryz.prog 198 [(0, 1), (1, 1)] [.int .i64 0, .slice none 0 0] := bl_mk Tryz.underlying198 (fun _ => by kernel_rfl)
instance ul199 : UL Tryz.prog 199 (.func #[9] #[28] false) := ⟨Tryz.underlying199⟩
instance ti199 : TI Tryz.prog 199 (.nilFunc) 1 8 := ⟨by kernel_rfl⟩
instance na199 : NAgg Tryz.prog 199 := ⟨fun _ => by kernel_rfl⟩
instance ul201 : UL Tryz.prog 201 (.func #[9] #[31, 4] false) := ⟨Tryz.underlying201⟩
instance ti201 : TI Tryz.prog 201 (.nilFunc) 1 8 := ⟨by kernel_rfl⟩
instance na201 : NAgg Tryz.prog 201 := ⟨fun _ => by kernel_rfl⟩
instance ul203 : UL Tryz.prog 203 (.func #[9] #[34, 4] false) := ⟨Tryz.underlying203⟩
instance ti203 : TI Tryz.prog 203 (.nilFunc) 1 8 := ⟨by kernel_rfl⟩
instance na203 : NAgg Tryz.prog 203 := ⟨fun _ => by kernel_rfl⟩
instance ul204 : UL Tryz.prog 204 (.func #[] #[31] false) := ⟨Tryz.underlying204⟩
instance ti204 : TI Tryz.prog 204 (.nilFunc) 1 8 := ⟨by kernel_rfl⟩
instance na204 : NAgg Tryz.prog 204 := ⟨fun _ => by kernel_rfl⟩
instance ul205 : UL Tryz.prog 205 (.func #[20] #[20] false) := ⟨Tryz.underlying205⟩
instance ti205 : TI Tryz.prog 205 (.nilFunc) 1 8 := ⟨by kernel_rfl⟩
instance na205 : NAgg Tryz.prog 205 := ⟨fun _ => by kernel_rfl⟩
instance ul206 : UL Tryz.prog 206 (.func #[9] #[22] false) := ⟨Tryz.underlying206⟩
instance ti206 : TI Tryz.prog 206 (.nilFunc) 1 8 := ⟨by kernel_rfl⟩
instance na206 : NAgg Tryz.prog 206 := ⟨fun _ => by kernel_rfl⟩
instance ul207 : UL Tryz.prog 207 (.func #[41, 41] #[] false) := ⟨Tryz.underlying207⟩
instance ti207 : TI Tryz.prog 207 (.nilFunc) 1 8 := ⟨by kernel_rfl⟩
instance na207 : NAgg Tryz.prog 207 := ⟨fun _ => by kernel_rfl⟩
instance ul208 : UL Tryz.prog 208 (.func #[41] #[41, 48] false) := ⟨Tryz.underlying208⟩
instance ti208 : TI Tryz.prog 208 (.nilFunc) 1 8 := ⟨by kernel_rfl⟩
instance na208 : NAgg Tryz.prog 208 := ⟨fun _ => by kernel_rfl⟩
instance ul209 : UL Tryz.prog 209 (.func #[22, 4, 9] #[22] false) := ⟨Tryz.underlying209⟩
instance ti209 : TI Tryz.prog 209 (.nilFunc) 1 8 := ⟨by kernel_rfl⟩
instance na209 : NAgg Tryz.prog 209 := ⟨fun _ => by kernel_rfl⟩
instance ul210 : UL Tryz.prog 210 (.func #[22] #[22] false) := ⟨Tryz.underlying210⟩
instance ti210 : TI Tryz.prog 210 (.nilFunc) 1 8 := ⟨by kernel_rfl⟩
instance na210 : NAgg Tryz.prog 210 := ⟨fun _ => by kernel_rfl⟩
instance ul211 : UL Tryz.prog 211 (.func #[22, 9] #[22] false) := ⟨Tryz.underlying211⟩
instance ti211 : TI Tryz.prog 211 (.nilFunc) 1 8 := ⟨by kernel_rfl⟩
instance na211 : NAgg Tryz.prog 211 := ⟨fun _ => by kernel_rfl⟩
instance ul212 : UL Tryz.prog 212 (.func #[22, 3] #[22] false) := ⟨Tryz.underlying212⟩
instance ti212 : TI Tryz.prog 212 (.nilFunc) 1 8 := ⟨by kernel_rfl⟩
instance na212 : NAgg Tryz.prog 212 := ⟨fun _ => by kernel_rfl⟩
instance ul213 : UL Tryz.prog 213 (.func #[] #[9] false) := ⟨Tryz.underlying213⟩
instance ti213 : TI Tryz.prog 213 (.nilFunc) 1 8 := ⟨by kernel_rfl⟩
instance na213 : NAgg Tryz.prog 213 := ⟨fun _ => by kernel_rfl⟩
instance ul216 : UL Tryz.prog 216 (.array 0 16) := ⟨Tryz.underlying216⟩
instance ti216 : TI Tryz.prog 216 (.agg #[]) 0 0 := ⟨by kernel_rfl⟩
instance ia216 : IAgg Tryz.prog 216 0 := ⟨fun _ => ⟨by kernel_rfl, by kernel_rfl⟩⟩
instance ul221 : UL Tryz.prog 221 (.func #[228, 228] #[4] false) := ⟨Tryz.underlying221⟩
instance ti221 : TI Tryz.prog 221 (.nilFunc) 1 8 := ⟨by kernel_rfl⟩
instance na221 : NAgg Tryz.prog 221 := ⟨fun _ => by kernel_rfl⟩
instance ul222 : UL Tryz.prog 222 (.pointer 5) := ⟨Tryz.underlying222⟩
instance ti222 : TI Tryz.prog 222 (.pointer none) 1 8 := ⟨by kernel_rfl⟩
instance na222 : NAgg Tryz.prog 222 := ⟨fun _ => by kernel_rfl⟩
instance ul227 : UL Tryz.prog 227 (.func #[] #[22, 4] false) := ⟨Tryz.underlying227⟩
instance ti227 : TI Tryz.prog 227 (.nilFunc) 1 8 := ⟨by kernel_rfl⟩
instance na227 : NAgg Tryz.prog 227 := ⟨fun _ => by kernel_rfl⟩
instance ti228 : TI Tryz.prog 228 (.pointer none) 1 8 := ⟨by kernel_rfl⟩
instance na228 : NAgg Tryz.prog 228 := ⟨fun _ => by kernel_rfl⟩
instance cf3 : CF Tryz.prog 3 := ⟨fun _ _ => by kernel_rfl⟩
instance cf4 : CF Tryz.prog 4 := ⟨fun _ _ => by kernel_rfl⟩
instance cf5 : CF Tryz.prog 5 := ⟨fun _ _ => by kernel_rfl⟩
instance cf6 : CF Tryz.prog 6 := ⟨fun _ _ => by kernel_rfl⟩
instance cf7 : CF Tryz.prog 7 := ⟨fun _ _ => by kernel_rfl⟩
instance cf8 : CF Tryz.prog 8 := ⟨fun _ _ => by kernel_rfl⟩
instance cf9 : CF Tryz.prog 9 := ⟨fun _ _ => by kernel_rfl⟩
instance cf10 : CF Tryz.prog 10 := ⟨fun _ _ => by kernel_rfl⟩
instance cf11 : CF Tryz.prog 11 := ⟨fun _ _ => by kernel_rfl⟩
instance cf12 : CF Tryz.prog 12 := ⟨fun _ _ => by kernel_rfl⟩
instance cf13 : CF Tryz.prog 13 := ⟨fun _ _ => by kernel_rfl⟩
instance cf14 : CF Tryz.prog 14 := ⟨fun _ _ => by kernel_rfl⟩
instance cf15 : CF Tryz.prog 15 := ⟨fun _ _ => by kernel_rfl⟩
instance cf16 : CF Tryz.prog 16 := ⟨fun _ _ => by kernel_rfl⟩
instance cf17 : CF Tryz.prog 17 := ⟨fun _ _ => by kernel_rfl⟩
instance cf18 : CF Tryz.prog 18 := ⟨fun _ _ => by kernel_rfl⟩
instance cf19 : CF Tryz.prog 19 := ⟨fun _ _ => by kernel_rfl⟩
instance cf20 : CF Tryz.prog 20 := ⟨fun _ _ => by kernel_rfl⟩
instance cf21 : CF Tryz.prog 21 := ⟨fun _ _ => by kernel_rfl⟩
instance cf22 : CF Tryz.prog 22 := ⟨fun _ _ => by kernel_rfl⟩
instance cf23 : CF Tryz.prog 23 := ⟨fun _ _ => by kernel_rfl⟩
instance cf24 : CF Tryz.prog 24 := ⟨fun _ _ => by kernel_rfl⟩
instance cf25 : CF Tryz.prog 25 := ⟨fun _ _ => by kernel_rfl⟩
instance cf26 : CF Tryz.prog 26 := ⟨fun _ _ => by kernel_rfl⟩
instance cf27 : CF Tryz.prog 27 := ⟨fun _ _ => by kernel_rfl⟩
instance cf28 : CF Tryz.prog 28 := ⟨fun _ _ => by kernel_rfl⟩
instance cf29 : CF Tryz.prog 29 := ⟨fun _ _ => by kernel_rfl⟩
instance cf30 : CF Tryz.prog 30 := ⟨fun _ _ => by kernel_rfl⟩
instance cf31 : CF Tryz.prog 31 := ⟨fun _ _ => by kernel_rfl⟩
instance cf32 : CF Tryz.prog 32 := ⟨fun _ _ => by kernel_rfl⟩
instance cf33 : CF Tryz.prog 33 := ⟨fun _ _ => by kernel_rfl⟩
instance cf34 : CF Tryz.prog 34 := ⟨fun _ _ => by kernel_rfl⟩
instance cf35 : CF Tryz.prog 35 := ⟨fun _ _ => by kernel_rfl⟩
instance cf36 : CF Tryz.prog 36 := ⟨fun _ _ => by kernel_rfl⟩
instance cf37 : CF Tryz.prog 37 := ⟨fun _ _ => by kernel_rfl⟩
instance cf38 : CF Tryz.prog 38 := ⟨fun _ _ => by kernel_rfl⟩
instance cf39 : CF Tryz.prog 39 := ⟨fun _ _ => by kernel_rfl⟩
instance cf40 : CF Tryz.prog 40 := ⟨fun _ _ => by kernel_rfl⟩
instance cf41 : CF Tryz.prog 41 := ⟨fun _ _ => by kernel_rfl⟩
instance cf42 : CF Tryz.prog 42 := ⟨fun _ _ => by kernel_rfl⟩
instance cf43 : CF Tryz.prog 43 := ⟨fun _ _ => by kernel_rfl⟩
instance cf44 : CF Tryz.prog 44 := ⟨fun _ _ => by kernel_rfl⟩
instance cf45 : CF Tryz.prog 45 := ⟨fun _ _ => by kernel_rfl⟩
instance cf46 : CF Tryz.prog 46 := ⟨fun _ _ => by kernel_rfl⟩
instance cf47 : CF Tryz.prog 47 := ⟨fun _ _ => by kernel_rfl⟩
instance cf48 : CF Tryz.prog 48 := ⟨fun _ _ => by kernel_rfl⟩
instance cf49 : CF Tryz.prog 49 := ⟨fun _ _ => by kernel_rfl⟩
instance cf50 : CF Tryz.prog 50 := ⟨fun _ _ => by kernel_rfl⟩
instance cf51 : CF Tryz.prog 51 := ⟨fun _ _ => by kernel_rfl⟩
instance cf52 : CF Tryz.prog 52 := ⟨fun _ _ => by kernel_rfl⟩
instance cf53 : CF Tryz.prog 53 := ⟨fun _ _ => by kernel_rfl⟩
instance cf54 : CF Tryz.prog 54 := ⟨fun _ _ => by kernel_rfl⟩
instance cf55 : CF Tryz.prog 55 := ⟨fun _ _ => by kernel_rfl⟩
instance cf56 : CF Tryz.prog 56 := ⟨fun _ _ => by kernel_rfl⟩
instance cf57 : CF Tryz.prog 57 := ⟨fun _ _ => by kernel_rfl⟩
instance cf58 : CF Tryz.prog 58 := ⟨fun _ _ => by kernel_rfl⟩
instance cf59 : CF Tryz.prog 59 := ⟨fun _ _ => by kernel_rfl⟩
instance cf60 : CF Tryz.prog 60 := ⟨fun _ _ => by kernel_rfl⟩
instance cf62 : CF Tryz.prog 62 := ⟨fun _ _ => by kernel_rfl⟩
instance cf63 : CF Tryz.prog 63 := ⟨fun _ _ => by kernel_rfl⟩
instance cf64 : CF Tryz.prog 64 := ⟨fun _ _ => by kernel_rfl⟩
instance cf65 : CF Tryz.prog 65 := ⟨fun _ _ => by kernel_rfl⟩
instance cf66 : CF Tryz.prog 66 := ⟨fun _ _ => by kernel_rfl⟩
instance cf67 : CF Tryz.prog 67 := ⟨fun _ _ => by kernel_rfl⟩
instance cf68 : CF Tryz.prog 68 := ⟨fun _ _ => by kernel_rfl⟩
instance cf69 : CF Tryz.prog 69 := ⟨fun _ _ => by kernel_rfl⟩
instance cf70 : CF Tryz.prog 70 := ⟨fun _ _ => by kernel_rfl⟩
instance cf71 : CF Tryz.prog 71 := ⟨fun _ _ => by kernel_rfl⟩
instance cf72 : CF Tryz.prog 72 := ⟨fun _ _ => by kernel_rfl⟩
instance cf73 : CF Tryz.prog 73 := ⟨fun _ _ => by kernel_rfl⟩
instance cf74 : CF Tryz.prog 74 := ⟨fun _ _ => by kernel_rfl⟩
instance cf75 : CF Tryz.prog 75 := ⟨fun _ _ => by kernel_rfl⟩
instance cf76 : CF Tryz.prog 76 := ⟨fun _ _ => by kernel_rfl⟩
instance cf77 : CF Tryz.prog 77 := ⟨fun _ _ => by kernel_rfl⟩
instance cf78 : CF Tryz.prog 78 := ⟨fun _ _ => by kernel_rfl⟩
instance cf79 : CF Tryz.prog 79 := ⟨fun _ _ => by kernel_rfl⟩
instance cf80 : CF Tryz.prog 80 := ⟨fun _ _ => by kernel_rfl⟩
instance cf81 : CF Tryz.prog 81 := ⟨fun _ _ => by kernel_rfl⟩
instance cf82 : CF Tryz.prog 82 := ⟨fun _ _ => by kernel_rfl⟩
instance cf83 : CF Tryz.prog 83 := ⟨fun _ _ => by kernel_rfl⟩
instance cf84 : CF Tryz.prog 84 := ⟨fun _ _ => by kernel_rfl⟩
instance cf85 : CF Tryz.prog 85 := ⟨fun _ _ => by kernel_rfl⟩
instance cf86 : CF Tryz.prog 86 := ⟨fun _ _ => by kernel_rfl⟩
instance cf87 : CF Tryz.prog 87 := ⟨fun _ _ => by kernel_rfl⟩
instance cf88 : CF Tryz.prog 88 := ⟨fun _ _ => by kernel_rfl⟩
instance cf89 : CF Tryz.prog 89 := ⟨fun _ _ => by kernel_rfl⟩
instance cf90 : CF Tryz.prog 90 := ⟨fun _ _ => by kernel_rfl⟩
instance cf91 : CF Tryz.prog 91 := ⟨fun _ _ => by kernel_rfl⟩
instance cf92 : CF Tryz.prog 92 := ⟨fun _ _ => by kernel_rfl⟩
instance cf93 : CF Tryz.prog 93 := ⟨fun _ _ => by kernel_rfl⟩
instance cf94 : CF Tryz.prog 94 := ⟨fun _ _ => by kernel_rfl⟩
instance cf95 : CF Tryz.prog 95 := ⟨fun _ _ => by kernel_rfl⟩
instance cf96 : CF Tryz.prog 96 := ⟨fun _ _ => by kernel_rfl⟩
instance cf97 : CF Tryz.prog 97 := ⟨fun _ _ => by kernel_rfl⟩
instance cf98 : CF Tryz.prog 98 := ⟨fun _ _ => by kernel_rfl⟩
instance cf99 : CF Tryz.prog 99 := ⟨fun _ _ => by kernel_rfl⟩
instance cf100 : CF Tryz.prog 100 := ⟨fun _ _ => by kernel_rfl⟩
instance cf101 : CF Tryz.prog 101 := ⟨fun _ _ => by kernel_rfl⟩
instance cf102 : CF Tryz.prog 102 := ⟨fun _ _ => by kernel_rfl⟩
instance cf103 : CF Tryz.prog 103 := ⟨fun _ _ => by kernel_rfl⟩
instance cf104 : CF Tryz.prog 104 := ⟨fun _ _ => by kernel_rfl⟩
instance cf105 : CF Tryz.prog 105 := ⟨fun _ _ => by kernel_rfl⟩
instance cf106 : CF Tryz.prog 106 := ⟨fun _ _ => by kernel_rfl⟩
instance cf107 : CF Tryz.prog 107 := ⟨fun _ _ => by kernel_rfl⟩
instance cf108 : CF Tryz.prog 108 := ⟨fun _ _ => by kernel_rfl⟩
instance cf109 : CF Tryz.prog 109 := ⟨fun _ _ => by kernel_rfl⟩
instance cf110 : CF Tryz.prog 110 := ⟨fun _ _ => by kernel_rfl⟩
instance cf111 : CF Tryz.prog 111 := ⟨fun _ _ => by kernel_rfl⟩
instance cf112 : CF Tryz.prog 112 := ⟨fun _ _ => by kernel_rfl⟩
instance cf113 : CF Tryz.prog 113 := ⟨fun _ _ => by kernel_rfl⟩
instance cf114 : CF Tryz.prog 114 := ⟨fun _ _ => by kernel_rfl⟩
instance cf115 : CF Tryz.prog 115 := ⟨fun _ _ => by kernel_rfl⟩
instance cf116 : CF Tryz.prog 116 := ⟨fun _ _ => by kernel_rfl⟩
instance cf117 : CF Tryz.prog 117 := ⟨fun _ _ => by kernel_rfl⟩
instance cf118 : CF Tryz.prog 118 := ⟨fun _ _ => by kernel_rfl⟩
instance cf119 : CF Tryz.prog 119 := ⟨fun _ _ => by kernel_rfl⟩
instance cf120 : CF Tryz.prog 120 := ⟨fun _ _ => by kernel_rfl⟩
instance cf121 : CF Tryz.prog 121 := ⟨fun _ _ => by kernel_rfl⟩
instance cf122 : CF Tryz.prog 122 := ⟨fun _ _ => by kernel_rfl⟩
instance cf123 : CF Tryz.prog 123 := ⟨fun _ _ => by kernel_rfl⟩
instance cf124 : CF Tryz.prog 124 := ⟨fun _ _ => by kernel_rfl⟩
instance cf125 : CF Tryz.prog 125 := ⟨fun _ _ => by kernel_rfl⟩
instance cf126 : CF Tryz.prog 126 := ⟨fun _ _ => by kernel_rfl⟩
instance cf127 : CF Tryz.prog 127 := ⟨fun _ _ => by kernel_rfl⟩
instance cf128 : CF Tryz.prog 128 := ⟨fun _ _ => by kernel_rfl⟩
instance cf129 : CF Tryz.prog 129 := ⟨fun _ _ => by kernel_rfl⟩
instance cf130 : CF Tryz.prog 130 := ⟨fun _ _ => by kernel_rfl⟩
instance cf131 : CF Tryz.prog 131 := ⟨fun _ _ => by kernel_rfl⟩
instance cf133 : CF Tryz.prog 133 := ⟨fun _ _ => by kernel_rfl⟩
instance cf134 : CF Tryz.prog 134 := ⟨fun _ _ => by kernel_rfl⟩
instance cf135 : CF Tryz.prog 135 := ⟨fun _ _ => by kernel_rfl⟩
instance cf136 : CF Tryz.prog 136 := ⟨fun _ _ => by kernel_rfl⟩
instance cf137 : CF Tryz.prog 137 := ⟨fun _ _ => by kernel_rfl⟩
instance cf138 : CF Tryz.prog 138 := ⟨fun _ _ => by kernel_rfl⟩
instance cf139 : CF Tryz.prog 139 := ⟨fun _ _ => by kernel_rfl⟩
instance cf140 : CF Tryz.prog 140 := ⟨fun _ _ => by kernel_rfl⟩
instance cf141 : CF Tryz.prog 141 := ⟨fun _ _ => by kernel_rfl⟩
instance cf142 : CF Tryz.prog 142 := ⟨fun _ _ => by kernel_rfl⟩
instance cf143 : CF Tryz.prog 143 := ⟨fun _ _ => by kernel_rfl⟩
instance ex132 : EX Tryz.prog 132 Extern.MapsClone.clone := ⟨fun args w => run_callFunc_extern Tryz.func132 (by kernel_rfl) (by kernel_rfl) (by kernel_rfl) (by kernel_rfl) args w⟩
instance mz3 : MZ Tryz.prog 3 (fun z : Int => .int .i64 z) 0 := ⟨fun w => by have h := (mz_of (P := Tryz.prog) (e := 3) (V := fun v : Value => v)).out w; exact h⟩
instance mz4 : MZ Tryz.prog 4 (fun b : Bool => .bool b) false := ⟨fun w => by have h := (mz_of (P := Tryz.prog) (e := 4) (V := fun v : Value => v)).out w; exact h⟩
instance mz41 : MZ Tryz.prog 41 (fun n : Nat => .int .u32 (n : Nat)) 0 := ⟨fun w => by have h := (mz_of (P := Tryz.prog) (e := 41) (V := fun v : Value => v)).out w; exact h⟩
end Go.Proofs.YtdpiglociolagaaGreat
