/- arc, walked: slots that come and go. -/
import Derived.Test.YtcgdkcdlglbigaaArW1
namespace Go.Proofs.Ytcgdkcdlglbigaa
open Go.Lk Go.Sl Go.Gh Go.Lr Go.Tb Go.Ar
attribute [local irreducible] TK TL TC Th Bk Nx fnPost WA TQ OpQ OpN SpecH Rd Ent IterH RoundH Rb Rp fnPostM
attribute [local irreducible] Fld.addE Fld.addF Fld.befE Fld.befF Fld.inE Fld.remF Fld.first Fld.last Fld.next Fld.prev Fld.ofR Fld.listOf Fld.joinE Fld.joinF renE renG Fld.at Fld.set Fld.place
attribute [local irreducible] Gh.addL Gh.addV Gh.addB Lr.addL Lr.addE Lr.useL Lr.remE Ar.useS Ar.roomS Ar.missS
instance ar_zero : Known Try.prog 67 (∀ (p size : Nat) (v1 v2 v3 v4 v5 v6 v7 v8 : Value), 1 ≤ size → size ≤ 1024 → SpecH Try.prog 67 #[.pointer (some ⟨p, 0, none⟩)] [obj p 90 [.int .i64 (size : Nat), v1, v2, v3, v4, v5, v6, v7, v8]] (fun _ : Unit => .bool false) (fun _ => [obj p 90 [.int .i64 (size : Nat), v1, v2, v3, v4, v5, v6, v7, v8]])) := ⟨fun p size v1 v2 v3 v4 v5 v6 v7 v8 h1 h2 => by
  refine spec_of Try.func67 rfl Try.ntmps67 rfl [(0, _)] rfl ?_; intro base F l0 hl0; (try simp only [List.cons_append] at hl0); (try simp only [List.nil_append] at hl0); subst hl0
  repeat' (first | refine stp ?_ | refine And.intro ?_ ?_ | (intro e; exfalso; omega) | (intro e; subst e) | intro _)
  exact rt1 () rfl⟩
instance ar_len : Known Try.prog 34 (∀ (p size bm : Nat) (kv : List (Nat × Nat)) (v2 v3 v4 v5 v6 v7 v8 : Value), 1 ≤ size → size ≤ 1024 → SpecH Try.prog 34 #[.pointer (some ⟨p, 0, none⟩)] [obj p 90 [.int .i64 (size : Nat), .map (some bm), v2, v3, v4, v5, v6, v7, v8], MapA .u32 (fun n : Nat => .int .u32 (n : Nat)) bm kv] (fun _ : Unit => .int .i64 (kv.length : Nat)) (fun _ => [obj p 90 [.int .i64 (size : Nat), .map (some bm), v2, v3, v4, v5, v6, v7, v8], MapA .u32 (fun n : Nat => .int .u32 (n : Nat)) bm kv])) := ⟨fun p size bm kv v2 v3 v4 v5 v6 v7 v8 h1 h2 => by
  refine spec_of Try.func34 rfl Try.ntmps34 rfl [(0, _)] rfl ?_; intro base F l0 hl0; (try simp only [List.cons_append] at hl0); (try simp only [List.nil_append] at hl0); subst hl0
  repeat' (first | refine stp ?_ | refine And.intro ?_ ?_ | (intro e; exfalso; omega) | (intro e; subst e) | intro _)
  exact rt1 () rfl⟩
set_option maxHeartbeats 4000000 in
instance ar_tadd : Known Try.prog 72 (∀ (p size bm aK cK : Nat) (af : Option Addr) (cf z k : Nat) (kv : List (Nat × Nat)) (K r : List Nat) (v4 v5 v6 v7 v8 : Value), z < size → K.length = size → size ≤ 1024 → r.length < 1024 → k < 4294967296 → SpecH Try.prog 72 #[.pointer (some ⟨p, 1, none⟩), .int .u32 (k : Nat)] [obj p 90 [.int .i64 (size : Nat), .map (some bm), .slice (some ⟨aK, 0, none⟩) size cK, .slice af (r.length + 1) cf, v4, v5, v6, v7, v8], MapA .u32 (fun n : Nat => .int .u32 (n : Nat)) bm kv, Vec 31 1 (some ⟨aK, 0, none⟩) size cK (u32s K), Vec 31 1 af (r.length + 1) cf (u32s (r ++ [z]))] (fun _ : Unit => .int .u32 (z : Nat)) (fun _ => [obj p 90 [.int .i64 (size : Nat), .map (some bm), .slice (some ⟨aK, 0, none⟩) size cK, .slice af r.length cf, v4, v5, v6, v7, v8], MapA .u32 (fun n : Nat => .int .u32 (n : Nat)) bm (mput kv k z), Vec 31 1 (some ⟨aK, 0, none⟩) size cK (u32s (K.set z k)), Vec 31 1 af r.length cf (u32s r)])) := ⟨fun p size bm aK cK af cf z k kv K r v4 v5 v6 v7 v8 hz hK hs hr hk => by
  refine spec_of Try.func72 rfl Try.ntmps72 rfl [(0, _), (1, _)] rfl ?_; intro base F l0 hl0; (try simp only [List.cons_append] at hl0); (try simp only [List.nil_append] at hl0); subst hl0
  refine TC.vecAt (a := af) (by (repeat (first | (with_reducible exact Rem.here _ _) | (with_reducible apply Rem.there) | fail)); done) (by omega) ?_
  rintro ⟨af, rfl⟩
  refine TC.vecLen (E := 31) (sz := 1) (a := some ⟨af, 0, none⟩) (k := r.length + 1) (cap := cf) (cs := u32s (r ++ [z])) (by (repeat (first | (with_reducible exact Rem.here _ _) | (with_reducible apply Rem.there) | fail)); done) fun hvl => ?_
  have hcap := hvl.2
  have hl : (r ++ [z]).length = r.length + 1 := by simp
  have hg : (r ++ [z]).getD r.length 0 = z := by simp
  haveI : AsNat (((r.length + 1 : Nat) : Int) - 1) r.length := ⟨fun _ => by omega⟩
  repeat' (first | refine stp ?_ | refine And.intro ?_ ?_ | (intro e; exfalso; omega) | (intro e; subst e) | intro _)
  refine tl_q (opq_sliceHi (by (first | exact want_none rfl | exact want_yes rfl rfl rfl rfl rfl | fail)) rfl rfl (by omega) (by omega)) rfl (Nat.lt_of_ble_eq rfl) ?_
  rw [show (((r.length + 1 : Nat) : Int) - 1).toNat = r.length by omega, show slA (some (⟨af, 0, none⟩ : Addr)) cf 0 1 = some ⟨af, 0, none⟩ by unfold slA; split <;> rfl]
  repeat' (first | ((fail_if_success (refine atD ?_)); refine stp ?_) | refine And.intro ?_ ?_ | (intro e; exfalso; omega) | (intro e; subst e) | intro _)
  rw [hg]
  refine drx [Vec 31 1 (some ⟨aK, 0, none⟩) size cK (u32s K), MapA .u32 (fun n : Nat => .int .u32 (n : Nat)) bm kv] ?_
  refine tks [0, 4, 5, 9, 10, 11, 1, 6, 2, 7, 3, 8] 5 ?_; repeat' (first | refine stp ?_ | refine And.intro ?_ ?_ | (intro e; exfalso; omega) | (intro e; subst e) | intro _)
  refine hvm 12 fun x12 => ?_
  refine tks [13] 3 ?_; repeat' (first | refine stp ?_ | refine And.intro ?_ ?_ | (intro e; exfalso; omega) | (intro e; subst e) | intro _)
  refine hvm0 14 fun x14 => ?_
  refine tks [15] 1 ?_; repeat' (first | refine stp ?_ | refine And.intro ?_ ?_ | (intro e; exfalso; omega) | (intro e; subst e) | intro _)
  refine hv0 16 fun x16 => ?_
  repeat' (first | refine stp ?_ | refine And.intro ?_ ?_ | (intro e; exfalso; omega) | (intro e; subst e) | intro _)
  refine TK.ent (ent_vecCutR' (by (repeat (first | (with_reducible exact Rem.here _ _) | (with_reducible apply Rem.there) | fail)); done)) ?_
  exact rt1 () rfl⟩
set_option maxHeartbeats 4000000 in
instance ar_trem : Known Try.prog 73 (∀ (p size bm aK cK : Nat) (af : Option Addr) (cf z k : Nat) (kv : List (Nat × Nat)) (fr : List Nat) (v4 v5 v6 v7 v8 : Value), mget kv k = some z → z < 1024 → fr.length ≤ 1024 → SpecH Try.prog 73 #[.pointer (some ⟨p, 1, none⟩), .int .u32 (k : Nat)] [obj p 90 [.int .i64 (size : Nat), .map (some bm), .slice (some ⟨aK, 0, none⟩) size cK, .slice af fr.length cf, v4, v5, v6, v7, v8], MapA .u32 (fun n : Nat => .int .u32 (n : Nat)) bm kv, Vec 31 1 af fr.length cf (u32s fr)] (fun _ : Option Addr × Nat => .tuple #[]) (fun q => [obj p 90 [.int .i64 (size : Nat), .map (some bm), .slice (some ⟨aK, 0, none⟩) size cK, .slice q.1 (fr.length + 1) q.2, v4, v5, v6, v7, v8], MapA .u32 (fun n : Nat => .int .u32 (n : Nat)) bm (mdel kv k), Vec 31 1 q.1 (fr.length + 1) q.2 (u32s (fr ++ [z]))])) := ⟨fun p size bm aK cK af cf z k kv fr v4 v5 v6 v7 v8 hg hz hf => by
  refine spec_of Try.func73 rfl Try.ntmps73 rfl [(0, _), (1, _)] rfl ?_; intro base F l0 hl0; (try simp only [List.cons_append] at hl0); (try simp only [List.nil_append] at hl0); subst hl0
  refine TC.vecLen (E := 31) (sz := 1) (a := af) (k := fr.length) (cap := cf) (cs := u32s fr) (by (repeat (first | (with_reducible exact Rem.here _ _) | (with_reducible apply Rem.there) | fail)); done) fun hvl => ?_
  have hcap := hvl.2
  repeat' (first | ((fail_if_success (refine atD ?_)); refine stp ?_) | refine And.intro ?_ ?_ | (intro e; exfalso; omega) | (intro e; subst e) | intro _)
  refine drx [obj p 90 [.int .i64 (size : Nat), .map (some bm), .slice (some ⟨aK, 0, none⟩) size cK, .slice af fr.length cf, v4, v5, v6, v7, v8], Vec 31 1 af fr.length cf (u32s fr)] ?_
  refine tks [0, 1, 5, 9, 2, 6, 3, 7] 8 ?_; repeat' (first | refine stp ?_ | refine And.intro ?_ ?_ | (intro e; exfalso; omega) | (intro e; subst e) | intro _)
  refine hvB 4 8 (fun _ => ?_) (fun _ => ?_)
  · refine hvr 8 ?_
    refine hvr 10 ?_
    refine hv 11 fun x11 => ?_
    refine hv 12 fun x12 => ?_; refine tks [13, 14] 1 ?_; (repeat' (first | refine stp ?_ | refine And.intro ?_ ?_ | (intro e; exfalso; omega) | (intro e; subst e) | intro _)); refine hv0 15 fun x15 => ?_; (repeat' (first | refine stp ?_ | refine And.intro ?_ ?_ | (intro e; exfalso; omega) | (intro e; subst e) | intro _)); rw [← snocU']; exact re0 (x12.1, x12.2) rfl
  · refine hvB 4 10 (fun _ => ?_) (fun _ => ?_)
    · refine hvr 10 ?_
      refine hv 11 fun x11 => ?_
      refine hv 12 fun x12 => ?_; refine tks [13, 14] 1 ?_; (repeat' (first | refine stp ?_ | refine And.intro ?_ ?_ | (intro e; exfalso; omega) | (intro e; subst e) | intro _)); refine hv0 15 fun x15 => ?_; (repeat' (first | refine stp ?_ | refine And.intro ?_ ?_ | (intro e; exfalso; omega) | (intro e; subst e) | intro _)); rw [← snocU']; exact re0 (x12.1, x12.2) rfl
    · refine hvB 4 11 (fun _ => ?_) (fun x11 => ?_)
      · refine hv 11 fun x11 => ?_
        refine hv 12 fun x12 => ?_; refine tks [13, 14] 1 ?_; (repeat' (first | refine stp ?_ | refine And.intro ?_ ?_ | (intro e; exfalso; omega) | (intro e; subst e) | intro _)); refine hv0 15 fun x15 => ?_; (repeat' (first | refine stp ?_ | refine And.intro ?_ ?_ | (intro e; exfalso; omega) | (intro e; subst e) | intro _)); rw [← snocU']; exact re0 (x12.1, x12.2) rfl
      · refine hvr 4 ?_
        refine hv 12 fun x12 => ?_; refine tks [13, 14] 1 ?_; (repeat' (first | refine stp ?_ | refine And.intro ?_ ?_ | (intro e; exfalso; omega) | (intro e; subst e) | intro _)); refine hv0 15 fun x15 => ?_; (repeat' (first | refine stp ?_ | refine And.intro ?_ ?_ | (intro e; exfalso; omega) | (intro e; subst e) | intro _)); rw [← snocU']; exact re0 (x12.1, x12.2) rfl⟩
end Go.Proofs.Ytcgdkcdlglbigaa
