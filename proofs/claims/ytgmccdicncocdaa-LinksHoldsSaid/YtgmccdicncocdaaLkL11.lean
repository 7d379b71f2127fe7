/- The laws of links, walked: calls, then other numbers and back. -/
import Derived.Test.YtgmccdicncocdaaLkL9
namespace Go.Proofs.Ytgmccdicncocdaa
open Go.Sl Go.Lk
section
variable {r : Option Nat} {P : Program} {base : World} {n : Nat} {ds : List Deferred} {Q : Exit → Act → World → Prop} {env : Env} {l lc : List HP} {all : Array Oper} {ro : List Oper} {dst : Option Tmp} {ty t yt : TypeId} {pos : String} {af : Array Edge} {g : Option (Nat × Bool)} {x y : Operand} {k : IntKind} {a b : Int} {d : Nat}
theorem tl_rem (j : Int) (hj : a % b = j) (h : TL r P base n ds all ro Q ((d, .int k j) :: env) l) (h0 : 0 ≤ a) (hb : 0 < b) (hw : Want all ⟨dst, .binOp .rem t x y yt, ty, pos, af, g⟩ env := by (first | exact want_none rfl | exact want_yes rfl rfl rfl rfl rfl | fail)) (hx : ev env x = some (.int k a) := by exact rfl) (hy : ev env y = some (.int k b) := by exact rfl) (hd : dst = some d := by exact rfl) (hn : d < n := by exact Nat.lt_of_ble_eq rfl) : TL r P base n ds all (⟨dst, .binOp .rem t x y yt, ty, pos, af, g⟩ :: ro) Q env l := by
  subst hj; exact tl_q (opq_rem hw hx hy h0 hb) hd hn h
theorem tq_rem {K : Env → Prop} (j : Int) (hj : a % b = j) (h : TQ r P n ds all lc ro ((d, .int k j) :: env) K) (h0 : 0 ≤ a) (hb : 0 < b) (hw : Want all ⟨dst, .binOp .rem t x y yt, ty, pos, af, g⟩ env := by (first | exact want_none rfl | exact want_yes rfl rfl rfl rfl rfl | fail)) (hx : ev env x = some (.int k a) := by exact rfl) (hy : ev env y = some (.int k b) := by exact rfl) (hd : dst = some d := by exact rfl) : TQ r P n ds all lc (⟨dst, .binOp .rem t x y yt, ty, pos, af, g⟩ :: ro) env K := by
  subst hj; exact tq_cons (opq_rem hw hx hy h0 hb) hd h
end
attribute [local irreducible] TK TL TC Th Bk Nx fnPost WA TQ OpQ OpN SpecH Rd Ent IterH RoundH Rb Rp fnPostM
attribute [local irreducible] Fld.addE Fld.addF Fld.befE Fld.befF Fld.inE Fld.remF Fld.first Fld.last Fld.next Fld.prev Fld.ofR Fld.listOf Fld.joinE Fld.joinF renE renG Fld.at Fld.set Fld.place
instance (As : Nat → LAct) (ta : Nat → Option Addr) (tc : Nat → Nat) : Width (fun i => ([.int .i64 (As i).what, .int .i64 (As i).head, .int .i64 (As i).other, .int .u32 (As i).node, .int .u32 (As i).beside, .slice (ta i) (As i).to.length (tc i)] : List Value)) 6 := ⟨fun _ => rfl⟩
set_option maxRecDepth 20000 in
set_option maxHeartbeats 8000000 in
theorem holds_spec (nodes heads : Int) (a : Option Addr) (n cap : Nat) (As : Nat → LAct) (ta : Nat → Option Addr) (tc : Nat → Nat) (t : Nat) (ht : t ≤ 255) (hA : ∀ i, i < n → (As i).node < 4294967296 ∧ (As i).beside < 4294967296) :
    SpecH Try.prog 5 #[.int .i64 nodes, .int .i64 heads, .slice a n cap, .int .u8 t] [RoS 6 a n cap (rows n fun i => [.int .i64 (As i).what, .int .i64 (As i).head, .int .i64 (As i).other, .int .u32 (As i).node, .int .u32 (As i).beside, .slice (ta i) (As i).to.length (tc i)])] (fun _ : Unit => .bool true) (fun _ => []) := by
  by_cases hb : nodes < 1 ∨ 60 < nodes ∨ heads < 1 ∨ 8 < heads ∨ 30 < (n : Int)
  · refine spec_of Try.func5 rfl Try.ntmps5 rfl [(0, _), (1, _), (2, _), (3, _)] rfl ?_; intro base F l0 hl0; (try simp only [List.cons_append] at hl0); (try simp only [List.nil_append] at hl0); subst hl0
    repeat' (first | refine st ?_ | refine And.intro ?_ ?_ | (intro e; exfalso; omega) | (intro e; subst e) | intro _)
    all_goals exact rt1 () rfl
  · obtain ⟨N, rfl⟩ : ∃ N : Nat, nodes = N := ⟨nodes.toNat, by omega⟩
    obtain ⟨M, rfl⟩ : ∃ M : Nat, heads = M := ⟨heads.toNat, by omega⟩
    have hw : Wf ⟨N, List.replicate M []⟩ := Wf.new (by omega) (by omega) (by omega) (by omega)
    have hl : (⟨N, List.replicate M []⟩ : Fld).L.length = M := by simp
    refine spec_of Try.func5 rfl Try.ntmps5 rfl [(0, _), (1, _), (2, _), (3, _)] rfl ?_; intro base F l0 hl0; (try simp only [List.cons_append] at hl0); (try simp only [List.nil_append] at hl0); subst hl0
    repeat' (first | refine st ?_ | refine And.intro ?_ ?_ | (intro e; exfalso; omega) | (intro e; subst e) | intro _)
    rename_i p
    refine tc_lp (ι := {x : Nat × Fld // x.1 ≤ n ∧ Wf x.2 ∧ x.2.N = N ∧ x.2.L.length = M}) [11] (fun e x => (11, .int .i64 (x.1.1 : Nat)) :: e) (fun x => [FieldAt p x.1.2, RoS 6 a n cap (rows n fun i => [.int .i64 (As i).what, .int .i64 (As i).head, .int .i64 (As i).other, .int .u32 (As i).node, .int .u32 (As i).beside, .slice (ta i) (As i).to.length (tc i)]), F]) (fun x => n - x.1.1) ⟨(0, ⟨N, List.replicate M []⟩), by omega, hw, rfl, hl⟩ ?_
    rintro K ⟨⟨i, f⟩, hi, w, hN, hM⟩ hK
    dsimp only at hi w hN hM ⊢
    by_cases hc : i < n
    · obtain ⟨hA1, hA2⟩ := hA i hc
      have w0 := w.addF (As i).head (As i).node true; have w1 := w.addF (As i).head (As i).node false; have w2 := w.befF (As i).node (As i).beside; have w3 := w.remF (As i).node; have w4 := w.joinF (As i).head (As i).other
      obtain ⟨k0, l0⟩ := Fld.addF_keeps (f := f) (h := (As i).head) (n := (As i).node) (b := true)
      obtain ⟨k1, l1⟩ := Fld.addF_keeps (f := f) (h := (As i).head) (n := (As i).node) (b := false)
      obtain ⟨k2, l2⟩ := Fld.befF_keeps (f := f) (n := (As i).node) (o := (As i).beside)
      obtain ⟨k3, l3⟩ := Fld.remF_keeps (f := f) (n := (As i).node)
      obtain ⟨k4, l4⟩ := Fld.joinF_keeps (f := f) (x := (As i).head) (y := (As i).other)
      by_cases c0 : (As i).what = 0
      · repeat' (first | refine st ?_ | refine And.intro ?_ ?_ | (intro e; exfalso; omega) | (intro e; subst e) | intro _)
        all_goals exact again hK ⟨(i + 1, f.addF (As i).head (As i).node true), by omega, w0, k0.trans hN, l0.trans hM⟩
      by_cases c1 : (As i).what = 1
      · repeat' (first | refine st ?_ | refine And.intro ?_ ?_ | (intro e; exfalso; omega) | (intro e; subst e) | intro _)
        all_goals exact again hK ⟨(i + 1, f.addF (As i).head (As i).node false), by omega, w1, k1.trans hN, l1.trans hM⟩
      by_cases c2 : (As i).what = 2
      · repeat' (first | refine st ?_ | refine And.intro ?_ ?_ | (intro e; exfalso; omega) | (intro e; subst e) | intro _)
        all_goals exact again hK ⟨(i + 1, f.befF (As i).node (As i).beside), by omega, w2, k2.trans hN, l2.trans hM⟩
      by_cases c3 : (As i).what = 3
      · repeat' (first | refine st ?_ | refine And.intro ?_ ?_ | (intro e; exfalso; omega) | (intro e; subst e) | intro _)
        all_goals exact again hK ⟨(i + 1, f.remF (As i).node), by omega, w3, k3.trans hN, l3.trans hM⟩
      by_cases c4 : (As i).what = 4
      · repeat' (first | refine st ?_ | refine And.intro ?_ ?_ | (intro e; exfalso; omega) | (intro e; subst e) | intro _)
        all_goals exact again hK ⟨(i + 1, f.joinF (As i).head (As i).other), by omega, w4, k4.trans hN, l4.trans hM⟩
      repeat' (first | refine st ?_ | refine And.intro ?_ ?_ | (intro e; exfalso; omega) | (intro e; subst e) | intro _)
      all_goals exact again hK ⟨(i + 1, f), by omega, w, hN, hM⟩
    · have hkN : t % N < N := Nat.mod_lt _ (by omega)
      repeat' (first | refine st ?_ | refine And.intro ?_ ?_ | (intro e; exfalso; omega) | (intro e; subst e) | intro _)
      refine tl_rem ((t % N : Nat) : Int) ?_ ?_ ?_ ?_
      · rfl
      rotate_left
      · omega
      · omega
      generalize t % N = kk at hkN
      repeat' (first | refine st ?_ | refine And.intro ?_ ?_ | (intro e; exfalso; omega) | (intro e; subst e) | intro _)
      refine tc_lp (ι := {x : Nat × (Option Addr × Nat) × (Option Addr × Nat) // x.1 ≤ N}) [13, 14, 16] (fun e x => (13, .slice x.1.2.1.1 x.1.1 x.1.2.1.2) :: (14, .slice x.1.2.2.1 x.1.1 x.1.2.2.2) :: (16, .int .i64 (x.1.1 : Nat)) :: e)
        (fun x => [Vec 35 1 x.1.2.1.1 x.1.1 x.1.2.1.2 (u32s ((List.range x.1.1).map fun n => (n + kk) % N)), Vec 35 1 x.1.2.2.1 x.1.1 x.1.2.2.2 (u32s ((List.range x.1.1).map fun n => (n + N - kk) % N)), FieldAt p f, F]) (fun x => N - x.1.1) ⟨(0, (none, 0), (none, 0)), by omega⟩ ?_
        (hl := by show Ent _ [Vec 35 1 none 0 0 [], Vec 35 1 none 0 0 [], FieldAt p f, F]; exact en)
      rintro K2 ⟨⟨i, ⟨a1, c1⟩, ⟨a2, c2⟩⟩, hi⟩ hK2
      dsimp only at hi ⊢
      by_cases hci : i < N
      · have m1 : (i + kk) % N < N := Nat.mod_lt _ (by omega)
        have m2 : (i + N - kk) % N < N := Nat.mod_lt _ (by omega)
        have e1 : u32s ((List.range (i + 1)).map fun n => (n + kk) % N) = u32s ((List.range i).map fun n => (n + kk) % N) ++ [.int .u32 ((i + kk) % N : Nat)] := by rw [List.range_succ, List.map_append, u32s_append]; rfl
        have e2 : u32s ((List.range (i + 1)).map fun n => (n + N - kk) % N) = u32s ((List.range i).map fun n => (n + N - kk) % N) ++ [.int .u32 ((i + N - kk) % N : Nat)] := by rw [List.range_succ, List.map_append, u32s_append]; rfl
        repeat' (first | ((fail_if_success (refine atD ?_)); refine st ?_) | refine And.intro ?_ ?_ | (intro e; exfalso; omega) | (intro e; subst e) | intro _)
        refine drx [Vec 35 1 a1 i c1 (u32s ((List.range i).map fun n => (n + kk) % N)), Vec 35 1 a2 i c2 (u32s ((List.range i).map fun n => (n + N - kk) % N))] ?_
        refine tks [0, 1, 2, 4, 9, 10, 11, 13, 15, 3, 12, 5, 14, 6, 16, 17] 6 ?_; repeat' (first | refine st ?_ | refine And.intro ?_ ?_ | (intro e; subst e) | intro _)
        refine tq_rem (((i + kk) % N : Nat) : Int) ?_ ?_ ?_ ?_
        · rfl
        rotate_left
        · omega
        · omega
        repeat' (first | refine st ?_ | refine And.intro ?_ ?_ | (intro e; subst e) | intro _)
        refine tq_rem (((i + N - kk) % N : Nat) : Int) ?_ ?_ ?_ ?_
        · rw [show ((i : Int) + N - kk) = ((i + N - kk : Nat) : Int) by omega]; rfl
        rotate_left
        · omega
        · omega
        repeat' (first | refine st ?_ | refine And.intro ?_ ?_ | (intro e; subst e) | intro _)
        refine hv2 7 18 (fun b1 => ?_) (fun b2 => ?_)
        · refine hv2 8 18 (fun q1 => ?_) (fun b2 => ?_)
          · refine hv 18 fun b2 => ?_
            refine hv 19 fun q2 => ?_
            refine tks [20, 21] 0 ?_; repeat' (first | refine st ?_ | refine And.intro ?_ ?_ | (intro e; exfalso; omega) | (intro e; subst e) | intro _)
            rw [← e1, ← e2]
            exact again hK2 ⟨(i + 1, (q1.1, q1.2), (q2.1, q2.2)), by omega⟩
          · refine hv 8 fun q1 => ?_
            refine hv 19 fun q2 => ?_
            refine tks [20, 21] 0 ?_; repeat' (first | refine st ?_ | refine And.intro ?_ ?_ | (intro e; exfalso; omega) | (intro e; subst e) | intro _)
            rw [← e1, ← e2]
            exact again hK2 ⟨(i + 1, (q1.1, q1.2), (q2.1, q2.2)), by omega⟩
        · refine hv 7 fun b1 => ?_
          refine hv 8 fun q1 => ?_
          refine hv 19 fun q2 => ?_
          refine tks [20, 21] 0 ?_; repeat' (first | refine st ?_ | refine And.intro ?_ ?_ | (intro e; exfalso; omega) | (intro e; subst e) | intro _)
          rw [← e1, ← e2]
          exact again hK2 ⟨(i + 1, (q1.1, q1.2), (q2.1, q2.2)), by omega⟩
      · obtain rfl : i = N := by omega
        have tb := there_back w (k := kk) (by omega)
        simp only [hN] at tb
        have hT1 : ∀ x ∈ (List.range i).map fun n => (n + kk) % i, x < 4294967296 := fun x hx => by
          obtain ⟨j, _, rfl⟩ := List.mem_map.1 hx
          have : (j + kk) % i < i := Nat.mod_lt _ (by omega)
          omega
        have hB1 : ∀ x ∈ (List.range i).map fun n => (n + i - kk) % i, x < 4294967296 := fun x hx => by
          obtain ⟨j, _, rfl⟩ := List.mem_map.1 hx
          have : (j + i - kk) % i < i := Nat.mod_lt _ (by omega)
          omega
        have hT2 : i = ((List.range i).map fun n => (n + kk) % i).length := by simp
        have hB2 : i = ((List.range i).map fun n => (n + i - kk) % i).length := by simp
        generalize ((List.range i).map fun n => (n + kk) % i) = T at *
        generalize ((List.range i).map fun n => (n + i - kk) % i) = B at *
        obtain ⟨t1, t2, t3⟩ := tb
        have hT3 : T.length ≤ 4194304 := by omega
        have hB3 : B.length ≤ 4194304 := by omega
        have w5 := w.renG T i
        obtain ⟨l5, k5⟩ := renG_keeps (f := f) (to := T) (nodes := i)
        have k6 : (renG f T i).N = i := by rcases k5 with k | k <;> omega
        have hlen5 : ∀ h, (f.listOf h).length ≤ 5000 := fun h => by
          unfold Fld.listOf; split
          · have := w.len_le h.toNat; omega
          · simp
        repeat' (first | refine st ?_ | refine And.intro ?_ ?_ | (intro e; exfalso; omega) | (intro e; subst e) | intro _)
        rename_i p2
        rw [t3]
        refine tc_lp (ι := {h : Nat // h ≤ M}) [18] (fun e x => (18, .int .i64 (x.1 : Nat)) :: e) (fun _ => [FieldAt p f, FieldAt p2 f, F]) (fun x => M - x.1) ⟨0, by omega⟩ ?_
        rintro K3 ⟨h, hh⟩ hK3
        dsimp only at hh ⊢
        have hlh := hlen5 h
        by_cases hch : h < M
        · repeat' (first | refine st ?_ | refine And.intro ?_ ?_ | (intro e; exfalso; (first | omega | exact e rfl | (apply e; assumption) | fail)) | (intro e; subst e) | intro _)
          all_goals exact again hK3 ⟨h + 1, by omega⟩
        · obtain rfl : h = M := by omega
          repeat' (first | refine st ?_ | refine And.intro ?_ ?_ | (intro e; exfalso; omega) | (intro e; subst e) | intro _)
          all_goals exact rt1 () rfl
end Go.Proofs.Ytgmccdicncocdaa
