/- The reference of lfu, walked: a new one, dropped keys, keys in order, equal lists. -/
import Derived.Test.YtmiblmoppdgnjaaLfR2
namespace Go.Proofs.Ytmiblmoppdgnjaa
open Go.Lk Go.Sl Go.Lf
attribute [local irreducible] TK TL TC Th Bk Nx fnPost WA TQ OpQ OpN SpecH Rd Ent IterH RoundH Rb Rp fnPostM
attribute [local irreducible] Lf.wo Lf.ins Lf.cntOf Lf.halveL Lf.lo Lf.hi
theorem lfr_new_bad (size age : Int) (h : size < 1 ∨ 1024 < size ∨ age < 0 ∨ 1048576 < age) : SpecH Try.prog 17 #[.int .i64 size, .int .i64 age] [] (fun _ : Unit => .tuple #[.agg #[.int .i64 0, .int .i64 0, .int .i64 0, .slice none 0 0], .int .i64 2]) (fun _ => []) := by
  refine spec_of Try.func17 rfl Try.ntmps17 rfl [(0, _), (1, _)] rfl ?_; intro base F l0 hl0; (try simp only [List.cons_append] at hl0); (try simp only [List.nil_append] at hl0); subst hl0
  repeat' (first | refine sty ?_ | refine And.intro ?_ ?_ | (intro e; exfalso; omega) | (intro e; subst e) | intro _)
  all_goals exact ra2 () rfl
instance lfr_new : Known Try.prog 17 (∀ (size age : Int), 1 ≤ size → size ≤ 1024 → 0 ≤ age → age ≤ 1048576 → SpecH Try.prog 17 #[.int .i64 size, .int .i64 age] [] (fun _ : Unit => .tuple #[.agg #[.int .i64 size, .int .i64 age, .int .i64 0, .slice none 0 0], .int .i64 0]) (fun _ => [])) := ⟨fun size age h1 h2 h3 h4 => by
  refine spec_of Try.func17 rfl Try.ntmps17 rfl [(0, _), (1, _)] rfl ?_; intro base F l0 hl0; (try simp only [List.cons_append] at hl0); (try simp only [List.nil_append] at hl0); subst hl0
  repeat' (first | refine sty ?_ | refine And.intro ?_ ?_ | (intro e; exfalso; omega) | (intro e; subst e) | intro _)
  all_goals exact ra2 () rfl⟩
instance lfr_drop : Known Try.prog 37 (∀ (size age req : Nat) (a : Option Addr) (m c : Nat) (l : List It) (xk : Int) (k : Nat) [NatI xk k], m = l.length → m ≤ 1024 → SpecH Try.prog 37 #[.agg #[.int .i64 (size : Nat), .int .i64 (age : Nat), .int .i64 (req : Nat), .slice a m c], .int .u32 xk] [RoS 2 a m c (itv l)] (fun q : Option Addr × Nat => .tuple #[.agg #[.int .i64 (size : Nat), .int .i64 (age : Nat), .int .i64 (req : Nat), .slice q.1 (Lf.wo l k).length q.2], .bool (decide ((0 : Int) < (cntOf l k : Nat)))]) (fun q => [RoS 2 q.1 (Lf.wo l k).length q.2 (itv (Lf.wo l k))])) := ⟨fun size age req a m c l xk k _ hm hx => by
  obtain rfl : xk = (k : Int) := NatI.out
  subst hm
  refine spec_of Try.func37 rfl Try.ntmps37 rfl [(0, _), (1, _)] rfl ?_; intro base F l0 hl0; (try simp only [List.cons_append] at hl0); (try simp only [List.nil_append] at hl0); subst hl0
  repeat' (first | refine sty ?_ | refine And.intro ?_ ?_ | (intro e; exfalso; omega) | (intro e; subst e) | intro _)
  rename_i a5 c5
  exact ra2 (a5, c5) rfl⟩
set_option maxHeartbeats 4000000 in
instance lfr_order : Known Try.prog 34 (∀ (size age req : Nat) (a : Option Addr) (m c : Nat) (l : List It), m = l.length → m ≤ 1024 → SpecH Try.prog 34 #[.agg #[.int .i64 (size : Nat), .int .i64 (age : Nat), .int .i64 (req : Nat), .slice a m c]] [RoS 2 a m c (itv l)] (fun q : Option Addr × Nat => .slice q.1 l.length q.2) (fun q => [RoS 1 q.1 l.length q.2 (u32s (ks l))])) := ⟨fun size age req a m c l hm hx => by
  subst hm
  refine spec_of Try.func34 rfl Try.ntmps34 rfl [(0, _)] rfl ?_; intro base F l0 hl0; (try simp only [List.cons_append] at hl0); (try simp only [List.nil_append] at hl0); subst hl0
  repeat' (first | refine sty ?_ | refine And.intro ?_ ?_ | (intro e; exfalso; omega) | (intro e; subst e) | intro _)
  rename_i b1
  refine tc_lp (ι := {q : Nat × Option Addr × Nat // q.1 ≤ l.length}) [3, 4] (fun e q => (3, .slice q.1.2.1 q.1.1 q.1.2.2) :: (4, .int .i64 (q.1.1 : Nat)) :: e)
    (fun q => [Vec 28 1 q.1.2.1 q.1.1 q.1.2.2 (u32s (ks (l.take q.1.1))), obj b1 48 [.int .i64 (size : Nat), .int .i64 (age : Nat), .int .i64 (req : Nat), .slice a l.length c], RoS 2 a l.length c (itv l), F]) (fun q => l.length - q.1.1) ⟨(0, none, 0), by simp⟩ ?_
    (hl := by show Ent _ [Vec 28 1 none 0 0 [], _, _, _]; exact en)
  rintro K ⟨⟨i, a2, c2⟩, hi⟩ hK
  dsimp only at hi ⊢
  by_cases hlt : i < l.length
  · have hsn : u32s (ks (l.take (i + 1))) = u32s (ks (l.take i)) ++ [.int .u32 ((l.getD i default).1 : Nat)] := by rw [take_snoc' hlt]; simp [u32s, ks]
    repeat' (first | refine sty ?_ | refine And.intro ?_ ?_ | (intro e; exfalso; omega) | (intro e; subst e) | intro _)
    rename_i a5 c5
    rw [← hsn]
    exact again hK ⟨(i + 1, a5, c5), by omega⟩
  · obtain rfl : i = l.length := by omega
    rw [List.take_length]
    repeat' (first | refine sty ?_ | refine And.intro ?_ ?_ | (intro e; exfalso; omega) | (intro e; subst e) | intro _)
    refine frz a2 ?_
    exact rt1 (a2, c2) rfl⟩
set_option maxHeartbeats 4000000 in
instance lfr_same : Known Try.prog 22 (∀ (a a2 : Option Addr) (m m2 c c2 : Nat) (cs cs2 : List Value) (xs ys : List Nat), AsU cs xs → AsU cs2 ys → m = xs.length → m2 = ys.length → m ≤ 4194304 → m2 ≤ 4194304 → SpecH Try.prog 22 #[.slice a m c, .slice a2 m2 c2] [RoS 1 a m c cs, RoS 1 a2 m2 c2 cs2] (fun _ : Unit => .bool (decide (xs = ys))) (fun _ => [])) := ⟨fun a a2 m m2 c c2 cs cs2 xs ys hcs hcs2 hm hm2 hx hy => by
  subst hm; subst hm2
  rw [hcs.out, hcs2.out]
  refine spec_of Try.func22 rfl Try.ntmps22 rfl [(0, _), (1, _)] rfl ?_; intro base F l0 hl0; (try simp only [List.cons_append] at hl0); (try simp only [List.nil_append] at hl0); subst hl0
  repeat' (first | refine sty ?_ | refine And.intro ?_ ?_ | (intro e; subst e) | intro _)
  · refine rt1 () ?_
    congr 1; symm; rw [decide_eq_false_iff_not]; rintro rfl; omega
  · have hlen : xs.length = ys.length := by omega
    refine tc_lp (ι := {i : Nat // i ≤ xs.length ∧ ∀ j, j < i → xs.getD j 0 = ys.getD j 0}) [5] (fun e i => (5, .int .i64 i.1) :: e) (fun _ => _) (fun i => xs.length - i.1) ⟨0, by omega, by omega⟩ ?_ (hl := Ent.refl _)
    rintro K ⟨i, hi, he⟩ hK
    dsimp only
    repeat' (first | refine sty ?_ | refine And.intro ?_ ?_ | (intro e; subst e) | intro _)
    · refine rt1 () ?_
      congr 1; symm; rw [decide_eq_false_iff_not]; rintro rfl; omega
    · refine again hK ⟨i + 1, by omega, fun j hj => ?_⟩
      rcases Nat.lt_or_ge j i with x | x
      · exact he j x
      · obtain rfl : j = i := by omega
        omega
    · refine rt1 () ?_
      congr 1; symm; rw [decide_eq_true_iff]
      refine List.ext_getElem hlen fun j h1 h2 => ?_
      have := he j (by omega)
      rw [List.getD_eq_getElem?_getD, List.getD_eq_getElem?_getD, List.getElem?_eq_getElem h1, List.getElem?_eq_getElem h2] at this
      exact this⟩
end Go.Proofs.Ytmiblmoppdgnjaa
