/- The laws of ghost, walked: keys leave in the order in which they were added last. -/
import Derived.Test.YtbdiabakcgafgaaGhL1
import Derived.Test.YtbdiabakcgafgaaGhH1
import Derived.Test.YtbdiabakcgafgaaSlMapN
namespace Go.Gh
open Go.Lk Go.Sl
/-- A key that leaves, if one does: the oldest one. -/
def Old (kv : List (Nat × Int)) (o : Nat) (left : Bool) : Prop := (left = false → o = 0) ∧ (left = true → (mkeys kv).Nodup ∧ ∃ t, mget kv o = some t ∧ ∀ k v, (k, v) ∈ kv → t ≤ v)
end Go.Gh
namespace Go.Proofs.Ytbdiabakcgafgaa
open Go.Lk Go.Sl Go.Gh
theorem atBlk (id : Nat) {r0 : Option Nat} {P : Program} {base : World} {n : Nat} {ds : List Deferred} {Q : Exit → Act → World → Prop} {env : Env} {l : List HP} {c : Code} (h : TC r0 P base n ds (.block id c) Q env l) : TC r0 P base n ds (.block id c) Q env l := h
attribute [local irreducible] TK TL TC Th Bk Nx fnPost WA TQ OpQ OpN SpecH Rd Ent IterH RoundH Rb Rp fnPostM
attribute [local irreducible] addL addV addB
instance (Q : Nat → Int × Nat × Int) : Width (fun i => ([.int .i64 (Q i).1, .int .u32 (Q i).2.1, .int .i64 (Q i).2.2] : List Value)) 3 := ⟨fun _ => rfl⟩
set_option maxHeartbeats 4000000 in
instance oldest_spec : Known Try.prog 22 (∀ (b : Nat) (kv : List (Nat × Int)) (xo : Int) (o : Nat) [NatI xo o] (left : Bool), Old kv o left → SpecH Try.prog 22 #[.map (some b), .int .u32 xo, .bool left] [MapA .u32 (fun z : Int => .int .i64 z) b kv] (fun _ : Unit => .bool true) (fun _ => [MapA .u32 (fun z : Int => .int .i64 z) b (if left then mdel kv o else kv)])) := ⟨fun b kv xo o _ left h => by
  obtain rfl : xo = (o : Int) := NatI.out
  cases left with
  | false =>
    have h0 := h.1 rfl
    refine spec_of Try.func22 rfl Try.ntmps22 rfl [(0, _), (1, _), (2, _)] rfl ?_; intro base F l0 hl0; (try simp only [List.cons_append] at hl0); (try simp only [List.nil_append] at hl0); subst hl0
    repeat' (first | refine stx ?_ | refine And.intro ?_ ?_ | (intro e; exfalso; omega) | (intro e; subst e) | intro _)
    exact rt1 () rfl
  | true =>
    obtain ⟨hn, t, ht, hmin⟩ := h.2 rfl
    refine spec_of Try.func22 rfl Try.ntmps22 rfl [(0, _), (1, _), (2, _)] rfl ?_; intro base F l0 hl0; (try simp only [List.cons_append] at hl0); (try simp only [List.nil_append] at hl0); subst hl0
    repeat' (first | refine stx ?_ | refine And.intro ?_ ?_ | (intro e; exfalso; omega) | (intro e; subst e) | intro _)
    rename_i it
    refine tc_lp (ι := {T : List (Nat × Int) // ∀ q ∈ T, q ∈ kv}) [] (fun e _ => e) (fun T => [MapIt .u32 (fun z : Int => .int .i64 z) b kv it T.1, F]) (fun T => T.1.length) ⟨kv, fun _ h => h⟩ ?_
    rintro K ⟨T, hT⟩ hK
    dsimp only
    repeat' (first | refine stx ?_ | refine And.intro ?_ ?_ | (intro e; exfalso; omega) | (intro e; subst e) | intro _)
    refine tl_nextC (kk := .u32) (V := (fun z : Int => .int .i64 z)) (b := b) (m := kv) (T := T) rfl (by (repeat (first | (with_reducible exact Rem.here _ _) | (with_reducible apply Rem.there) | fail)); done) (Nat.lt_of_ble_eq rfl) ?_ ?_ (by (first | exact want_none rfl | exact want_yes rfl rfl rfl rfl rfl | fail))
    · rintro rfl
      refine TL.ent (ent_mapIt (.here _ _)) ?_
      repeat' (first | refine stx ?_ | refine And.intro ?_ ?_ | (intro e; exfalso; omega) | (intro e; subst e) | intro _)
      exact rt1 () rfl
    · intro k v hkv
      have hv := hmin k v (hT _ hkv)
      have hlen : (T.filter fun q => q.1 != k).length < T.length := by
        refine List.length_filter_lt_length_iff_exists.2 ⟨(k, v), hkv, by simp⟩
      repeat' (first | refine stx ?_ | refine And.intro ?_ ?_ | (intro e; exfalso; omega) | (intro e; subst e) | intro _)
      refine tl_q (opq_entry (by (first | exact want_none rfl | exact want_yes rfl rfl rfl rfl rfl | fail)) rfl (by (repeat (first | (with_reducible exact Rem.here _ _) | (with_reducible apply Rem.there) | fail)); done)) rfl (Nat.lt_of_ble_eq rfl) ?_
      repeat' (first | refine stx ?_ | refine And.intro ?_ ?_ | (intro e; exfalso; omega) | (intro e; subst e) | intro _)
      exact again hK ⟨T.filter fun q => q.1 != k, fun q hq => hT q (List.mem_filter.1 hq).1⟩ (he := ent_mapIc)⟩
set_option maxHeartbeats 8000000 in
theorem gholds_law (most : Int) (a : Option Addr) (n cap : Nat) (Q : Nat → Int × Nat × Int) (hQ : ∀ i, i < n → (Q i).2.1 < 4294967296) : SpecH Try.prog 5 #[.int .i64 most, .slice a n cap] [RoS 3 a n cap (rows n fun i => [.int .i64 (Q i).1, .int .u32 (Q i).2.1, .int .i64 (Q i).2.2])] (fun _ : Unit => .bool true) (fun _ => []) := by
  by_cases hb : most < 0 ∨ 40 < most ∨ 100 < n
  · refine spec_of Try.func5 rfl Try.ntmps5 rfl [(0, _), (1, _)] rfl ?_; intro base F l0 hl0; (try simp only [List.cons_append] at hl0); (try simp only [List.nil_append] at hl0); subst hl0
    repeat' (first | refine stx ?_ | refine And.intro ?_ ?_ | (intro e; exfalso; omega) | (intro e; subst e) | intro _)
    all_goals exact rt1 () rfl
  · obtain ⟨N, rfl⟩ : ∃ N : Nat, most = N := ⟨most.toNat, by omega⟩
    refine spec_of Try.func5 rfl Try.ntmps5 rfl [(0, _), (1, _)] rfl ?_; intro base F l0 hl0; (try simp only [List.cons_append] at hl0); (try simp only [List.nil_append] at hl0); subst hl0
    repeat' (first | refine stx ?_ | refine And.intro ?_ ?_ | (intro e; exfalso; omega) | (intro e; subst e) | intro _)
    rename_i p bw
    refine TC.weak (env' := [(8, .int .i64 (0 : Nat)), (7, .map (some bw)), (5, .pointer (some ⟨p, 0, none⟩)), (4, .bool false), (0, .int .i64 (N : Nat)), (1, .slice a n cap)]) ?_ (by (repeat (first | exact Sub.nil | (apply Sub.cons; exact rfl))); done)
    refine tc_lp (ι := {x : Nat × Nat × List Nat × List (Nat × Int) // x.1 ≤ n ∧ x.2.2.1.length ≤ x.2.1 ∧ x.2.1 ≤ 60 ∧ HInv x.1 x.2.2.1 x.2.2.2}) [8] (fun e x => (8, .int .i64 (x.1.1 : Nat)) :: e)
      (fun x => [GhostAt p x.1.2.1 x.1.2.2.1, MapA .u32 (fun z : Int => .int .i64 z) bw x.1.2.2.2, RoS 3 a n cap (rows n fun i => [.int .i64 (Q i).1, .int .u32 (Q i).2.1, .int .i64 (Q i).2.2]), F]) (fun x => n - x.1.1) ⟨(0, N, [], []), by omega, by simp, by dsimp only; omega, HInv.nil⟩ ?_
    rintro K ⟨⟨i, M, L, kv⟩, hi, hL, hM, hI⟩ hK
    dsimp only at hi hL hM hI ⊢
    by_cases hc : i < n
    · have hk := hQ i hc
      refine GhostAt.factsC fun hnd hlt hll hmm => ?_
      repeat' (first | ((fail_if_success (refine atBlk 2 ?_)); refine stx ?_) | refine And.intro ?_ ?_ | (intro e; exfalso; omega) | (intro e; subst e) | intro _)
      rename_i b9
      refine cut (ι := {y : Nat × List Nat × List (Nat × Int) // y.2.1.length ≤ y.1 ∧ y.1 ≤ 60 ∧ HInv (i + 1) y.2.1 y.2.2}) (fun y => [(0, .int .i64 (N : Nat)), (1, .slice a n cap), (4, .bool false), (5, .pointer (some ⟨p, 0, none⟩)), (7, .map (some bw)), (8, .int .i64 (i : Nat)), (9, .pointer (some ⟨b9, 0, none⟩))])
        (fun y => [obj b9 43 [.int .i64 (Q i).1, .int .u32 (Q i).2.1, .int .i64 (Q i).2.2], GhostAt p y.1.1 y.1.2.1, MapA .u32 (fun z : Int => .int .i64 z) bw y.1.2.2, RoS 3 a n cap (rows n fun i => [.int .i64 (Q i).1, .int .u32 (Q i).2.1, .int .i64 (Q i).2.2]), F]) ?_ ?_
      · intro K hK2
        by_cases h0 : (Q i).1 = 0
        · obtain ⟨hA, hB⟩ := hI.add (k := (Q i).2.1) hL
          have hO : Old (mput kv (Q i).2.1 (i : Int)) (addV M L (Q i).2.1) (addB M L (Q i).2.1) := ⟨fun e => (hA e).1, fun e => ⟨mput_nodup hI.kn, (hB e).1⟩⟩
          have hF : HInv (i + 1 : Int) (addL M L (Q i).2.1) (if addB M L (Q i).2.1 then mdel (mput kv (Q i).2.1 (i : Int)) (addV M L (Q i).2.1) else mput kv (Q i).2.1 (i : Int)) := by
            cases hb : addB M L (Q i).2.1 with
            | true => rw [if_pos rfl]; exact (hB hb).2
            | false => rw [if_neg (by decide)]; exact (hA hb).2
          obtain hM0 | hM0 : M = 0 ∨ 0 < M := by omega
          · repeat' (first | ((fail_if_success (refine atD ?_)); refine stx ?_) | refine And.intro ?_ ?_ | (intro e; exfalso; omega) | (intro e; subst e) | intro _)
            refine drx [GhostAt p M (addL M L (Q i).2.1), MapA .u32 (fun z : Int => .int .i64 z) bw (mput kv (Q i).2.1 (i : Int))] ?_
            refine tks [0, 1, 2, 3, 4, 5] 22 ?_; repeat' (first | refine stx ?_ | refine And.intro ?_ ?_ | (intro e; exfalso; omega) | (intro e; subst e) | intro _)
            refine hv 6 fun x6 => ?_
            refine tks [7, 8, 9, 10] 17 ?_; repeat' (first | refine stx ?_ | refine And.intro ?_ ?_ | (intro e; exfalso; omega) | (intro e; subst e) | intro _)
            refine hv 11 fun x11 => ?_
            refine tks [12, 13, 14] 13 ?_; repeat' (first | refine stx ?_ | refine And.intro ?_ ?_ | (intro e; exfalso; omega) | (intro e; subst e) | intro _)
            refine hvs 15 ?_
            refine tks [16, 17, 18, 22, 23] 7 ?_; repeat' (first | refine stx ?_ | refine And.intro ?_ ?_ | (intro e; exfalso; omega) | (intro e; subst e) | intro _)
            refine hvs 19 ?_
            refine tks [20, 21, 24, 25, 26, 27] 0 ?_; repeat' (first | refine stx ?_ | refine And.intro ?_ ?_ | (intro e; exfalso; omega) | (intro e; subst e) | intro _)
            exact fin hK2 ⟨(M, addL M L (Q i).2.1, if addB M L (Q i).2.1 then mdel (mput kv (Q i).2.1 (i : Int)) (addV M L (Q i).2.1) else mput kv (Q i).2.1 (i : Int)), addL_len hL, hM, hF⟩
          · obtain ⟨hl0, hl1⟩ := addL_head (k := (Q i).2.1) hM0 hL
            repeat' (first | ((fail_if_success (refine atD ?_)); refine stx ?_) | refine And.intro ?_ ?_ | (intro e; exfalso; omega) | (intro e; subst e) | intro _)
            refine drx [GhostAt p M (addL M L (Q i).2.1), MapA .u32 (fun z : Int => .int .i64 z) bw (mput kv (Q i).2.1 (i : Int))] ?_
            refine tks [0, 1, 2, 3, 4, 5] 22 ?_; repeat' (first | refine stx ?_ | refine And.intro ?_ ?_ | (intro e; exfalso; omega) | (intro e; subst e) | intro _)
            refine hv 6 fun x6 => ?_
            refine tks [7, 8, 9, 10] 17 ?_; repeat' (first | refine stx ?_ | refine And.intro ?_ ?_ | (intro e; exfalso; omega) | (intro e; subst e) | intro _)
            refine hv 11 fun x11 => ?_
            refine tks [12, 13, 14] 13 ?_; repeat' (first | refine stx ?_ | refine And.intro ?_ ?_ | (intro e; exfalso; omega) | (intro e; subst e) | intro _)
            refine hv 15 fun x15 => ?_
            refine tks [16, 17, 18, 22, 23] 7 ?_; repeat' (first | refine stx ?_ | refine And.intro ?_ ?_ | (intro e; exfalso; omega) | (intro e; subst e) | intro _)
            refine hv 19 fun x19 => ?_
            refine grow ?_
            refine tks [20, 21, 24, 25, 26, 27] 0 ?_; repeat' (first | refine stx ?_ | refine And.intro ?_ ?_ | (intro e; exfalso; omega) | (intro e; subst e) | intro _)
            exact fin hK2 ⟨(M, addL M L (Q i).2.1, if addB M L (Q i).2.1 then mdel (mput kv (Q i).2.1 (i : Int)) (addV M L (Q i).2.1) else mput kv (Q i).2.1 (i : Int)), addL_len hL, hM, hF⟩
        by_cases h1 : (Q i).1 = 1
        · cases hg : mget kv (Q i).2.1 with
          | none =>
            have hm : (Q i).2.1 ∉ L := fun e => by have := (hI.mem _).1 e; rw [hg] at this; cases this
            have hd : decide ((Q i).2.1 ∈ L) = false := decide_eq_false hm
            repeat' (first | refine stx ?_ | refine And.intro ?_ ?_ | (intro e; exfalso; omega) | (intro e; subst e) | intro _)
            exact fin hK2 ⟨(M, L.erase (Q i).2.1, mdel kv (Q i).2.1), Nat.le_trans (List.erase_sublist.length_le) hL, hM, (hI.erase _).later⟩
          | some t =>
            have hm : (Q i).2.1 ∈ L := (hI.mem _).2 (by rw [hg]; rfl)
            have hd : decide ((Q i).2.1 ∈ L) = true := decide_eq_true hm
            repeat' (first | refine stx ?_ | refine And.intro ?_ ?_ | (intro e; exfalso; omega) | (intro e; subst e) | intro _)
            exact fin hK2 ⟨(M, L.erase (Q i).2.1, mdel kv (Q i).2.1), Nat.le_trans (List.erase_sublist.length_le) hL, hM, (hI.erase _).later⟩
        by_cases h2 : (Q i).1 = 2
        · have hpop := g_pop.out p M L
          have hlen := hI.len
          by_cases hL0 : L = []
          · subst hL0
            have hO : Old kv (([] : List Nat).getLastD 0) false := ⟨fun _ => rfl, fun e => by cases e⟩
            have hl0 : ([] : List Nat).length = 0 := rfl
            rw [if_pos rfl] at hpop
            have hF : HInv (i + 1 : Int) [] (if false = true then mdel kv (([] : List Nat).getLastD 0) else kv) := by rw [if_neg (by decide)]; exact hI.later
            repeat' (first | ((fail_if_success (refine atCall 26 ?_)); refine stx ?_) | refine And.intro ?_ ?_ | (intro e; exfalso; omega) | (intro e; subst e) | intro _)
            refine call hpop ?_
            repeat' (first | refine stx ?_ | refine And.intro ?_ ?_ | (intro e; exfalso; omega) | (intro e; subst e) | intro _)
            exact fin hK2 ⟨(M, ([] : List Nat).dropLast, if false = true then mdel kv (([] : List Nat).getLastD 0) else kv), hL, hM, hF⟩
          · obtain ⟨hl1, hl2⟩ := hI.last hL0
            have hO : Old kv (L.getLastD 0) true := ⟨fun e => (by cases e), fun _ => ⟨hI.kn, hl1⟩⟩
            have hpos := List.length_pos_iff.2 hL0
            rw [if_neg hL0] at hpop
            have hF : HInv (i + 1 : Int) L.dropLast (if true = true then mdel kv (L.getLastD 0) else kv) := by rw [if_pos rfl]; exact hl2.later
            repeat' (first | ((fail_if_success (refine atCall 26 ?_)); refine stx ?_) | refine And.intro ?_ ?_ | (intro e; exfalso; omega) | (intro e; subst e) | intro _)
            refine call hpop ?_
            repeat' (first | refine stx ?_ | refine And.intro ?_ ?_ | (intro e; exfalso; omega) | (intro e; subst e) | intro _)
            exact fin hK2 ⟨(M, L.dropLast, if true = true then mdel kv (L.getLastD 0) else kv), by dsimp only; rw [List.length_dropLast]; omega, hM, hF⟩
        by_cases h3 : (Q i).1 = 3
        · by_cases hb : 60 < (Q i).2.2
          · repeat' (first | refine stx ?_ | refine And.intro ?_ ?_ | (intro e; exfalso; omega) | (intro e; subst e) | intro _)
            exact again hK ⟨(i + 1, M, L, kv), by omega, hL, hM, by dsimp only; rw [show ((i + 1 : Nat) : Int) = i + 1 by omega]; exact hI.later⟩
          by_cases hb2 : (Q i).2.2 < 0
          · repeat' (first | ((fail_if_success (refine atCall 27 ?_)); refine stx ?_) | refine And.intro ?_ ?_ | (intro e; exfalso; omega) | (intro e; subst e) | intro _)
            refine call (g_resize_bad _ _ _ _ (.inl hb2)) ?_
            repeat' (first | refine stx ?_ | refine And.intro ?_ ?_ | (intro e; exfalso; omega) | (intro e; subst e) | intro _)
            refine tc_lp (ι := Unit) [21] (fun e _ => (21, .int .i64 (0 : Nat)) :: e) (fun _ => [obj b9 43 [.int .i64 (Q i).1, .int .u32 (Q i).2.1, .int .i64 (Q i).2.2], GhostAt p M L, MapA .u32 (fun z : Int => .int .i64 z) bw kv, RoS 3 a n cap (rows n fun i => [.int .i64 (Q i).1, .int .u32 (Q i).2.1, .int .i64 (Q i).2.2]), F]) (fun _ => 0) () ?_
            rintro K3 _ hK3
            repeat' (first | refine stx ?_ | refine And.intro ?_ ?_ | (intro e; exfalso; omega) | (intro e; subst e) | intro _)
            exact fin hK2 ⟨(M, L, kv), hL, hM, hI.later⟩
          · obtain ⟨k, hk'⟩ : ∃ k : Nat, (Q i).2.2 = k := ⟨(Q i).2.2.toNat, by omega⟩
            haveI : NatI (Q i).2.2 k := ⟨hk'⟩
            repeat' (first | refine stx ?_ | refine And.intro ?_ ?_ | (intro e; exfalso; omega) | (intro e; subst e) | intro _)
            rename_i a1 c1
            have hrl : (L.drop k).reverse.length = L.length - k := by simp
            refine tc_lp (ι := {x : Nat × List (Nat × Int) // x.1 ≤ L.length - k ∧ HInv i (L.take (L.length - x.1)) x.2}) [21] (fun e x => (21, .int .i64 (x.1.1 : Nat)) :: e) (fun x => [obj b9 43 [.int .i64 (Q i).1, .int .u32 (Q i).2.1, .int .i64 (Q i).2.2], GhostAt p k (L.take k), Vec 28 1 a1 (L.length - k) c1 (u32s (L.drop k).reverse), MapA .u32 (fun z : Int => .int .i64 z) bw x.1.2, RoS 3 a n cap (rows n fun i => [.int .i64 (Q i).1, .int .u32 (Q i).2.1, .int .i64 (Q i).2.2]), F]) (fun x => L.length - x.1.1) ⟨(0, kv), by omega, by dsimp only; rw [Nat.sub_zero, List.take_length]; exact hI⟩ ?_
            rintro K3 ⟨⟨j, kw⟩, hj, hJ⟩ hK3
            dsimp only at hj hJ ⊢
            by_cases hjl : j < L.length - k
            · obtain ⟨s1, s2, s3, s4, s5⟩ := cut_step (L := L) (n := L.length - j) (m := 0) (by omega) (by omega)
              obtain ⟨hl1, hl2⟩ := hJ.last s4
              rw [s1, s2] at hl2
              rw [s2] at hl1
              have e1 : (L.drop k).reverse.getD j 0 = L.getD (L.length - j - 1) 0 := by
                rw [List.getD_eq_getElem?_getD, List.getD_eq_getElem?_getD, List.getElem?_reverse (by simp; omega), List.getElem?_drop, List.length_drop]
                congr 2; omega
              have hO : Old kw ((L.drop k).reverse.getD j 0) true := ⟨fun e => (by cases e), fun _ => ⟨hJ.kn, by rw [e1]; exact hl1⟩⟩
              repeat' (first | refine stx ?_ | refine And.intro ?_ ?_ | (intro e; exfalso; omega) | (intro e; subst e) | intro _)
              exact again hK3 ⟨(j + 1, if true = true then mdel kw ((L.drop k).reverse.getD j 0) else kw), by omega, by dsimp only; rw [if_pos rfl, e1, show L.length - (j + 1) = L.length - j - 1 by omega]; exact hl2⟩
            · obtain rfl : j = L.length - k := by omega
              repeat' (first | refine stx ?_ | refine And.intro ?_ ?_ | (intro e; exfalso; omega) | (intro e; subst e) | intro _)
              have e1 : L.take (L.length - (L.length - k)) = L.take k := by
                by_cases hkl : k ≤ L.length
                · rw [show L.length - (L.length - k) = k by omega]
                · rw [List.take_of_length_le (by omega), List.take_of_length_le (by omega)]
              rw [e1] at hJ
              exact fin hK2 ⟨(k, L.take k, kw), by dsimp only; rw [List.length_take]; omega, by dsimp only; omega, hJ.later⟩
        · repeat' (first | refine stx ?_ | refine And.intro ?_ ?_ | (intro e; exfalso; omega) | (intro e; subst e) | intro _)
          exact fin hK2 ⟨(M, L, kv), hL, hM, hI.later⟩
      · rintro ⟨⟨M, L, kv⟩, hL, hM, hI⟩
        dsimp only at hL hM hI ⊢
        have hkl := hI.len
        repeat' (first | refine stx ?_ | refine And.intro ?_ ?_ | (intro e; exfalso; omega) | (intro e; subst e) | intro _)
        rename_i a30 c30
        refine tc_lp (ι := {k : Nat // k ≤ L.length}) [23] (fun e k => (23, .int .i64 (k.1 : Nat)) :: e) (fun _ => [obj b9 43 [.int .i64 (Q i).1, .int .u32 (Q i).2.1, .int .i64 (Q i).2.2], GhostAt p M L, Vec 28 1 a30 L.length c30 (u32s L), MapA .u32 (fun z : Int => .int .i64 z) bw kv, RoS 3 a n cap (rows n fun i => [.int .i64 (Q i).1, .int .u32 (Q i).2.1, .int .i64 (Q i).2.2]), F]) (fun k => L.length - k.1) ⟨0, by omega⟩ ?_
        rintro K2 ⟨k, hk⟩ hK2
        dsimp only at hk ⊢
        by_cases hkl : k < L.length
        · obtain ⟨⟨t, ht⟩, hm⟩ := hI.at_some hkl
          by_cases hk0 : k = 0
          · repeat' (first | refine stx ?_ | refine And.intro ?_ ?_ | (intro e; exfalso; (first | omega | exact e rfl | (apply e; assumption) | fail)) | (intro e; subst e) | intro _)
            exact again hK2 ⟨k + 1, by omega⟩
          · obtain ⟨s, t2, hs, ht2, hlt⟩ := hI.at_lt (a := k - 1) hkl (by omega)
            obtain rfl : t = t2 := by rw [ht] at ht2; exact Option.some.inj ht2
            haveI : AsNat ((k : Int) - 1) (k - 1) := ⟨fun _ => by omega⟩
            repeat' (first | refine stx ?_ | refine And.intro ?_ ?_ | (intro e; exfalso; (first | omega | exact e rfl | (apply e; assumption) | fail)) | (intro e; subst e) | intro _)
            exact again hK2 ⟨k + 1, by omega⟩
        · obtain rfl : k = L.length := by omega
          repeat' (first | refine stx ?_ | refine And.intro ?_ ?_ | (intro e; exfalso; omega) | (intro e; subst e) | intro _)
          exact again hK ⟨(i + 1, M, L, kv), by omega, hL, hM, by dsimp only; rw [show ((i + 1 : Nat) : Int) = i + 1 by omega]; exact hI⟩
    · repeat' (first | refine stx ?_ | refine And.intro ?_ ?_ | (intro e; exfalso; omega) | (intro e; subst e) | intro _)
      exact rt1 () rfl
end Go.Proofs.Ytbdiabakcgafgaa
