/- The laws of links, walked: a field next to its reference. -/
import Derived.Test.YtgmccdicncocdaaLkL2
import Derived.Test.YtgmccdicncocdaaLkIs
namespace Go.Proofs.Ytgmccdicncocdaa
open Go.Sl Go.Lk
attribute [local irreducible] TK TL TC Th Bk Nx fnPost WA TQ OpQ OpN SpecH Rd Ent IterH RoundH Rb Rp fnPostM
attribute [local irreducible] Fld.addE Fld.addF Fld.befE Fld.befF Fld.inE Fld.remF Fld.first Fld.last Fld.next Fld.prev Fld.ofR Fld.listOf Fld.joinE Fld.joinF renE renG Fld.at Fld.set Fld.place
set_option maxRecDepth 20000 in
set_option maxHeartbeats 8000000 in
instance is_spec : Known Try.prog 30 (∀ (p : Nat) (f : Fld) (a : Option Addr) (c : Nat), Wf f → f.N ≤ 5000 → SpecH Try.prog 30 #[.pointer (some ⟨p, 0, none⟩), .agg #[.int .i64 f.N, .slice a f.L.length c]] [FieldAt p f, RF (.agg #[.int .i64 f.N, .slice a f.L.length c]) f] (fun _ : Unit => .bool true) (fun _ => [FieldAt p f])) := ⟨fun p f a c w hN => by
  refine spec_of Try.func30 rfl Try.ntmps30 rfl [(0, _), (1, _)] rfl ?_; intro base F l0 hl0; (try simp only [List.cons_append] at hl0); (try simp only [List.nil_append] at hl0); subst hl0
  have B := w.bnd
  have hw := w.bound
  refine RF.openC (by (repeat (first | (with_reducible exact Rem.here _ _) | (with_reducible apply Rem.there) | fail)); done) fun a2 c2 vs hv hvl => ?_
  obtain ⟨rfl, rfl⟩ : a = a2 ∧ c = c2 := by simp at hv; exact hv
  repeat' (first | refine st ?_ | refine And.intro ?_ ?_ | (intro e; exfalso; (first | omega | exact e rfl | (apply e; assumption) | fail)) | (intro e; subst e) | intro _)
  rename_i b3
  refine tc_lp (ι := {h : Int // -1 ≤ h ∧ h ≤ f.L.length + 1}) [5] (fun e x => (5, .int .i64 x.1) :: e)
    (fun _ => [obj b3 30 [.int .i64 f.N, .slice a f.L.length c], RoS 1 a f.L.length c vs, AllR RU vs f.L, FieldAt p f, RF (.agg #[.int .i64 f.N, .slice a f.L.length c]) f, F]) (fun x => (f.L.length + 1 - x.1).toNat) ⟨-1, by omega, by omega⟩ ?_
  rintro K ⟨h, hh1, hh2⟩ hK
  dsimp only
  by_cases hend : h ≤ f.L.length
  · by_cases hr : 0 ≤ h ∧ h < f.L.length
    · obtain ⟨k, rfl⟩ : ∃ k : Nat, h = k := ⟨h.toNat, by omega⟩
      have hlen := w.len_le k
      have hl5 : (f.listOf k).length ≤ 5000 := by rw [listOf_nat]; omega
      have hlk : f.listOf k = f.at k := listOf_nat f k
      have hll : (f.listOf k).length = (f.at k).length := by rw [hlk]
      refine RF.rowC (h := k) (by (repeat (first | (with_reducible exact Rem.here _ _) | (with_reducible apply Rem.there) | fail)); done) (by omega) hvl fun ak ck hvk => ?_
      by_cases h0 : (f.at k).length = 0
      · obtain ⟨e1, e2, e3, e4⟩ := ends_nil (f := f) (k := k) (by omega) h0
        repeat' (first | refine st ?_ | refine And.intro ?_ ?_ | (intro e; exfalso; (first | omega | exact e rfl | (apply e; assumption) | fail)) | (intro e; subst e) | intro _)
        all_goals exact again hK ⟨(k : Int) + 1, by omega, by omega⟩
      · obtain ⟨e1, e2, e3, e4⟩ := ends_some (f := f) (k := k) (by omega) (by omega)
        repeat' (first | refine st ?_ | refine And.intro ?_ ?_ | (intro e; exfalso; (first | omega | exact e rfl | (apply e; assumption) | fail)) | (intro e; subst e) | intro _)
        all_goals exact again hK ⟨(k : Int) + 1, by omega, by omega⟩
    · obtain ⟨e1, e2, e3, e4, e5⟩ := ends_out hr
      have hl5 : (f.listOf h).length ≤ 5000 := by rw [e5]; decide
      have hll : (f.listOf h).length = 0 := by rw [e5]; rfl
      repeat' (first | refine st ?_ | refine And.intro ?_ ?_ | (intro e; exfalso; (first | omega | exact e rfl | (apply e; assumption) | fail)) | (intro e; subst e) | intro _)
      all_goals exact again hK ⟨h + 1, by omega, by omega⟩
  · repeat' (first | refine st ?_ | refine And.intro ?_ ?_ | (intro e; exfalso; (first | omega | exact e rfl | (apply e; assumption) | fail)) | (intro e; subst e) | intro _)
    refine tc_lp (ι := {n : Nat // n ≤ f.N + 1}) [14] (fun e x => (14, .int .i64 (x.1 : Nat)) :: e)
      (fun _ => [obj b3 30 [.int .i64 f.N, .slice a f.L.length c], RoS 1 a f.L.length c vs, AllR RU vs f.L, FieldAt p f, RF (.agg #[.int .i64 f.N, .slice a f.L.length c]) f, F]) (fun x => f.N + 1 - x.1) ⟨0, by omega⟩ ?_
    rintro K2 ⟨n, hn⟩ hK2
    dsimp only at hn ⊢
    have b1 := hw.2.2.2
    have b2 : ∀ h, (f.at h).length ≤ 4194304 := fun h => by have := w.len_le h; omega
    by_cases hend : n ≤ f.N
    · by_cases hout : f.N ≤ n
      · obtain ⟨e1, e2, e3, e4, e5, e6⟩ := node_out hout
        repeat' (first | refine st ?_ | refine And.intro ?_ ?_ | (intro e; exfalso; (first | omega | exact e rfl | (apply e; assumption) | fail)) | (intro e; subst e) | intro _)
        all_goals exact again hK2 ⟨n + 1, by omega⟩
      · cases hp : f.place n with
        | none =>
          obtain ⟨e1, e2, e3, e4, e5, e6, e7⟩ := node_none (by omega) hp
          repeat' (first | refine st ?_ | refine And.intro ?_ ?_ | (intro e; exfalso; (first | omega | exact e rfl | (apply e; assumption) | fail)) | (intro e; subst e) | intro _)
          all_goals exact again hK2 ⟨n + 1, by omega⟩
        | some q =>
          obtain ⟨h, i⟩ := q
          obtain ⟨g1, g2, g3, g4, g5, g6, g7, g8, g9, g10, g11⟩ := node_some (by omega) hp
          have hbh := b2 h
          have i1 : AsNat (plH f n) h := ⟨fun _ => by omega⟩
          have i2 : AsNat (plI f n + 1) (i + 1) := ⟨fun _ => by omega⟩
          have i3 : AsNat (plI f n - 1) (i - 1) := ⟨fun _ => by omega⟩
          refine RF.rowC (h := h) (by (repeat (first | (with_reducible exact Rem.here _ _) | (with_reducible apply Rem.there) | fail)); done) (by omega) hvl fun ak ck hvk => ?_
          by_cases c1 : i + 1 < (f.at h).length
          · obtain ⟨e1, e2⟩ := g8 c1
            by_cases c2 : 0 < i
            · obtain ⟨e3, e4⟩ := g10 c2
              repeat' (first | refine st ?_ | refine And.intro ?_ ?_ | (intro e; exfalso; (first | omega | exact e rfl | (apply e; assumption) | fail)) | (intro e; subst e) | intro _)
              all_goals exact again hK2 ⟨n + 1, by omega⟩
            · obtain ⟨e3, e4⟩ := g11 c2
              repeat' (first | refine st ?_ | refine And.intro ?_ ?_ | (intro e; exfalso; (first | omega | exact e rfl | (apply e; assumption) | fail)) | (intro e; subst e) | intro _)
              all_goals exact again hK2 ⟨n + 1, by omega⟩
          · obtain ⟨e1, e2⟩ := g9 c1
            by_cases c2 : 0 < i
            · obtain ⟨e3, e4⟩ := g10 c2
              repeat' (first | refine st ?_ | refine And.intro ?_ ?_ | (intro e; exfalso; (first | omega | exact e rfl | (apply e; assumption) | fail)) | (intro e; subst e) | intro _)
              all_goals exact again hK2 ⟨n + 1, by omega⟩
            · obtain ⟨e3, e4⟩ := g11 c2
              repeat' (first | refine st ?_ | refine And.intro ?_ ?_ | (intro e; exfalso; (first | omega | exact e rfl | (apply e; assumption) | fail)) | (intro e; subst e) | intro _)
              all_goals exact again hK2 ⟨n + 1, by omega⟩
    · repeat' (first | refine st ?_ | refine And.intro ?_ ?_ | (intro e; exfalso; (first | omega | exact e rfl | (apply e; assumption) | fail)) | (intro e; subst e) | intro _)
      exact rt1 () rfl⟩
end Go.Proofs.Ytgmccdicncocdaa
