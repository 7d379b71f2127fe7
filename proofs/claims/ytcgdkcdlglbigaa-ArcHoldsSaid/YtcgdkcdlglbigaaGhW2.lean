/- ghost, walked: a new list; the calls on it. -/
import Derived.Test.YtcgdkcdlglbigaaGhW1
namespace Go.Gh
open Go.Lk Go.Sl
theorem GInv.new {most : Nat} (_hm : most ≤ 4096) (w : Wf ⟨most + 1, [[], List.range (most + 1)]⟩) : GInv most ⟨most + 1, [[], List.range (most + 1)]⟩ (List.replicate (most + 1) 0) [] [] where
  wf := w
  N := rfl
  M := rfl
  kl := by simp
  eq := by simp [Fld.at]
  nd := .nil
  kn := by simp [mkeys]
  at_iff := fun k n => by simp [mget, Fld.at]
  len := rfl
  tot := by simp [Fld.at]
  lt := fun k hk => by have := List.eq_of_mem_replicate hk; omega
theorem getLastD_map {g : Nat → Nat} : ∀ {l : List Nat}, l ≠ [] → (l.map g).getLastD 0 = g (l.getLastD 0)
  | [], h => absurd rfl h
  | [a], _ => rfl
  | a :: b :: l, _ => by
    rw [List.map_cons, List.map_cons]
    exact getLastD_map (l := b :: l) (by simp)
theorem _root_.List.Nodup.erase_last : ∀ {l : List Nat}, l.Nodup → l ≠ [] → l.erase (l.getLastD 0) = l.dropLast
  | [], _, h => absurd rfl h
  | [a], _, _ => by simp
  | a :: b :: l, h, _ => by
    rw [List.nodup_cons] at h
    have e : (a :: b :: l).getLastD 0 = (b :: l).getLastD 0 := rfl
    have hm : (b :: l).getLastD 0 ∈ b :: l := by
      rw [List.getLastD_eq_getLast?, List.getLast?_eq_some_getLast (by simp)]; exact List.getLast_mem _
    have hne : a ≠ (b :: l).getLastD 0 := fun e => h.1 (e ▸ hm)
    rw [e, List.erase_cons_tail (by simpa using hne), List.Nodup.erase_last h.2 (by simp)]
    rfl
theorem GInv.last {most : Nat} {f : Fld} {K : List Nat} {kv : List (Nat × Nat)} {L : List Nat} (g : GInv most f K kv L) (h : L ≠ []) : ∃ n, (n ∈ f.at 0 ∧ K.getD n 0 = L.getLastD 0) ∧ f.last 0 = (n, 0) := by
  have hM := g.M
  have h0 : f.at 0 ≠ [] := fun e => h (by rw [g.eq, e]; rfl)
  refine ⟨(f.at 0).getLastD 0, ⟨?_, ?_⟩, ?_⟩
  · rw [List.getLastD_eq_getLast?, List.getLast?_eq_some_getLast h0]; exact List.getLast_mem _
  · rw [g.eq, getLastD_map h0]
  · unfold Fld.last Fld.head
    rw [if_pos (decide_eq_true (by omega)), List.getLastD_eq_getLast?, show (0 : Int).toNat = 0 from rfl, List.getLast?_eq_some_getLast h0]
    rfl
theorem GInv.first {most : Nat} {f : Fld} {K : List Nat} {kv : List (Nat × Nat)} {L : List Nat} (g : GInv most f K kv L) (h : L.length ≤ most) : ∃ n t, f.at 1 = n :: t ∧ f.first 1 = (n, 0) := by
  have hM := g.M
  have ht := g.tot
  rw [← g.llen] at ht
  cases h1 : f.at 1 with
  | nil => rw [h1] at ht; simp at ht; omega
  | cons n t =>
    refine ⟨n, t, rfl, ?_⟩
    unfold Fld.first Fld.head
    rw [if_pos (decide_eq_true (by omega)), show (1 : Int).toNat = 1 from rfl, h1]
    rfl
end Go.Gh
namespace Go.Proofs.Ytcgdkcdlglbigaa
open Go.Lk Go.Sl Go.Gh
attribute [local irreducible] TK TL TC Th Bk Nx fnPost WA TQ OpQ OpN SpecH Rd Ent IterH RoundH Rb Rp fnPostM
attribute [local irreducible] Fld.addE Fld.addF Fld.befE Fld.befF Fld.inE Fld.remF Fld.first Fld.last Fld.next Fld.prev Fld.ofR Fld.listOf Fld.joinE Fld.joinF renE renG Fld.at Fld.set Fld.place
theorem rows_zero {n : Nat} : rows n (fun _ => [Value.int .u32 0]) = u32s (List.replicate n 0) := by
  induction n with
  | zero => rfl
  | succ n ih => simp [rows, u32s, List.replicate_succ', List.range_succ] at ih ⊢; exact ih
theorem g_new_bad (m : Int) (h : m < 0 ∨ 4096 < m) : SpecH Try.prog 55 #[.int .i64 m] [] (fun _ : Unit => .tuple #[.pointer none, .int .i64 2]) (fun _ => []) := by
  refine spec_of Try.func55 rfl Try.ntmps55 rfl [(0, _)] rfl ?_; intro base F l0 hl0; (try simp only [List.cons_append] at hl0); (try simp only [List.nil_append] at hl0); subst hl0
  repeat' (first | refine stm ?_ | refine And.intro ?_ ?_ | (intro e; exfalso; omega) | (intro e; subst e) | intro _)
  all_goals exact rt2 () rfl
instance g_new : Known Try.prog 55 (∀ (xm : Int) (most : Nat) [NatI xm most], most ≤ 4096 → SpecH Try.prog 55 #[.int .i64 xm] [] (fun p : Nat => .tuple #[.pointer (some ⟨p, 0, none⟩), .int .i64 0]) (fun p => [GhostAt p most []])) := ⟨fun xm most _ hm => by
  obtain rfl : xm = (most : Int) := NatI.out
  have i0 : NatI ((most : Int) + 1) (most + 1) := ⟨rfl⟩
  refine spec_of Try.func55 rfl Try.ntmps55 rfl [(0, _)] rfl ?_; intro base F l0 hl0; (try simp only [List.cons_append] at hl0); (try simp only [List.nil_append] at hl0); subst hl0
  repeat' (first | refine stm ?_ | refine And.intro ?_ ?_ | (intro e; exfalso; omega) | (intro e; subst e) | intro _)
  rename_i pl
  refine tc_lp (ι := {i : Nat // i ≤ most + 1}) [24] (fun e i => (24, .int .i64 (i.1 : Nat)) :: e) (fun i => [FieldAt pl ⟨most + 1, [[], List.range i.1]⟩, F]) (fun i => most + 1 - i.1) ⟨0, by omega⟩ ?_ (hl := by dsimp only; exact en)
  rintro K ⟨i, hi⟩ hK
  dsimp only
  by_cases hlt : i < most + 1
  · obtain ⟨h1, h2⟩ := GInv.fresh hlt
    repeat' (first | refine stm ?_ | refine And.intro ?_ ?_ | (intro e; exfalso; omega) | (intro e; subst e) | intro _)
    rw [h2]
    exact again hK ⟨i + 1, by omega⟩
  · obtain rfl : i = most + 1 := by omega
    repeat' (first | refine stm ?_ | refine And.intro ?_ ?_ | (intro e; exfalso; omega) | (intro e; subst e) | intro _)
    rw [rows_zero]
    refine TK.know (fun _ z => FieldAt.wf (p := pl) (f := ⟨most + 1, [[], List.range (most + 1)]⟩) (by (repeat (first | (with_reducible exact Rem.here _ _) | (with_reducible apply Rem.there) | fail)); done) z) fun w => ?_
    rename_i bK bm p
    exact rt2 p rfl (en2 (GhostAt.shut (GInv.new hm w)))⟩
instance g_remove : Known Try.prog 47 (∀ (p most : Nat) (L : List Nat) (xk : Int) (k : Nat) [NatI xk k], SpecH Try.prog 47 #[.pointer (some ⟨p, 0, none⟩), .int .u32 xk] [GhostAt p most L] (fun _ : Unit => .tuple #[.bool (decide (k ∈ L)), .int .i64 0]) (fun _ => [GhostAt p most (L.erase k)])) := ⟨fun p most L xk k _ => by
  obtain rfl : xk = (k : Int) := NatI.out
  refine spec_of Try.func47 rfl Try.ntmps47 rfl [(0, _), (1, _)] rfl ?_; intro base F l0 hl0; (try simp only [List.cons_append] at hl0); (try simp only [List.nil_append] at hl0); subst hl0
  refine GhostAt.openC fun f K kv pl aK cK bm g => ?_
  have hN := g.N; have hb := g.wf.bound
  cases hk : mget kv k with
  | none =>
    have hn : k ∉ L := fun h => by have := g.mem.1 h; rw [hk] at this; cases this
    rw [show decide (k ∈ L) = false from decide_eq_false hn, List.erase_of_not_mem hn]
    repeat' (first | refine stm ?_ | refine And.intro ?_ ?_ | (intro e; exfalso; omega) | (intro e; subst e) | intro _)
    exact rt2 () rfl (en2 (GhostAt.shut g))
  | some m =>
    have hn : k ∈ L := g.mem.2 (by rw [hk]; rfl)
    obtain ⟨hm0, hmk⟩ := (g.at_iff k m).1 hk
    have hlt := g.lt0 hm0
    have hKl := g.kl
    have hKlt := g.lt
    obtain ⟨t1, t2, t3⟩ := g.take hm0
    rw [show decide (k ∈ L) = true from decide_eq_true hn]
    repeat' (first | refine stm ?_ | refine And.intro ?_ ?_ | (intro e; exfalso; omega) | (intro e; subst e) | intro _)
    rw [hmk] at *
    exact rt2 () rfl (en2 (GhostAt.shut t3))⟩
instance g_pop : Known Try.prog 104 (∀ (p most : Nat) (L : List Nat), SpecH Try.prog 104 #[.pointer (some ⟨p, 0, none⟩)] [GhostAt p most L] (fun _ : Unit => .tuple #[.int .u32 (L.getLastD 0 : Nat), .int .i64 (if L = [] then 9 else 0)]) (fun _ => [GhostAt p most L.dropLast])) := ⟨fun p most L => by
  refine spec_of Try.func104 rfl Try.ntmps104 rfl [(0, _)] rfl ?_; intro base F l0 hl0; (try simp only [List.cons_append] at hl0); (try simp only [List.nil_append] at hl0); subst hl0
  refine GhostAt.openC fun f K kv pl aK cK bm g => ?_
  have hN := g.N; have hb := g.wf.bound; have hM := g.M
  have hl := g.len
  by_cases h0 : L = []
  · subst h0
    have hl0 : kv.length = 0 := hl
    repeat' (first | refine stm ?_ | refine And.intro ?_ ?_ | (intro e; exfalso; omega) | (intro e; subst e) | intro _)
    exact rt2 () rfl (en2 (GhostAt.shut g))
  · have hpos := List.length_pos_iff.2 h0
    obtain ⟨n, hn, hf⟩ := g.last h0
    have hlt := g.lt0 hn.1
    have hKl := g.kl
    have hKlt := g.lt
    have e1 : (f.last 0).1 = n := by rw [hf]
    have e2 : (f.last 0).2 = 0 := by rw [hf]
    obtain ⟨t1, t2, t3⟩ := g.take hn.1
    rw [if_neg h0]
    rw [hn.2] at t3
    repeat' (first | refine stm ?_ | refine And.intro ?_ ?_ | (intro e; exfalso; omega) | (intro e; subst e) | intro _)
    rw [e1, hn.2]
    rw [g.nd.erase_last h0] at t3
    exact rt2 () rfl (en2 (GhostAt.shut t3))⟩
instance g_has : Known Try.prog 69 (∀ (p most : Nat) (L : List Nat) (xk : Int) (k : Nat) [NatI xk k], SpecH Try.prog 69 #[.pointer (some ⟨p, 0, none⟩), .int .u32 xk] [GhostAt p most L] (fun _ : Unit => .bool (decide (k ∈ L))) (fun _ => [GhostAt p most L])) := ⟨fun p most L xk k _ => by
  obtain rfl : xk = (k : Int) := NatI.out
  refine spec_of Try.func69 rfl Try.ntmps69 rfl [(0, _), (1, _)] rfl ?_; intro base F l0 hl0; (try simp only [List.cons_append] at hl0); (try simp only [List.nil_append] at hl0); subst hl0
  refine GhostAt.openC fun f K kv pl aK cK bm g => ?_
  cases hk : mget kv k with
  | none =>
    have hn : k ∉ L := fun h => by have := g.mem.1 h; rw [hk] at this; cases this
    rw [show decide (k ∈ L) = false from decide_eq_false hn]
    repeat' (first | refine stm ?_ | refine And.intro ?_ ?_ | (intro e; exfalso; omega) | (intro e; subst e) | intro _)
    exact rt1 () rfl (en2 (GhostAt.shut g))
  | some m =>
    have hn : k ∈ L := g.mem.2 (by rw [hk]; rfl)
    rw [show decide (k ∈ L) = true from decide_eq_true hn]
    repeat' (first | refine stm ?_ | refine And.intro ?_ ?_ | (intro e; exfalso; omega) | (intro e; subst e) | intro _)
    exact rt1 () rfl (en2 (GhostAt.shut g))⟩
instance g_len : Known Try.prog 68 (∀ (p most : Nat) (L : List Nat), SpecH Try.prog 68 #[.pointer (some ⟨p, 0, none⟩)] [GhostAt p most L] (fun _ : Unit => .int .i64 (L.length : Nat)) (fun _ => [GhostAt p most L])) := ⟨fun p most L => by
  refine spec_of Try.func68 rfl Try.ntmps68 rfl [(0, _)] rfl ?_; intro base F l0 hl0; (try simp only [List.cons_append] at hl0); (try simp only [List.nil_append] at hl0); subst hl0
  refine GhostAt.openC fun f K kv pl aK cK bm g => ?_
  rw [← g.len]
  repeat' (first | refine stm ?_ | refine And.intro ?_ ?_ | (intro e; exfalso; omega) | (intro e; subst e) | intro _)
  exact rt1 () rfl (en2 (GhostAt.shut g))⟩
end Go.Proofs.Ytcgdkcdlglbigaa
