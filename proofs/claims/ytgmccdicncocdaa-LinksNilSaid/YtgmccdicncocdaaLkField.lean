/- links, walked: the exported calls on a field in plain terms. -/
import Derived.Test.YtgmccdicncocdaaLkW2
import Derived.Test.YtgmccdicncocdaaLkW3
import Derived.Test.YtgmccdicncocdaaLkW4
import Derived.Test.YtgmccdicncocdaaLkW5
import Derived.Test.YtgmccdicncocdaaLkW6
import Derived.Test.YtgmccdicncocdaaLkTheory3
namespace Go.Proofs.Ytgmccdicncocdaa
open Go.Sl Go.Lk

/-- The field 'f' lies in memory at 'p'. -/
def FieldAt (p : Nat) (f : Fld) : HP := fun h => ∃ s, Repr s f ∧ LinksAt p s h
theorem spec_open {ι α β : Type} {P : Program} {fn : FuncId} {args : Array Value} {pre : List HP} {pre' : ι → List HP} {val : β → Value} {post : β → List HP} (hop : ∀ h, lst pre h → ∃ i, lst (pre' i) h)
    (hs : ∀ i, ∃ (val' : α → Value) (post' : α → List HP), SpecH P fn args (pre' i) val' post' ∧ ∀ x, ∃ y, val' x = val y ∧ Ent (post' x) (post y)) : SpecH P fn args pre val post := fun base F w hw => by
  obtain ⟨h0, hf, hl⟩ := hw.heap
  obtain ⟨a, b, hd, hj, ha, hb⟩ := lst_unflat hl
  obtain ⟨i, hi⟩ := hop a ha
  obtain ⟨val', post', hsp, hx⟩ := hs i
  refine (hsp base F w ⟨hw.os, hw.tape, hw.output, h0, hf, lst_flat ⟨a, b, hd, hj, hi, hb⟩⟩).mono ?_
  rintro e w' ⟨x, rfl, hw'⟩
  obtain ⟨y, h1, h2⟩ := hx x
  exact ⟨y, by rw [h1], hw'.ent (h2.append [F])⟩
theorem FieldAt.openL {p : Nat} {f : Fld} {h : Hp} (x : lst [FieldAt p f] h) : ∃ q : {s : LS // Repr s f}, lst [LinksAt p q.1] h := by
  obtain ⟨a, b, hd, rfl, ⟨s, r, hs⟩, hb⟩ := x
  exact ⟨⟨s, r⟩, a, b, hd, rfl, hs, hb⟩
theorem FieldAt.shut {p : Nat} {s : LS} {f : Fld} {l : List HP} (r : Repr s f) : Ent (LinksAt p s :: l) (FieldAt p f :: l) := fun _ x => lst_cons_mono (fun _ y => ⟨s, r, y⟩) (fun _ y => y) x
theorem field_q {P : Program} {fn : FuncId} {args : Array Value} {p : Nat} {f f' : Fld} {v : Value} (h : ∀ s, Repr s f → ∃ v' s', SpecH P fn args [LinksAt p s] (fun _ : Unit => v') (fun _ => [LinksAt p s']) ∧ v' = v ∧ Repr s' f') : SpecH P fn args [FieldAt p f] (fun _ : Unit => v) (fun _ => [FieldAt p f']) :=
  spec_open (fun _ => FieldAt.openL) fun ⟨s, r⟩ => by
    obtain ⟨v', s', h1, h2, h3⟩ := h s r
    exact ⟨_, _, h1, fun x => ⟨x, h2, FieldAt.shut h3⟩⟩
/-- A node's number and an error. -/
def resV (q : Nat × Int) : Value := .tuple #[.int .u32 (q.1 : Nat), .int .i64 q.2]
theorem realV_none {s : LS} {m : Nat} (h : s.N ≤ m) : realV s m = resV (Fld.res none) := by unfold realV resV Fld.res; simp only [if_pos h]
theorem realV_some {s : LS} {m : Nat} (h : m < s.N) : realV s m = resV (Fld.res (some m)) := by unfold realV resV Fld.res; simp only [if_neg (Nat.not_le_of_lt h)]
section
variable {p : Nat} {f : Fld}
instance (priority := high) fNodes : Known Try.prog 17 (∀ (p : Nat) (f : Fld), SpecH Try.prog 17 #[.pointer (some ⟨p, 0, none⟩)] [FieldAt p f] (fun _ : Unit => .int .i64 (f.N : Nat)) (fun _ => [FieldAt p f])) := ⟨fun p f  => field_q fun s r => ⟨_, s, nodes_spec.out p s r.good, by rw [r.N], r⟩⟩
instance (priority := high) fHeads : Known Try.prog 18 (∀ (p : Nat) (f : Fld), SpecH Try.prog 18 #[.pointer (some ⟨p, 0, none⟩)] [FieldAt p f] (fun _ : Unit => .int .i64 (f.L.length : Nat)) (fun _ => [FieldAt p f])) := ⟨fun p f  => field_q fun s r => ⟨_, s, heads_spec.out p s r.good, by rw [r.M], r⟩⟩
instance (priority := high) fLen : Known Try.prog 22 (∀ (p : Nat) (f : Fld) (h : Int), SpecH Try.prog 22 #[.pointer (some ⟨p, 0, none⟩), .int .i64 h] [FieldAt p f] (fun _ : Unit => .int .i64 ((f.listOf h).length : Nat)) (fun _ => [FieldAt p f])) := ⟨fun p f h => field_q fun s r => ⟨_, s, len_spec.out p s h r.good, by
  congr 2
  unfold Fld.listOf
  by_cases h1 : 0 ≤ h
  · rw [if_pos h1]
    by_cases h2 : h < s.M
    · rw [if_pos ⟨h1, h2⟩, r.ln]
    · rw [if_neg (fun x => h2 x.2), r.at_big (by omega)]; rfl
  · rw [if_neg h1, if_neg (fun x => h1 x.1)]; rfl, r⟩⟩
instance (priority := high) fFirst : Known Try.prog 19 (∀ (p : Nat) (f : Fld) (h : Int), SpecH Try.prog 19 #[.pointer (some ⟨p, 0, none⟩), .int .i64 h] [FieldAt p f] (fun _ : Unit => resV (f.first h)) (fun _ => [FieldAt p f])) := ⟨fun p f h => field_q fun s r => ⟨_, s, first_spec.out p s h r.good, by
  unfold Fld.first
  by_cases h1 : 0 ≤ h ∧ h < s.M
  · rw [if_pos h1, if_pos (r.headM.2 h1)]
    have hs := r.seg h.toNat (by omega)
    have hlt := fun n => r.lt (h := h.toNat) (n := n) (by omega)
    cases hl : f.at h.toNat with
    | nil => rw [hl] at hs; rw [hs.1]; exact realV_none (by omega)
    | cons a l => rw [hl] at hs hlt; rw [hs.1.1]; exact realV_some (hlt a (by simp))
  · rw [if_neg h1, if_neg (fun x => h1 (r.headM.1 x))]; rfl, r⟩⟩
theorem lastOf_cons {a c : Nat} {l : List Nat} : (c :: l).getLast? = some (lastOf a (c :: l)) := by
  induction l generalizing a c with
  | nil => rfl
  | cons d l ih => rw [List.getLast?_cons_cons]; exact ih (a := c) (c := d)
instance (priority := high) fLast : Known Try.prog 33 (∀ (p : Nat) (f : Fld) (h : Int), SpecH Try.prog 33 #[.pointer (some ⟨p, 0, none⟩), .int .i64 h] [FieldAt p f] (fun _ : Unit => resV (f.last h)) (fun _ => [FieldAt p f])) := ⟨fun p f h => field_q fun s r => ⟨_, s, last_spec.out p s h r.good, by
  unfold Fld.last
  by_cases h1 : 0 ≤ h ∧ h < s.M
  · rw [if_pos h1, if_pos (r.headM.2 h1)]
    have hs := (seg_last (r.seg h.toNat (by omega))).1
    have hlt := fun n => r.lt (h := h.toNat) (n := n) (by omega)
    cases hl : f.at h.toNat with
    | nil => rw [hl] at hs; rw [hs]; exact realV_none (by simp only [lastOf]; omega)
    | cons a l => rw [hl] at hs hlt; rw [hs, lastOf_cons (a := s.N + h.toNat)]; exact realV_some (hlt _ (by simp only [lastOf]; exact lastOf_mem))
  · rw [if_neg h1, if_neg (fun x => h1 (r.headM.1 x))]; rfl, r⟩⟩
instance (priority := high) fNext : Known Try.prog 20 (∀ (p : Nat) (f : Fld) (xn : Int) (n : Nat) [NatI xn n], n < 4294967296 → SpecH Try.prog 20 #[.pointer (some ⟨p, 0, none⟩), .int .u32 xn] [FieldAt p f] (fun _ : Unit => resV (f.next n)) (fun _ => [FieldAt p f])) := ⟨fun p f xn n _ hn => by
  obtain rfl : xn = (n : Int) := NatI.out
  exact field_q fun s r => ⟨_, s, next_spec.out p s n r.good hn, by
  rw [r.inE]
  unfold Fld.next
  by_cases h1 : f.inE n = 0
  · rw [if_pos h1]
    obtain ⟨h2, h, i, hp⟩ := r.in0 h1
    obtain ⟨p1, p2, p3⟩ := Fld.place_spec hp
    obtain ⟨hs1, hs2, hs3⟩ := split_at p2
    rw [if_neg (by omega), hp]
    dsimp only
    have hM := r.M
    have hs := r.seg h (by omega)
    have hlt := fun n => r.lt (h := h) (n := n) (by omega)
    have e : (f.at h)[i + 1]? = ((f.at h).drop ((f.at h).idxOf n + 1)).head? := by rw [p3, List.head?_drop]
    rw [e]
    rw [hs1] at hs hlt
    have hs := (seg_append.1 hs).2
    cases hl : (f.at h).drop ((f.at h).idxOf n + 1) with
    | nil => rw [hl] at hs; rw [hs.1]; exact realV_none (by omega)
    | cons a l => rw [hl] at hs hlt; rw [hs.1.1]; exact realV_some (hlt a (by simp))
  · rw [if_neg h1]
    unfold Fld.inE at h1 ⊢
    by_cases h2 : f.N ≤ n
    · rw [if_pos h2, if_pos h2]; rfl
    · rw [if_neg h2] at h1; rw [if_neg h2, if_neg h2]
      cases hp : f.place n with
      | none => rfl
      | some q => rw [if_neg (by rw [hp]; simp)] at h1; exact absurd rfl h1, r⟩⟩
instance (priority := high) fPrev : Known Try.prog 34 (∀ (p : Nat) (f : Fld) (xn : Int) (n : Nat) [NatI xn n], n < 4294967296 → SpecH Try.prog 34 #[.pointer (some ⟨p, 0, none⟩), .int .u32 xn] [FieldAt p f] (fun _ : Unit => resV (f.prev n)) (fun _ => [FieldAt p f])) := ⟨fun p f xn n _ hn => by
  obtain rfl : xn = (n : Int) := NatI.out
  exact field_q fun s r => ⟨_, s, prev_spec.out p s n r.good hn, by
  rw [r.inE]
  unfold Fld.prev
  by_cases h1 : f.inE n = 0
  · rw [if_pos h1]
    obtain ⟨h2, h, i, hp⟩ := r.in0 h1
    obtain ⟨p1, p2, p3⟩ := Fld.place_spec hp
    obtain ⟨hs1, hs2, hs3⟩ := split_at p2
    rw [if_neg (by omega), hp]
    dsimp only
    have hM := r.M
    have hs := r.seg h (by omega)
    have hlt := fun n => r.lt (h := h) (n := n) (by omega)
    have e : (if i = 0 then none else (f.at h)[i - 1]?) = ((f.at h).take ((f.at h).idxOf n)).getLast? := by
      rw [← p3, List.getLast?_take]
      by_cases e0 : i = 0
      · rw [if_pos e0, if_pos e0]
      · rw [if_neg e0, if_neg e0, List.getElem?_eq_getElem (by omega)]; rfl
    rw [e]
    rw [hs1] at hs hlt
    have hs := (seg_last (seg_append.1 hs).1).1
    cases hl : (f.at h).take ((f.at h).idxOf n) with
    | nil => rw [hl] at hs; rw [hs]; exact realV_none (by simp only [lastOf]; omega)
    | cons a l => rw [hl] at hs hlt; rw [hs, lastOf_cons (a := s.N + h)]; exact realV_some (hlt _ (by
        have : lastOf a l ∈ a :: l := lastOf_mem
        simp only [lastOf]; simp only [List.mem_append]; exact .inl this))
  · rw [if_neg h1]
    unfold Fld.inE at h1 ⊢
    by_cases h2 : f.N ≤ n
    · rw [if_pos h2, if_pos h2]; rfl
    · rw [if_neg h2] at h1; rw [if_neg h2, if_neg h2]
      cases hp : f.place n with
      | none => rfl
      | some q => rw [if_neg (by rw [hp]; simp)] at h1; exact absurd rfl h1, r⟩⟩
instance (priority := high) fOf : Known Try.prog 35 (∀ (p : Nat) (f : Fld) (xn : Int) (n : Nat) [NatI xn n], n < 4294967296 → SpecH Try.prog 35 #[.pointer (some ⟨p, 0, none⟩), .int .u32 xn] [FieldAt p f] (fun _ : Unit => .tuple #[.int .i64 ((f.ofR n).1 : Nat), .int .i64 (f.ofR n).2]) (fun _ => [FieldAt p f])) := ⟨fun p f xn n _ hn => by
  obtain rfl : xn = (n : Int) := NatI.out
  exact field_q fun s r => ⟨_, s, of_spec.out p s n r.good hn, by
  rw [r.inE]
  unfold Fld.ofR
  by_cases h1 : f.inE n = 0
  · obtain ⟨h2, h, i, hp⟩ := r.in0 h1
    have ho := r.of_place (n := n) (by rw [r.N]; exact h2)
    rw [hp] at ho
    dsimp only at ho
    rw [if_pos h1, h1, if_neg (by omega), hp, ho]
    dsimp only
    rw [show ((h + 1 : Nat) : Int) - 1 = (h : Int) by omega]
  · rw [if_neg h1]
    unfold Fld.inE at h1 ⊢
    by_cases h2 : f.N ≤ n
    · rw [if_pos h2, if_pos h2]; rfl
    · rw [if_neg h2] at h1; rw [if_neg h2, if_neg h2]
      cases hp : f.place n with
      | none => rfl
      | some q => rw [if_neg (by rw [hp]; simp)] at h1; exact absurd rfl h1, r⟩⟩
instance (priority := high) fFront : Known Try.prog 16 (∀ (p : Nat) (f : Fld) (h : Int) (xn : Int) (n : Nat) [NatI xn n], n < 4294967296 → SpecH Try.prog 16 #[.pointer (some ⟨p, 0, none⟩), .int .i64 h, .int .u32 xn] [FieldAt p f] (fun _ : Unit => .int .i64 (f.addE h n)) (fun _ => [FieldAt p (f.addF h n true)])) := ⟨fun p f h xn n _ hn => by
  obtain rfl : xn = (n : Int) := NatI.out
  exact field_q fun s r => ⟨_, _, front_spec.out p s h n r.good hn, by rw [r.addE], r.addF h n true⟩⟩
instance (priority := high) fBack : Known Try.prog 13 (∀ (p : Nat) (f : Fld) (h : Int) (xn : Int) (n : Nat) [NatI xn n], n < 4294967296 → SpecH Try.prog 13 #[.pointer (some ⟨p, 0, none⟩), .int .i64 h, .int .u32 xn] [FieldAt p f] (fun _ : Unit => .int .i64 (f.addE h n)) (fun _ => [FieldAt p (f.addF h n false)])) := ⟨fun p f h xn n _ hn => by
  obtain rfl : xn = (n : Int) := NatI.out
  exact field_q fun s r => ⟨_, _, back_spec.out p s h n r.good hn, by rw [r.addE], r.addF h n false⟩⟩
instance (priority := high) fBefore : Known Try.prog 23 (∀ (p : Nat) (f : Fld) (xn : Int) (n : Nat) [NatI xn n] (xo : Int) (o : Nat) [NatI xo o], n < 4294967296 → o < 4294967296 → SpecH Try.prog 23 #[.pointer (some ⟨p, 0, none⟩), .int .u32 xn, .int .u32 xo] [FieldAt p f] (fun _ : Unit => .int .i64 (f.befE n o)) (fun _ => [FieldAt p (f.befF n o)])) := ⟨fun p f xn n _ xo o _ hn ho => by
  obtain rfl : xn = (n : Int) := NatI.out
  obtain rfl : xo = (o : Int) := NatI.out
  exact field_q fun s r => ⟨_, _, before_spec.out p s n o r.good hn ho, by rw [r.befE n o (befE s n o) rfl], by unfold befS; rw [r.befE n o (befE s n o) rfl]; exact r.befF n o⟩⟩
instance (priority := high) fRemove : Known Try.prog 15 (∀ (p : Nat) (f : Fld) (xn : Int) (n : Nat) [NatI xn n], n < 4294967296 → SpecH Try.prog 15 #[.pointer (some ⟨p, 0, none⟩), .int .u32 xn] [FieldAt p f] (fun _ : Unit => .int .i64 (f.inE n)) (fun _ => [FieldAt p (f.remF n)])) := ⟨fun p f xn n _ hn => by
  obtain rfl : xn = (n : Int) := NatI.out
  exact field_q fun s r => ⟨_, _, remove_spec.out p s n r.good hn (fun e => r.lnPos n (by rw [← r.inE]; exact e)), by rw [r.inE], by rw [r.inE]; exact r.remF n⟩⟩
theorem _root_.Go.Lk.Repr.listOf_bad {s : LS} {f : Fld} (r : Repr s f) {h : Int} (h1 : h < 0 ∨ (s.M : Int) ≤ h) : f.listOf h = [] := by
  unfold Fld.listOf
  by_cases h2 : 0 ≤ h
  · rw [if_pos h2]; exact r.at_big (by omega)
  · rw [if_neg h2]
theorem _root_.Go.Lk.Repr.listOf_good {s : LS} {f : Fld} (r : Repr s f) {k : Nat} (h1 : k < s.M) : follows s.nx (s.N + k) (s.nx (s.N + k)) (f.listOf k) ∧ (f.listOf k).length ≤ 4194304 := by
  unfold Fld.listOf
  rw [if_pos (by omega), Int.toNat_natCast]
  exact ⟨follows_seg (r.seg k h1) (fun hm => by have := r.lt h1 hm; omega), by have := r.len_le k; have := r.n2; omega⟩
/-- The nodes of a list, and no others have room there. -/
instance (priority := high) fall : Known Try.prog 43 (∀ (p : Nat) (f : Fld) (h : Int), SpecH Try.prog 43 #[.pointer (some ⟨p, 0, none⟩), .int .i64 h] [FieldAt p f] (fun q : Option Addr × Nat => .slice q.1 (f.listOf h).length q.2) (fun q => [FieldAt p f, Vec 35 1 q.1 (f.listOf h).length q.2 (u32s (f.listOf h))])) := ⟨fun p f h => spec_open (α := Option Addr × Nat) (fun _ => FieldAt.openL) fun ⟨s, r⟩ => by
  by_cases h1 : h < 0 ∨ (s.M : Int) ≤ h
  · rw [r.listOf_bad h1]
    refine ⟨_, _, ?_, fun q => ⟨(none, 0), rfl, (FieldAt.shut r).trans (Ent.cons (Rem.here _ _) (Ent.vecNil (Ent.refl _)))⟩⟩
    intro base F w hw
    exact (all_none.out p s h r.good h1 base F w hw).mono fun e w' ⟨x, h2, h3⟩ => ⟨(none, 0), h2, h3⟩
  · obtain ⟨k, rfl⟩ : ∃ k : Nat, h = k := ⟨h.toNat, by omega⟩
    obtain ⟨h2, h3⟩ := r.listOf_good (k := k) (by omega)
    exact ⟨_, _, all_some p s r.good k (by omega) _ h2 h3, fun q => ⟨q, rfl, FieldAt.shut r⟩⟩⟩
instance (priority := high) fCopy : Known Try.prog 26 (∀ (p : Nat) (f : Fld), SpecH Try.prog 26 #[.pointer (some ⟨p, 0, none⟩)] [FieldAt p f] (fun c : Nat => .pointer (some ⟨c, 0, none⟩)) (fun c => [FieldAt p f, FieldAt c f])) := ⟨fun p f  => spec_open (fun _ => FieldAt.openL) fun ⟨s, r⟩ => ⟨_, _, copy_spec.out p s r.good, fun c => ⟨c, rfl, (FieldAt.shut r).trans (Ent.cons (Rem.here _ _) (FieldAt.shut r |>.trans (Ent.refl _))) |>.trans (Ent.refl _)⟩⟩⟩
instance (priority := high) fNew : Known Try.prog 10 (∀ (xN : Int) (N : Nat) [NatI xN N] (xM : Int) (M : Nat) [NatI xM M], 1 ≤ N → N ≤ 4194304 → 1 ≤ M → M ≤ 4096 → SpecH Try.prog 10 #[.int .i64 xN, .int .i64 xM] [] (fun p : Nat => .tuple #[.pointer (some ⟨p, 0, none⟩), .int .i64 0]) (fun p => [FieldAt p ⟨N, List.replicate M []⟩])) := ⟨fun xN N _ xM M _ g1 g2 g3 g4 => by
  obtain rfl : xN = (N : Int) := NatI.out
  obtain rfl : xM = (M : Int) := NatI.out
  exact spec_open (ι := Unit) (pre' := fun _ => []) (fun _ h => ⟨(), h⟩) fun _ => ⟨_, _, new_spec.out N M g1 g2 g3 g4, fun p => ⟨p, rfl, FieldAt.shut (repr_new g1 g2 g3 g4)⟩⟩⟩
end
end Go.Proofs.Ytgmccdicncocdaa
