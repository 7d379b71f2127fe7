/- A cache's keys behind a request, plainly. No program, no condition. -/
import Derived.Test.YtdpiglociolagaaGreatTyLA
import Derived.Test.YtdpiglociolagaaGreatMsSet
namespace Go.Ty
open Go.Lk Go.Sl Go.Ms Go.Proofs.YtdpiglociolagaaGreat
theorem mem_last {X : List Nat} (h : X ≠ []) {x : Nat} : x ∈ X ↔ x = X.getLastD 0 ∨ x ∈ X.dropLast := by
  have e : X.dropLast ++ [X.getLastD 0] = X := by
    rw [List.getLastD_eq_getLast?, List.getLast?_eq_some_getLast h]
    exact List.dropLast_concat_getLast h
  constructor
  · intro hx
    rw [← e, List.mem_append, List.mem_singleton] at hx
    exact hx.symm
  · intro hx
    rw [← e, List.mem_append, List.mem_singleton]
    exact hx.symm
theorem last_mem {X : List Nat} (h : X ≠ []) : X.getLastD 0 ∈ X := (mem_last h).2 (.inl rfl)
theorem drop_mem {X : List Nat} (hn : X.Nodup) (h : X ≠ []) {x : Nat} : x ∈ X.dropLast ↔ x ≠ X.getLastD 0 ∧ x ∈ X := by
  rw [← Go.Ms.erase_last hn h, hn.mem_erase_iff]
section
variable {size most lim k : Nat} {g : Nat → Nat} {W A B : List Nat}
def In (W A B : List Nat) (x : Nat) : Prop := x ∈ W ∨ x ∈ A ∨ x ∈ B
theorem hit_res (h : In W A B k) : useHit W A B k = true ∧ useLeft size most W A B k = false ∧ useOut size most g W A B k = 0 := by
  have h' : k ∈ W ∨ k ∈ A ∨ k ∈ B := h
  exact ⟨decide_eq_true h', if_pos h', if_pos h'⟩
theorem cons_erase_mem {L : List Nat} (hn : L.Nodup) {x : Nat} : x ∈ k :: L.erase k ↔ x = k ∨ x ∈ L := by
  rw [List.mem_cons, hn.mem_erase_iff]
  constructor
  · rintro (h | h)
    · exact .inl h
    · exact .inr h.2
  · rintro (h | h)
    · exact .inl h
    · by_cases e : x = k
      · exact .inl e
      · exact .inr ⟨e, h⟩
theorem hit_mem (ls : Ls3 W A B) (h : In W A B k) (x : Nat) : In (useW size most lim g W A B k).W (useW size most lim g W A B k).A (useW size most lim g W A B k).B x ↔ In W A B x := by
  unfold useW In
  by_cases hW : k ∈ W
  · rw [if_pos hW]
    dsimp only
    rw [cons_erase_mem ls.wn]
    constructor
    · rintro ((e | e) | e)
      · subst e; exact .inl hW
      · exact .inl e
      · exact .inr e
    · rintro (e | e)
      · exact .inl (.inr e)
      · exact .inr e
  · rw [if_neg hW]
    have hAB : k ∈ A ∨ k ∈ B := h.resolve_left hW
    rw [if_pos hAB]
    have key : (x ∈ A.erase k ∨ x ∈ k :: B.erase k) ↔ (x ∈ A ∨ x ∈ B) := by
      rw [cons_erase_mem ls.bn, ls.an.mem_erase_iff]
      constructor
      · rintro (e | e | e)
        · exact .inl e.2
        · subst e; exact hAB
        · exact .inr e
      · rintro (e | e)
        · by_cases q : x = k
          · exact .inr (.inl q)
          · exact .inl ⟨q, e⟩
        · exact .inr (.inr e)
    split
    · dsimp only
      rw [← key, mem_last (X := k :: B.erase k) (List.cons_ne_nil _ _), List.mem_cons (b := (k :: B.erase k).getLastD 0)]
      constructor
      · rintro (e | (e | e) | e)
        · exact .inl e
        · exact .inr (.inr (.inl e))
        · exact .inr (.inl e)
        · exact .inr (.inr (.inr e))
      · rintro (e | e | e | e)
        · exact .inl e
        · exact .inr (.inl (.inr e))
        · exact .inr (.inl (.inl e))
        · exact .inr (.inr e)
    · dsimp only
      rw [key]
structure Miss (size most : Nat) (g : Nat → Nat) (W A B : List Nat) (k : Nat) (full : Bool) (o : Nat) (U : St) : Prop where
  no : full = false → o = 0
  ou : full = true → In W A B o
  ne : full = true → o ≠ k
  sz : full = true → W.length + A.length + B.length = size
  wn : full = true → W ≠ []
  gu : full = true → o ≠ W.getLastD 0 → ¬ g (W.getLastD 0) ≤ g o ∧ In U.W U.A U.B (W.getLastD 0)
  all : ∀ x, In U.W U.A U.B x ↔ x = k ∨ ((full = true → x ≠ o) ∧ In W A B x)
theorem miss_mem (ok : Ty.Ok size most lim W A B) (ls : Ls3 W A B) (h : ¬ In W A B k) : ∃ full o, useHit W A B k = false ∧ useLeft size most W A B k = full ∧ useOut size most g W A B k = o ∧ Miss size most g W A B k full o (useW size most lim g W A B k) := by
  have hW : k ∉ W := fun e => h (.inl e)
  have hAB : ¬ (k ∈ A ∨ k ∈ B) := fun e => h (.inr e)
  have e1 : useHit W A B k = false := decide_eq_false h
  have xn : (k :: W).Nodup := List.nodup_cons.2 ⟨hW, ls.wn⟩
  have s1 := ok.w
  have s2 := ok.ab
  have s3 := ok.m1
  have s4 := ok.m2
  by_cases hl : (k :: W).length ≤ most
  · refine ⟨false, 0, e1, (if_neg h).trans (if_pos hl), (if_neg h).trans (if_pos hl), ?_⟩
    rw [show useW size most lim g W A B k = ⟨k :: W, A, B⟩ from (if_neg hW).trans ((if_neg hAB).trans (if_pos hl))]
    refine ⟨fun _ => rfl, Bool.noConfusion, Bool.noConfusion, Bool.noConfusion, Bool.noConfusion, Bool.noConfusion, fun x => ?_⟩
    unfold In
    rw [List.mem_cons]
    constructor
    · rintro ((e | e) | e)
      · exact .inl e
      · exact .inr ⟨Bool.noConfusion, .inl e⟩
      · exact .inr ⟨Bool.noConfusion, .inr e⟩
    · rintro (e | ⟨_, e | e⟩)
      · exact .inl (.inl e)
      · exact .inl (.inr e)
      · exact .inr e
  · have hl2 : W.length = most := by rw [List.length_cons] at hl; omega
    have hne : W ≠ [] := fun e => by rw [e] at hl2; simp at hl2; omega
    have eL : (k :: W).getLastD 0 = W.getLastD 0 := by
      cases W with
      | nil => exact absurd rfl hne
      | cons y Y => rfl
    have cW : W.getLastD 0 ∈ W := last_mem hne
    have cA : W.getLastD 0 ∉ A := (ls.wd _ cW).1
    have cB : W.getLastD 0 ∉ B := (ls.wd _ cW).2
    have ck : W.getLastD 0 ≠ k := fun e => hW (e ▸ cW)
    have dm : ∀ x, x ∈ (k :: W).dropLast ↔ x ≠ W.getLastD 0 ∧ (x = k ∨ x ∈ W) := fun x => by rw [drop_mem xn (List.cons_ne_nil _ _), eL, List.mem_cons]
    have u0 : useW size most lim g W A B k = admS size most g (k :: W) A B := (if_neg hW).trans ((if_neg hAB).trans (if_neg hl))
    have u1 : useOut size most g W A B k = admO size most g (k :: W) A B := (if_neg h).trans (if_neg hl)
    have u2 : useLeft size most W A B k = decide (¬ rooms size most A B) := (if_neg h).trans (if_neg hl)
    rw [u0, u1, u2]
    by_cases hr : rooms size most A B
    · refine ⟨false, 0, e1, decide_eq_false (fun e => e hr), if_pos hr, ?_⟩
      rw [show admS size most g (k :: W) A B = ⟨(k :: W).dropLast, (k :: W).getLastD 0 :: A, B⟩ from if_pos hr, eL]
      refine ⟨fun _ => rfl, Bool.noConfusion, Bool.noConfusion, Bool.noConfusion, Bool.noConfusion, Bool.noConfusion, fun x => ?_⟩
      unfold In
      dsimp only
      rw [dm, List.mem_cons]
      constructor
      · rintro (⟨_, e | e⟩ | (e | e) | e)
        · exact .inl e
        · exact .inr ⟨Bool.noConfusion, .inl e⟩
        · subst e; exact .inr ⟨Bool.noConfusion, .inl cW⟩
        · exact .inr ⟨Bool.noConfusion, .inr (.inl e)⟩
        · exact .inr ⟨Bool.noConfusion, .inr (.inr e)⟩
      · by_cases q : x = W.getLastD 0
        · intro _; exact .inr (.inl (.inl q))
        · rintro (e | ⟨_, e | e | e⟩)
          · exact .inl ⟨q, .inl e⟩
          · exact .inl ⟨q, .inr e⟩
          · exact .inr (.inl (.inr e))
          · exact .inr (.inr e)
    · have hr' : ¬ A.length + B.length < size - most := hr
      have hv : In W A B (vic A B) ∧ (vic A B ∈ A ∨ vic A B ∈ B) := by
        have : vic A B ∈ A ∨ vic A B ∈ B := by
          unfold vic
          by_cases hA : A = []
          · rw [if_pos hA]
            refine .inr (last_mem fun e => ?_)
            rw [hA, e] at hr'; simp at hr'; omega
          · rw [if_neg hA]; exact .inl (last_mem hA)
        exact ⟨.inr this, this⟩
      have vk : vic A B ≠ k := fun e => hAB (e ▸ hv.2)
      have vW : vic A B ∉ W := fun e => hv.2.elim (ls.wd _ e).1 (ls.wd _ e).2
      have vc : vic A B ≠ W.getLastD 0 := fun e => vW (e ▸ cW)
      have hS : admS size most g (k :: W) A B = if g (W.getLastD 0) ≤ g (vic A B) then ⟨(k :: W).dropLast, A, B⟩ else ⟨(k :: W).dropLast, W.getLastD 0 :: A.erase (vic A B), B.erase (vic A B)⟩ := by unfold admS; rw [if_neg hr, eL]
      have hO : admO size most g (k :: W) A B = if g (W.getLastD 0) ≤ g (vic A B) then W.getLastD 0 else vic A B := by unfold admO; rw [if_neg hr, eL]
      rw [hS, hO]
      by_cases hg : g (W.getLastD 0) ≤ g (vic A B)
      · refine ⟨true, W.getLastD 0, e1, decide_eq_true hr, if_pos hg, ?_⟩
        rw [if_pos hg]
        refine ⟨Bool.noConfusion, fun _ => .inl cW, fun _ => ck, fun _ => by omega, fun _ => hne, fun _ e => absurd rfl e, fun x => ?_⟩
        unfold In
        dsimp only
        rw [dm]
        constructor
        · rintro (⟨q, e | e⟩ | e)
          · exact .inl e
          · exact .inr ⟨fun _ => q, .inl e⟩
          · exact .inr ⟨fun _ q => e.elim (q ▸ cA) (q ▸ cB), .inr e⟩
        · rintro (e | ⟨q, e | e⟩)
          · exact .inl ⟨fun z => ck (z ▸ e), .inl e⟩
          · exact .inl ⟨q rfl, .inr e⟩
          · exact .inr e
      · refine ⟨true, vic A B, e1, decide_eq_true hr, if_neg hg, ?_⟩
        rw [if_neg hg]
        refine ⟨Bool.noConfusion, fun _ => hv.1, fun _ => vk, fun _ => by omega, fun _ => hne, fun _ _ => ⟨hg, .inr (.inl (List.mem_cons_self ..))⟩, fun x => ?_⟩
        unfold In
        dsimp only
        rw [dm, List.mem_cons, ls.an.mem_erase_iff, ls.bn.mem_erase_iff]
        constructor
        · rintro (⟨q, e | e⟩ | (e | e) | e)
          · exact .inl e
          · exact .inr ⟨fun _ z => vW (z ▸ e), .inl e⟩
          · subst e; exact .inr ⟨fun _ => vc.symm, .inl cW⟩
          · exact .inr ⟨fun _ => e.1, .inr (.inl e.2)⟩
          · exact .inr ⟨fun _ => e.1, .inr (.inr e.2)⟩
        · by_cases q : x = W.getLastD 0
          · intro _; exact .inr (.inl (.inl q))
          · rintro (e | ⟨z, e | e | e⟩)
            · exact .inl ⟨q, .inl e⟩
            · exact .inl ⟨q, .inr e⟩
            · exact .inr (.inl (.inr ⟨z rfl, e⟩))
            · exact .inr (.inr ⟨z rfl, e⟩)
end
/-! ### Guesses -/
theorem get_set_true {B : List Bool} {p q : Nat} (h : B.getD q false = true) : (B.set p true).getD q false = true := by
  rw [List.getD_eq_getElem?_getD, List.getElem?_set]
  split
  · rename_i e
    subst e
    split
    · rfl
    · rename_i hl
      rw [List.getD_eq_getElem?_getD, List.getElem?_eq_none (by omega)] at h
      exact h
  · rw [← List.getD_eq_getElem?_getD]; exact h
theorem get_set_same {B : List Bool} {p : Nat} (h : p < B.length) : (B.set p true).getD p false = true := by
  rw [List.getD_eq_getElem?_getD, List.getElem?_set, if_pos rfl, if_pos h]; rfl
theorem has_add {B : List Bool} {h : BitVec 64} (h0 : 0 < B.length) : hasB (addB B h) h = true := by
  have l3 := addB_len (B := B) (h := h)
  have p0 := plB_lt (h := h) (n := B.length) (i := 0) h0
  have p1 := plB_lt (h := h) (n := B.length) (i := 1) h0
  have p2 := plB_lt (h := h) (n := B.length) (i := 2) h0
  refine has_yes ?_ ?_ ?_
  · rw [l3, add_set]; exact get_set_true (get_set_true (get_set_same p0))
  · rw [l3, add_set]; exact get_set_true (get_set_same (by rw [List.length_set]; exact p1))
  · rw [l3, add_set]; exact get_set_same (by rw [List.length_set, List.length_set]; exact p2)
theorem note_req {m : Mem} {mst w : Nat} {h : BitVec 64} : (m.note mst w h).req = if m.req + 1 = mst then 0 else m.req + 1 := by
  have e := mid_req (m := m) (w := w) (h := h)
  unfold Mem.note
  rw [e]
  split <;> rfl
theorem note_guess {m : Mem} {mst w n : Nat} {h : BitVec 64} (ok : MemOk w n m) (hr : m.req + 1 ≠ mst) : 1 ≤ (m.note mst w h).guess w h := by
  have h0 : 0 < m.b.length := by rw [ok.bl]; have := ok.bits.b; omega
  cases e : hasB m.b h with
  | true =>
    rw [(note_yn (ad := 0) e hr).1]
    unfold Mem.guess
    dsimp only
    rw [e]
    exact Nat.le_add_left _ _
  | false =>
    rw [(note_nn (ad := 0) e hr).1]
    unfold Mem.guess
    dsimp only
    rw [has_add h0]
    exact Nat.le_add_left _ _
theorem mod_zero {a b : Nat} (h : (a + 1) % (10 * b) = 0) : ((a : Int) + 1) % (10 * (b : Int)) = 0 := by
  show (((a + 1 : Nat) : Int)) % ((10 * b : Nat) : Int) = 0
  rw [← Int.natCast_emod, h]; rfl
theorem mod_ne {a b : Nat} (h : ¬ (a + 1) % (10 * b) = 0) : ((a : Int) + 1) % (10 * (b : Int)) ≠ 0 := by
  intro e
  have e2 : (((a + 1 : Nat) : Int)) % ((10 * b : Nat) : Int) = 0 := e
  rw [← Int.natCast_emod] at e2
  exact h (Int.natCast_eq_zero.1 e2)
theorem mod_step {a b : Nat} (hb : 0 < b) : (a + 1) % b = if a % b + 1 = b then 0 else a % b + 1 := by
  have h := Nat.mod_lt a hb
  rw [← Nat.mod_add_mod]
  split
  · rename_i e; rw [e, Nat.mod_self]
  · exact Nat.mod_eq_of_lt (by omega)
theorem mod_req {r rq mst : Nat} (h : r = rq % mst) (hn : ¬ (rq + 1) % mst = 0) (hb : 0 < mst) : r + 1 ≠ mst := fun e => hn (by rw [mod_step hb, ← h, if_pos e])
structure HS (w n size : Nat) (s : St) (m : Mem) (rq : Nat) (kt : List (Nat × Bool)) (i : Nat) : Prop where
  t : MS true kt ((s.W ++ s.A) ++ s.B)
  ok : MemOk w n m
  req : m.req = rq % (10 * size)
  le : rq ≤ i
theorem in_app {W A B : List Nat} {x : Nat} : x ∈ (W ++ A) ++ B ↔ In W A B x := by
  rw [List.mem_append, List.mem_append, or_assoc]; rfl
theorem Ls3.nd {W A B : List Nat} (h : Ls3 W A B) : ((W ++ A) ++ B).Nodup := by
  refine List.nodup_append.2 ⟨List.nodup_append.2 ⟨h.wn, h.an, fun x hx y hy e => (h.wd x hx).1 (e ▸ hy)⟩, h.bn, fun x hx y hy e => ?_⟩
  subst e
  rcases List.mem_append.1 hx with q | q
  · exact (h.wd x q).2 hy
  · exact h.ab x q hy
theorem HS.note {w n size i : Nat} {s s' : St} {m : Mem} {rq : Nat} {kt kt' : List (Nat × Bool)} {h : BitVec 64} (H : HS w n size s m rq kt i) (hs : 0 < size) (t : MS true kt' ((s'.W ++ s'.A) ++ s'.B)) : HS w n size s' (m.note (10 * size) w h) (rq + 1) kt' (i + 1) :=
  ⟨t, H.ok.note, by rw [note_req, mod_step (by omega), H.req], Nat.succ_le_succ H.le⟩
theorem HS.drop {w n size i k : Nat} {W A B : List Nat} {m : Mem} {rq : Nat} {kt : List (Nat × Bool)} (H : HS w n size ⟨W, A, B⟩ m rq kt i) (ls : Ls3 W A B) : HS w n size ⟨W.erase k, A.erase k, B.erase k⟩ m rq (mdel kt k) (i + 1) := by
  refine ⟨H.t.del fun x => ?_, H.ok, H.req, Nat.le_succ_of_le H.le⟩
  dsimp only
  rw [List.mem_append, List.mem_append, List.mem_append, List.mem_append, ls.wn.mem_erase_iff, ls.an.mem_erase_iff, ls.bn.mem_erase_iff]
  constructor
  · rintro ((h | h) | h)
    · exact ⟨h.1, .inl (.inl h.2)⟩
    · exact ⟨h.1, .inl (.inr h.2)⟩
    · exact ⟨h.1, .inr h.2⟩
  · rintro ⟨q, (h | h) | h⟩
    · exact .inl (.inl ⟨q, h⟩)
    · exact .inl (.inr ⟨q, h⟩)
    · exact .inr ⟨q, h⟩
def preT (W A B : List Nat) : Nat → List Nat
  | 0 => []
  | 1 => W
  | 2 => W ++ A
  | _ => (W ++ A) ++ B
section
variable {size most lim w n i k rq : Nat} {seed : BitVec 64} {W A B : List Nat} {m : Mem} {kt : List (Nat × Bool)}
theorem hit_step (ls : Ls3 W A B) (hs : 0 < size) (H : HS w n size ⟨W, A, B⟩ m rq kt i) (hin : In W A B k) : ∃ W' A' B' m', UseT3 size most lim w seed W A B m k W' A' B' m' true false 0 ∧ HS w n size ⟨W', A', B'⟩ m' (rq + 1) (mput kt k true) (i + 1) ∧ (¬ (rq + 1) % (10 * size) = 0 → 1 ≤ m'.guess w (sumB seed (txt k))) := by
  obtain ⟨r1, r2, r3⟩ := hit_res (size := size) (most := most) (g := fun x => (m.note (10 * size) w (sumB seed (txt k))).guess w (sumB seed (txt x))) hin
  have um := hit_mem (size := size) (most := most) (lim := lim) (g := (fun x => (m.note (10 * size) w (sumB seed (txt k))).guess w (sumB seed (txt x)))) ls hin
  obtain ⟨U, hU⟩ : ∃ U, useW size most lim (fun x => (m.note (10 * size) w (sumB seed (txt k))).guess w (sumB seed (txt x))) W A B k = U := ⟨_, rfl⟩
  rw [hU] at um
  refine ⟨U.W, U.A, U.B, _, ⟨rfl, hU, r1, r2, r3⟩, H.note hs (H.t.put fun x => ?_), fun hn => note_guess H.ok (mod_req H.req hn (by omega))⟩
  rw [in_app, in_app, um x]
  exact ⟨.inr, fun h => h.elim (fun e => e ▸ hin) id⟩
theorem miss_step (ok : Ty.Ok size most lim W A B) (ls : Ls3 W A B) (H : HS w n size ⟨W, A, B⟩ m rq kt i) (hin : ¬ In W A B k) : ∃ full o W' A' B' m', UseT3 size most lim w seed W A B m k W' A' B' m' false full o ∧ (¬ (rq + 1) % (10 * size) = 0 → 1 ≤ m'.guess w (sumB seed (txt k))) ∧
    (full = false → o = 0 ∧ HS w n size ⟨W', A', B'⟩ m' (rq + 1) (mput kt k true) (i + 1)) ∧
    (full = true → In W A B o ∧ W.length + A.length + B.length = size ∧ 0 < W.length ∧ o < 4294967296 ∧ W.getD (W.length - 1) 0 < 4294967296 ∧ HS w n size ⟨W', A', B'⟩ m' (rq + 1) (mput (mdel kt o) k true) (i + 1) ∧
      (o ≠ W.getD (W.length - 1) 0 → ¬ m'.guess w (sumB seed (txt (W.getD (W.length - 1) 0))) ≤ m'.guess w (sumB seed (txt o)) ∧ Mem3 W' A' B' (W.getD (W.length - 1) 0) true)) := by
  obtain ⟨full, o, r1, r2, r3, ms⟩ := miss_mem (size := size) (most := most) (lim := lim) (g := fun x => (m.note (10 * size) w (sumB seed (txt k))).guess w (sumB seed (txt x))) ok ls hin
  have s2 := ok.s2
  obtain ⟨U, hU⟩ : ∃ U, useW size most lim (fun x => (m.note (10 * size) w (sumB seed (txt k))).guess w (sumB seed (txt x))) W A B k = U := ⟨_, rfl⟩
  rw [hU] at ms
  refine ⟨full, o, U.W, U.A, U.B, _, ⟨rfl, hU, r1, r2, r3⟩, fun hn => note_guess H.ok (mod_req H.req hn (by omega)), fun hf => ?_, fun hf => ?_⟩
  · subst hf
    refine ⟨ms.no rfl, H.note (by omega) (H.t.put fun x => ?_)⟩
    rw [in_app, ms.all x, in_app]
    constructor
    · rintro (e | ⟨_, e2⟩)
      · exact .inl e
      · exact .inr e2
    · rintro (e | e)
      · exact .inl e
      · exact .inr ⟨Bool.noConfusion, e⟩
  · subst hf
    have ho := ms.ou rfl
    have hWl := List.length_pos_iff.2 (ms.wn rfl)
    have hlast : W.getD (W.length - 1) 0 = W.getLastD 0 := by rw [List.getLastD_eq_getLast?, List.getLast?_eq_getElem?, List.getD_eq_getElem?_getD]
    have hT1 : MS true (mdel kt o) (((W ++ A) ++ B).filter fun x => x != o) := H.t.del fun x => by rw [List.mem_filter, bne_iff_ne, and_comm]
    refine ⟨ho, ms.sz rfl, hWl, ls.lt _ ho, ls.lt _ (.inl (by rw [List.getD_eq_getElem?_getD, List.getElem?_eq_getElem (by omega)]; exact List.getElem_mem _)), H.note (by omega) (hT1.put fun x => ?_), fun e => ?_⟩
    · rw [in_app, ms.all x, List.mem_filter, bne_iff_ne, in_app]
      constructor
      · rintro (e | ⟨e1, e2⟩)
        · exact .inl e
        · exact .inr ⟨e2, e1 rfl⟩
      · rintro (e | ⟨e1, e2⟩)
        · exact .inl e
        · exact .inr ⟨fun _ => e2, e1⟩
    · obtain ⟨hg, hinc⟩ := ms.gu rfl (fun q => e (q.trans hlast.symm))
      rw [← hlast] at hg hinc
      exact ⟨hg, ⟨decide_eq_true hinc⟩⟩
end
end Go.Ty
