/- What a map says of the keys that are there, plainly. No program, no condition. -/
import Derived.Test.YtcgdkcdlglbigaaTqScan
import Derived.Test.YtcgdkcdlglbigaaSlM
namespace Go.Tq
open Go.Lk Go.Sl Go.Tb
/-- A map whose keys are those of a list, each with the same value. -/
structure MS {α : Type} (v : α) (kv : List (Nat × α)) (S : List Nat) : Prop where
  kn : (mkeys kv).Nodup
  at_ : ∀ k, mget kv k = if k ∈ S then some v else none
section
variable {α : Type} {v : α} {kv : List (Nat × α)} {S S' : List Nat} {k : Nat}
theorem MS.nil : MS v [] [] := ⟨List.nodup_nil, fun _k => rfl⟩
theorem MS.yes (h : MS v kv S) (hk : k ∈ S) : mget kv k = some v := by rw [h.at_, if_pos hk]
theorem MS.no (h : MS v kv S) (hk : k ∉ S) : mget kv k = none := by rw [h.at_, if_neg hk]
theorem MS.congr (h : MS v kv S) (e : ∀ x, x ∈ S' ↔ x ∈ S) : MS v kv S' := ⟨h.kn, fun k => by rw [h.at_]; simp only [e]⟩
theorem MS.put (h : MS v kv S) (e : ∀ x, x ∈ S' ↔ x = k ∨ x ∈ S) : MS v (mput kv k v) S' := ⟨mput_nodup h.kn, fun j => by
  rw [mget_put, h.at_]
  by_cases hj : j = k
  · rw [if_pos hj, if_pos ((e j).2 (.inl hj))]
  · rw [if_neg hj]
    by_cases hs : j ∈ S
    · rw [if_pos hs, if_pos ((e j).2 (.inr hs))]
    · rw [if_neg hs, if_neg fun x => ((e j).1 x).elim hj hs]⟩
theorem MS.del (h : MS v kv S) (e : ∀ x, x ∈ S' ↔ x ≠ k ∧ x ∈ S) : MS v (mdel kv k) S' := ⟨mdel_nodup h.kn, fun j => by
  rw [mget_del h.kn, h.at_]
  by_cases hj : j = k
  · rw [if_pos hj, if_neg fun x => ((e j).1 x).1 hj]
  · rw [if_neg hj]
    by_cases hs : j ∈ S
    · rw [if_pos hs, if_pos ((e j).2 ⟨hj, hs⟩)]
    · rw [if_neg hs, if_neg fun x => hs ((e j).1 x).2]⟩
theorem mem_keys_iff : k ∈ mkeys kv ↔ (mget kv k).isSome = true := by
  induction kv with
  | nil => simp [mkeys, mget]
  | cons y t ih =>
    obtain ⟨a, b⟩ := y
    show k ∈ a :: mkeys t ↔ (if a = k then some b else mget t k).isSome = true
    rw [List.mem_cons, ih]
    by_cases e : a = k
    · subst e; simp
    · rw [if_neg e]
      constructor
      · rintro (h | h)
        · exact absurd h.symm e
        · exact h
      · exact .inr
theorem MS.len (h : MS v kv S) (hn : S.Nodup) : kv.length = S.length := by
  have hp : (mkeys kv).Perm S := (List.perm_ext_iff_of_nodup h.kn hn).2 fun k => by
    rw [mem_keys_iff, h.at_]
    by_cases hk : k ∈ S
    · simp [hk]
    · simp [hk]
  have := hp.length_eq
  unfold mkeys at this
  rwa [List.length_map] at this
end
section
variable {kv : List (Nat × Bool)} {G Mb : List Nat} {k j : Nat}
theorem take_getD (hj : j < G.length) : G.take (j + 1) = G.take j ++ [G.getD j 0] := by
  rw [List.take_succ_eq_append_getElem hj, List.getD_eq_getElem?_getD, List.getElem?_eq_getElem hj]; rfl
theorem step_eq (h : MS true kv (if k ∈ G.take j then k :: Mb else Mb)) (hj : j < G.length) (e : G.getD j 0 = k) : MS true (mput kv k true) (if k ∈ G.take (j + 1) then k :: Mb else Mb) := by
  rw [take_getD hj, e, if_pos (by simp)]
  refine h.put fun x => ?_
  split <;> simp
theorem step_ne (h : MS true kv (if k ∈ G.take j then k :: Mb else Mb)) (hj : j < G.length) (e : G.getD j 0 ≠ k) : MS true kv (if k ∈ G.take (j + 1) then k :: Mb else Mb) := by
  have e2 : k ∈ G.take (j + 1) ↔ k ∈ G.take j := by rw [take_getD hj, List.mem_append, List.mem_singleton]; exact ⟨fun h => h.resolve_right (Ne.symm e), .inl⟩
  simp only [e2]; exact h
theorem all_step {ka : List (Nat × Int)} {pre L : List Nat} (h : MS (1 : Int) ka (pre ++ L.take j)) (hn : (pre ++ L).Nodup) (hj : j < L.length) : mget ka (L.getD j 0) = none ∧ MS (1 : Int) (mput ka (L.getD j 0) (0 + 1)) (pre ++ L.take (j + 1)) := by
  have hd : L.getD j 0 ∉ pre ++ L.take j := by
    have e : pre ++ L = (pre ++ L.take j) ++ L.drop j := by rw [List.append_assoc, List.take_append_drop]
    rw [e, List.drop_eq_getElem_cons hj, List.nodup_append] at hn
    intro hx
    refine hn.2.2 _ hx (L.getD j 0) ?_ rfl
    rw [List.getD_eq_getElem?_getD, List.getElem?_eq_getElem hj]; exact List.mem_cons_self
  refine ⟨h.no hd, h.put fun x => ?_⟩
  rw [take_getD hj, ← List.append_assoc, List.mem_append, List.mem_singleton, or_comm]
theorem getD_mem {L : List Nat} (hj : j < L.length) : L.getD j 0 ∈ L := by
  rw [List.getD_eq_getElem?_getD, List.getElem?_eq_getElem hj]; exact List.getElem_mem hj
end
section
variable {size most gm k o : Nat} {Q M G : List Nat}
theorem mem_dropLast {L : List Nat} (h : L.Nodup) (hne : L ≠ []) {x : Nat} : x ∈ L.dropLast ↔ x ≠ L.getLastD 0 ∧ x ∈ L := by
  rw [← h.erase_last hne, h.mem_erase_iff]
/-- No ghost is there. -/
def DJ (Q M G : List Nat) : Prop := ∀ x ∈ G, x ∉ Q ∧ x ∉ M
/-- What a request does, seen by membership. -/
structure UseM (Q M G : List Nat) (k : Nat) (full : Bool) (o : Nat) (Q' M' G' : List Nat) : Prop where
  ou : full = true → o ∈ Q ∨ o ∈ M
  all : ∀ x, (x ∈ Q' ∨ x ∈ M') ↔ x = k ∨ ((full = true → x ≠ o) ∧ (x ∈ Q ∨ x ∈ M))
  main : ∀ x, x ∈ M' ↔ (x = k ∧ k ∈ G) ∨ ((full = true → x ≠ o) ∧ x ∈ M)
  dj : DJ Q' M' G'
theorem room_mem (ok : Ok size gm ⟨Q, M, G⟩) (h1 : 1 ≤ size) (dj : DJ Q M G) : ∃ full o, roomB size ⟨Q, M, G⟩ = full ∧ roomO size most ⟨Q, M, G⟩ = o ∧ (full = true → o ∈ Q ∨ o ∈ M) ∧ (full = true → Q.length + M.length = size) ∧ (full = false → o = 0) ∧
    (∀ x, (x ∈ (roomS size most gm ⟨Q, M, G⟩).Q ∨ x ∈ (roomS size most gm ⟨Q, M, G⟩).M) ↔ ((full = true → x ≠ o) ∧ (x ∈ Q ∨ x ∈ M))) ∧
    (∀ x, x ∈ (roomS size most gm ⟨Q, M, G⟩).M ↔ ((full = true → x ≠ o) ∧ x ∈ M)) ∧
    (∀ x ∈ (roomS size most gm ⟨Q, M, G⟩).G, (x = o ∧ full = true ∨ x ∈ G)) ∧ DJ (roomS size most gm ⟨Q, M, G⟩).Q (roomS size most gm ⟨Q, M, G⟩).M (roomS size most gm ⟨Q, M, G⟩).G := by
  have hlen := ok.len
  have hqn := ok.qn
  have hmn := ok.mn
  have hdj := ok.dj
  dsimp only at hlen hqn hmn hdj
  by_cases hr : Q.length + M.length < size
  · obtain ⟨e1, e2, e3⟩ := room_no (most := most) (gm := gm) (G := G) hr
    refine ⟨false, 0, e2, by omega, fun h => (by cases h), fun h => (by cases h), fun _ => rfl, ?_, ?_, ?_, ?_⟩
    · rw [e1]; intro x; simp
    · rw [e1]; intro x; simp
    · rw [e1]; intro x hx; exact .inr hx
    · rw [e1]; exact dj
  · by_cases hq : most < Q.length ∨ M = []
    · obtain ⟨e1, e2, e3⟩ := room_q (gm := gm) (G := G) hr hq
      have hne := room_ne hr hq h1
      have hl := getLastD_mem hne
      have key : ∀ x, (x ∈ Q.dropLast ∨ x ∈ M) ↔ (x ≠ Q.getLastD 0 ∧ (x ∈ Q ∨ x ∈ M)) := fun x => by
        rw [mem_dropLast hqn hne]
        constructor
        · rintro (⟨a, b⟩ | b)
          · exact ⟨a, .inl b⟩
          · exact ⟨fun e => hdj _ hl (e ▸ b), .inr b⟩
        · rintro ⟨a, b | b⟩
          · exact .inl ⟨a, b⟩
          · exact .inr b
      refine ⟨true, Q.getLastD 0, e2, e3, fun _ => .inl hl, fun _ => by omega, fun h => (by cases h), ?_, ?_, ?_, ?_⟩
      · rw [e1]; intro x; rw [key x]; simp
      · rw [e1]; intro x
        constructor
        · intro b; exact ⟨fun _ e => hdj _ hl (e ▸ b), b⟩
        · exact fun h => h.2
      · rw [e1]; intro x hx
        rcases mem_addL hx with h | h
        · exact .inl ⟨h, rfl⟩
        · exact .inr h
      · rw [e1]; intro x hx
        dsimp only at hx ⊢
        rw [mem_dropLast hqn hne]
        rcases mem_addL hx with h | h
        · subst h
          exact ⟨fun h => h.1 rfl, hdj _ hl⟩
        · exact ⟨fun h2 => (dj x h).1 h2.2, (dj x h).2⟩
    · obtain ⟨e1, e2, e3⟩ := room_m (gm := gm) (G := G) hr hq
      have hne : M ≠ [] := fun e => hq (.inr e)
      have hl := getLastD_mem hne
      refine ⟨true, M.getLastD 0, e2, e3, fun _ => .inr hl, fun _ => by omega, fun h => (by cases h), ?_, ?_, ?_, ?_⟩
      · rw [e1]; intro x
        dsimp only
        rw [mem_dropLast hmn hne]
        constructor
        · rintro (b | ⟨a, b⟩)
          · exact ⟨fun _ e => hdj x b (e ▸ hl), .inl b⟩
          · exact ⟨fun _ => a, .inr b⟩
        · rintro ⟨a, b | b⟩
          · exact .inl b
          · exact .inr ⟨a rfl, b⟩
      · rw [e1]; intro x
        dsimp only
        rw [mem_dropLast hmn hne]
        simp
      · rw [e1]; intro x hx; exact .inr hx
      · rw [e1]; intro x hx
        dsimp only
        rw [mem_dropLast hmn hne]
        exact ⟨(dj x hx).1, fun h => (dj x hx).2 h.2⟩
/-- A request for a key that is not there. -/
theorem use_mem (ok : Ok size gm ⟨Q, M, G⟩) (h1 : 1 ≤ size) (dj : DJ Q M G) (n1 : k ∉ Q) (n2 : k ∉ M) : ∃ full o, useH ⟨Q, M, G⟩ k = false ∧ useL size ⟨Q, M, G⟩ k = full ∧ useO size most ⟨Q, M, G⟩ k = o ∧ (full = true → Q.length + M.length = size) ∧ (full = false → o = 0) ∧ UseM Q M G k full o (useS size most gm ⟨Q, M, G⟩ k).Q (useS size most gm ⟨Q, M, G⟩ k).M (useS size most gm ⟨Q, M, G⟩ k).G := by
  obtain ⟨e1, e2, e3⟩ := hit_f (size := size) (most := most) (G := G) (fun h : k ∈ Q ∨ k ∈ M => h.elim n1 n2)
  by_cases hG : k ∈ G
  · have ok' : Ok size gm ⟨Q, M, G.erase k⟩ := ⟨ok.qn, ok.mn, ok.dj, ok.len, ok.gn.erase k, Nat.le_trans List.erase_sublist.length_le ok.gl, ok.lt⟩
    obtain ⟨full, o, r1, r2, r3, r4, r5, r6, r7, r8, r9⟩ := room_mem (most := most) ok' h1 fun x hx => dj x (List.mem_of_mem_erase hx)
    refine ⟨full, o, e1, by rw [e2]; exact r1, by rw [e3]; exact r2, r4, r5, ?_⟩
    rw [use_ghost n2 n1 hG]
    refine ⟨r3, fun x => ?_, fun x => ?_, fun x hx => ?_⟩
    · dsimp only
      rw [← r6 x, List.mem_cons]
      constructor
      · rintro (h | h | h)
        · exact .inr (.inl h)
        · exact .inl h
        · exact .inr (.inr h)
      · rintro (h | h | h)
        · exact .inr (.inl h)
        · exact .inl h
        · exact .inr (.inr h)
    · dsimp only
      rw [← r7 x, List.mem_cons]
      simp [hG]
    · dsimp only at hx ⊢
      obtain ⟨a, b⟩ := r9 x hx
      refine ⟨a, ?_⟩
      rw [List.mem_cons]
      rintro (h | h)
      · subst h
        rcases r8 x hx with ⟨h2, h3⟩ | h2
        · exact (r3 h3).elim (fun h => n1 (h2 ▸ h)) (fun h => n2 (h2 ▸ h))
        · exact (ok.gn.mem_erase_iff.1 h2).1 rfl
      · exact b h
  · obtain ⟨full, o, r1, r2, r3, r4, r5, r6, r7, r8, r9⟩ := room_mem (most := most) ok h1 dj
    refine ⟨full, o, e1, by rw [e2]; exact r1, by rw [e3]; exact r2, r4, r5, ?_⟩
    rw [use_new n2 n1 hG]
    refine ⟨r3, fun x => ?_, fun x => ?_, fun x hx => ?_⟩
    · dsimp only
      rw [← r6 x, List.mem_cons, or_assoc]
    · dsimp only
      rw [← r7 x]
      simp [hG]
    · dsimp only at hx ⊢
      obtain ⟨a, b⟩ := r9 x hx
      refine ⟨?_, b⟩
      rw [List.mem_cons]
      rintro (h | h)
      · subst h
        rcases r8 x hx with ⟨h2, h3⟩ | h2
        · exact (r3 h3).elim (fun h => n1 (h2 ▸ h)) (fun h => n2 (h2 ▸ h))
        · exact hG h2
      · exact a h
/-- A request for a key that is there. -/
theorem use_hit (ok : Ok size gm ⟨Q, M, G⟩) (dj : DJ Q M G) (h : k ∈ Q ∨ k ∈ M) : (∀ x, (x ∈ (useS size most gm ⟨Q, M, G⟩ k).Q ∨ x ∈ (useS size most gm ⟨Q, M, G⟩ k).M) ↔ (x ∈ Q ∨ x ∈ M)) ∧ (∀ x, x ∈ (useS size most gm ⟨Q, M, G⟩ k).M ↔ x ∈ M) ∧ DJ (useS size most gm ⟨Q, M, G⟩ k).Q (useS size most gm ⟨Q, M, G⟩ k).M (useS size most gm ⟨Q, M, G⟩ k).G := by
  by_cases hM : k ∈ M
  · rw [use_main hM]
    have e : ∀ x, x ∈ k :: M.erase k ↔ x ∈ M := fun x => by
      rw [List.mem_cons, ok.mn.mem_erase_iff]
      by_cases hx : x = k
      · subst hx; simp [hM]
      · simp [hx]
    refine ⟨fun x => by dsimp only; rw [e], e, fun x hx => ⟨(dj x hx).1, by dsimp only; rw [e]; exact (dj x hx).2⟩⟩
  · rw [use_queue hM (h.resolve_right hM)]
    exact ⟨fun x => Iff.rfl, fun x => Iff.rfl, dj⟩
end
end Go.Tq
