/- Two lists of keys over a table of slots, plainly; two queues and ghosts. No program, no condition. -/
import Derived.Test.YtcgdkcdlglbigaaTbTheory
namespace Go.Tb
open Go.Lk Go.Sl
theorem getLastD_snoc {l : List Nat} {x : Nat} : (l ++ [x]).getLastD 0 = x := by
  rw [List.getLastD_eq_getLast?, List.getLast?_append]; rfl
/-- Two lists of slots, the oldest first; 'Q', 'M': their keys, the newest first. -/
structure Two (size : Nat) (Q M : List Nat) (kv : List (Nat × Nat)) (K fr Lq Lm : List Nat) : Prop where
  tab : Tab size kv K fr (Lq ++ Lm)
  q : Q = keysR K Lq
  m : M = keysR K Lm
namespace Two
variable {size : Nat} {Q M : List Nat} {kv : List (Nat × Nat)} {K fr Lq Lm : List Nat} {k z : Nat}
theorem nd (t : Two size Q M kv K fr Lq Lm) : Lq.Nodup ∧ Lm.Nodup ∧ ∀ z ∈ Lq, z ∉ Lm := by
  have h := t.tab.und
  rw [List.nodup_append] at h
  exact ⟨h.1, h.2.1, fun z h1 h2 => h.2.2 z h1 z h2 rfl⟩
theorem swap (t : Two size Q M kv K fr Lq Lm) : Two size M Q kv K fr Lm Lq := ⟨t.tab.perm List.perm_append_comm, t.m, t.q⟩
theorem qlen (t : Two size Q M kv K fr Lq Lm) : Q.length = Lq.length := by rw [t.q, keysR_len]
theorem mlen (t : Two size Q M kv K fr Lq Lm) : M.length = Lm.length := by rw [t.m, keysR_len]
theorem len (t : Two size Q M kv K fr Lq Lm) : kv.length = Q.length + M.length := by rw [t.tab.len, List.length_append, t.qlen, t.mlen]
theorem le (t : Two size Q M kv K fr Lq Lm) : Q.length + M.length ≤ size := by
  have := t.tab.tot
  rw [List.length_append, ← t.qlen, ← t.mlen] at this
  omega
theorem qlt (t : Two size Q M kv K fr Lq Lm) {z : Nat} (h : z ∈ Lq) : z < size := t.tab.ult z (List.mem_append_left _ h)
theorem mlt (t : Two size Q M kv K fr Lq Lm) {z : Nat} (h : z ∈ Lm) : z < size := t.tab.ult z (List.mem_append_right _ h)
theorem qnd (t : Two size Q M kv K fr Lq Lm) : Q.Nodup := by rw [t.q]; exact keysR_nodup t.tab t.nd.1 fun z h => List.mem_append_left _ h
theorem mnd (t : Two size Q M kv K fr Lq Lm) : M.Nodup := t.swap.qnd
theorem qkl (t : Two size Q M kv K fr Lq Lm) : ∀ k ∈ Q, k < 4294967296 := fun k hk => by
  rw [t.q, mem_keysR] at hk
  obtain ⟨z, hz, rfl⟩ := hk
  exact t.tab.klt (t.qlt hz)
theorem mkl (t : Two size Q M kv K fr Lq Lm) : ∀ k ∈ M, k < 4294967296 := t.swap.qkl
theorem disj (t : Two size Q M kv K fr Lq Lm) (h : k ∈ Q) : k ∉ M := by
  rw [t.q, mem_keysR] at h
  obtain ⟨z, hz, rfl⟩ := h
  rw [t.m, mem_keysR]
  rintro ⟨y, hy, e⟩
  obtain rfl := t.tab.inj (List.mem_append_right _ hy) (List.mem_append_left _ hz) e
  exact t.nd.2.2 y hz hy
theorem none_of (t : Two size Q M kv K fr Lq Lm) (h : mget kv k = none) : k ∉ Q ∧ k ∉ M :=
  ⟨by rw [t.q]; exact not_keysR t.tab (fun z h => List.mem_append_left _ h) h, by rw [t.m]; exact not_keysR t.tab (fun z h => List.mem_append_right _ h) h⟩
theorem some_of (t : Two size Q M kv K fr Lq Lm) (h : mget kv k = some z) : (k ∈ Q ↔ z ∈ Lq) ∧ (k ∈ M ↔ z ∈ Lm) ∧ (k ∈ Q ∨ k ∈ M) ∧ z < size ∧ K.getD z 0 = k := by
  obtain ⟨h1, h2, h3⟩ := t.tab.some_of h
  have a1 : k ∈ Q ↔ z ∈ Lq := by rw [t.q]; exact mem_keysR_at t.tab (fun z h => List.mem_append_left _ h) h
  have a2 : k ∈ M ↔ z ∈ Lm := by rw [t.m]; exact mem_keysR_at t.tab (fun z h => List.mem_append_right _ h) h
  refine ⟨a1, a2, ?_, h3, h2⟩
  rw [a1, a2]
  exact List.mem_append.1 h1
theorem mem_iff (t : Two size Q M kv K fr Lq Lm) : (k ∈ Q ∨ k ∈ M) ↔ (mget kv k).isSome = true := by
  cases h : mget kv k with
  | none => have := t.none_of h; simp [this.1, this.2]
  | some z => exact ⟨fun _ => rfl, fun _ => (t.some_of h).2.2.1⟩
/-- The oldest one of the first list goes. -/
theorem evictQ (t : Two size Q M kv K fr (z :: Lq) Lm) : K.getD z 0 = Q.getLastD 0 ∧ mget kv (K.getD z 0) = some z ∧ z < size ∧ Q ≠ [] ∧ Two size Q.dropLast M (mdel kv (K.getD z 0)) K (fr ++ [z]) Lq Lm := by
  have hg : mget kv (K.getD z 0) = some z := t.tab.of_mem (by simp)
  have hQ : Q = keysR K Lq ++ [K.getD z 0] := by rw [t.q, keysR_cons]
  have hr := t.tab.remove hg
  rw [List.cons_append, List.erase_cons_head] at hr
  exact ⟨by rw [hQ, getLastD_snoc], hg, t.qlt (by simp), by rw [hQ]; simp, hr, by rw [hQ, List.dropLast_concat], t.m⟩
theorem evictM (t : Two size Q M kv K fr Lq (z :: Lm)) : K.getD z 0 = M.getLastD 0 ∧ mget kv (K.getD z 0) = some z ∧ z < size ∧ M ≠ [] ∧ Two size Q M.dropLast (mdel kv (K.getD z 0)) K (fr ++ [z]) Lq Lm := by
  obtain ⟨h1, h2, h3, h4, h5⟩ := t.swap.evictQ
  exact ⟨h1, h2, h3, h4, h5.swap⟩
/-- A key comes into the first list. -/
theorem addQ {r : List Nat} (t : Two size Q M kv K (r ++ [z]) Lq Lm) (h : mget kv k = none) (hk : k < 4294967296) : z ∉ Lq ∧ z ∉ Lm ∧ z < size ∧ Two size (k :: Q) M (mput kv k z) (K.set z k) r (Lq ++ [z]) Lm := by
  obtain ⟨h1, h2, h3, h4, h5⟩ := t.tab.add h hk
  rw [List.mem_append, not_or] at h5
  refine ⟨h5.1, h5.2, h4, h1.perm ?_, ?_, ?_⟩
  · rw [List.append_assoc, List.append_assoc]
    exact List.Perm.append_left _ List.perm_append_comm
  · rw [keysR_snoc, h3, keysR_congr fun y hy => h2 y (List.mem_append_left _ hy), t.q]
  · rw [keysR_congr fun y hy => h2 y (List.mem_append_right _ hy), t.m]
theorem addM {r : List Nat} (t : Two size Q M kv K (r ++ [z]) Lq Lm) (h : mget kv k = none) (hk : k < 4294967296) : z ∉ Lq ∧ z ∉ Lm ∧ z < size ∧ Two size Q (k :: M) (mput kv k z) (K.set z k) r Lq (Lm ++ [z]) := by
  obtain ⟨h1, h2, h3, h4⟩ := t.swap.addQ h hk
  exact ⟨h2, h1, h3, h4.swap⟩
/-- A key of the second list becomes its newest one. -/
theorem useM (t : Two size Q M kv K fr Lq Lm) (hz : z ∈ Lm) (e : K.getD z 0 = k) : Two size Q (k :: M.erase k) kv K fr Lq (Lm.erase z ++ [z]) := by
  refine ⟨t.tab.perm (List.Perm.append_left _ ?_), t.q, ?_⟩
  · exact ((List.perm_cons_erase hz).trans (List.perm_append_comm (l₁ := [z])))
  · rw [keysR_snoc, e, keysR_erase t.tab t.nd.2.1 (fun z h => List.mem_append_right _ h) hz, e, ← t.m]
/-- A key of the first list becomes the newest one of the second list. -/
theorem moveQ (t : Two size Q M kv K fr Lq Lm) (hz : z ∈ Lq) (e : K.getD z 0 = k) : Two size (Q.erase k) (k :: M) kv K fr (Lq.erase z) (Lm ++ [z]) := by
  refine ⟨t.tab.perm ?_, ?_, ?_⟩
  · rw [← List.append_assoc]
    refine (((List.perm_cons_erase hz).append_right Lm).trans ?_)
    rw [List.cons_append]
    exact List.perm_append_comm (l₁ := [z]) (l₂ := Lq.erase z ++ Lm)
  · rw [keysR_erase t.tab t.nd.1 (fun z h => List.mem_append_left _ h) hz, e, ← t.q]
  · rw [keysR_snoc, e, ← t.m]
/-- A key goes. -/
theorem drop (t : Two size Q M kv K fr Lq Lm) (h : mget kv k = some z) : Two size (Q.erase k) (M.erase k) (mdel kv k) K (fr ++ [z]) (Lq.erase z) (Lm.erase z) := by
  obtain ⟨h1, h2, h3, h4, h5⟩ := t.some_of h
  obtain ⟨n1, n2, n3⟩ := t.nd
  have hr := t.tab.remove h
  have hq : keysR K (Lq.erase z) = Q.erase k := by
    by_cases hz : z ∈ Lq
    · rw [keysR_erase t.tab n1 (fun z h => List.mem_append_left _ h) hz, h5, ← t.q]
    · rw [List.erase_of_not_mem hz, List.erase_of_not_mem (fun h => hz (h1.1 h)), t.q]
  have hm : keysR K (Lm.erase z) = M.erase k := by
    by_cases hz : z ∈ Lm
    · rw [keysR_erase t.tab n2 (fun z h => List.mem_append_right _ h) hz, h5, ← t.m]
    · rw [List.erase_of_not_mem hz, List.erase_of_not_mem (fun h => hz (h2.1 h)), t.m]
  refine ⟨?_, hq.symm, hm.symm⟩
  rw [List.erase_append] at hr
  by_cases hz : z ∈ Lq
  · rw [if_pos hz] at hr
    rw [List.erase_of_not_mem (n3 z hz)]; exact hr
  · rw [if_neg hz] at hr
    rw [List.erase_of_not_mem hz]; exact hr
theorem new : Two size [] [] [] (List.replicate size 0) (List.range size).reverse [] [] := ⟨Tab.new, rfl, rfl⟩
end Two
end Go.Tb
