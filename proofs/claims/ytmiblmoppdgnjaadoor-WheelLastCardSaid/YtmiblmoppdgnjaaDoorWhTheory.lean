/- Slots in buckets, plainly: a field with 256 lists; the words that mark which lists are not empty. No program, no condition. -/
import Derived.Test.YtmiblmoppdgnjaaDoorLkA
import Derived.Test.YtmiblmoppdgnjaaDoorLfTheory
namespace Go.Wh
open Go.Lk Go.Sl Go.Lf
/-- A field whose lists are the buckets of slots that were put one after the other. -/
def FW (N : Nat) (m : List It) : Fld := ⟨N, (List.range 256).map (grp m)⟩
/-- Slots with buckets. -/
structure MO (N : Nat) (m : List It) : Prop where
  nd : (ks m).Nodup
  bk : ∀ y ∈ m, y.2 < 256
  lt : ∀ y ∈ m, y.1 < N
variable {N n b : Nat} {m : List It}
theorem fw_len : (FW N m).L.length = 256 := by simp [FW]
theorem fw_at : (FW N m).at b = if b < 256 then grp m b else [] := by
  unfold FW Fld.at
  rw [List.getD_eq_getElem?_getD, List.getElem?_map]
  by_cases h : b < 256
  · rw [if_pos h, List.getElem?_range h]; rfl
  · rw [if_neg h, List.getElem?_eq_none (by simp; omega)]; rfl
theorem fw_nil : FW N [] = ⟨N, List.replicate 256 []⟩ := by
  have e : (List.range 256).map (grp ([] : List It)) = List.replicate 256 [] := by
    refine List.eq_replicate_iff.2 ⟨by simp, fun l hl => ?_⟩
    obtain ⟨i, _, rfl⟩ := List.mem_map.1 hl
    rfl
  unfold FW; rw [e]
theorem fw_set (_hb : b < 256) {m' : List It} (h : ∀ c, c ≠ b → grp m' c = grp m c) : (FW N m).set b (grp m' b) = FW N m' := by
  unfold FW Fld.set
  congr 1
  refine List.ext_getElem (by simp) fun i h1 h2 => ?_
  rw [List.getElem_set]
  simp only [List.getElem_map, List.getElem_range]
  split
  · rename_i e; rw [e]
  · rename_i e; exact (h i (fun e2 => e e2.symm)).symm
theorem fw_place_none : (FW N m).place n = none ↔ ∀ c, c < 256 → n ∉ grp m c := by
  rw [Fld.place_none, fw_len]
  constructor
  · intro h c hc hn; have := h c hc; rw [fw_at, if_pos hc] at this; exact this hn
  · intro h c hc; rw [fw_at, if_pos hc]; exact h c hc
theorem none_iff (o : MO N m) : (FW N m).place n = none ↔ n ∉ ks m := by
  rw [fw_place_none]
  constructor
  · intro h hn
    obtain ⟨⟨n', c⟩, hy, rfl⟩ := List.mem_map.1 hn
    exact h c (o.bk _ hy) (mem_grp.2 hy)
  · intro h c _ hn
    exact h (List.mem_map.2 ⟨_, mem_grp.1 hn, rfl⟩)
theorem fw_head : (FW N m).head (b : Nat) = decide (b < 256) := by
  unfold Fld.head; rw [fw_len]; exact decide_eq_decide.2 ⟨fun h => by omega, fun h => by omega⟩
/-- A slot is put. -/
theorem fw_add (o : MO N m) (hb : b < 256) (hn : n < N) (h : n ∉ ks m) : (FW N m).addE b n = 0 ∧ (FW N m).addF b n false = FW N (m ++ [(n, b)]) ∧ MO N (m ++ [(n, b)]) := by
  obtain ⟨h1, h2⟩ := Fld.addF_eq (f := FW N m) (b := b) (n := n) (front := false) (by rw [fw_len]; exact hb) hn ((none_iff o).2 h)
  refine ⟨h1, ?_, ?_, fun y hy => ?_, fun y hy => ?_⟩
  · rw [h2, if_neg (by decide), fw_at, if_pos hb]
    have e : grp m b ++ [n] = grp (m ++ [(n, b)]) b := by rw [grp_app]; simp [grp]
    rw [e]
    exact fw_set hb fun c hc => by rw [grp_app]; simp [grp, Ne.symm hc]
  · show ((m ++ [(n, b)]).map (·.1)).Nodup
    rw [List.map_append, List.nodup_append]
    exact ⟨o.nd, by simp, fun a ha c hc e => h (by simp at hc; rw [← hc, ← e]; exact ha)⟩
  · rcases List.mem_append.1 hy with hy | hy
    · exact o.bk y hy
    · obtain rfl : y = (n, b) := by simpa using hy
      exact hb
  · rcases List.mem_append.1 hy with hy | hy
    · exact o.lt y hy
    · obtain rfl : y = (n, b) := by simpa using hy
      exact hn
theorem fw_busy (o : MO N m) (hb : b < 256) (h : n ∈ ks m) : (FW N m).addE b n = 11 ∧ (FW N m).addF b n false = FW N m := by
  have hlt : n < N := by obtain ⟨y, hy, rfl⟩ := List.mem_map.1 h; exact o.lt y hy
  have e : (FW N m).addE b n = 11 := by
    unfold Fld.addE
    rw [fw_head, if_neg (by rw [decide_eq_true hb]; show ¬ (true = false ∨ N ≤ n); simp; omega), if_pos (fun h2 => (none_iff o).1 h2 h)]
  refine ⟨e, ?_⟩
  unfold Fld.addF
  rw [e, if_neg (by decide)]
/-- Where a slot is. -/
theorem fw_of (w : Wf (FW N m)) (o : MO N m) (hn : n < N) : (n ∈ ks m → (FW N m).ofR n = (cntOf m n, 0) ∧ cntOf m n < 256 ∧ n ∈ grp m (cntOf m n)) ∧ (n ∉ ks m → (FW N m).ofR n = (0, 9)) := by
  refine ⟨fun h => ?_, fun h => ?_⟩
  · obtain ⟨⟨n', c⟩, hy, rfl⟩ := List.mem_map.1 h
    have hc := o.bk _ hy
    have e := cntOf_mem o.nd hy
    dsimp only at hc e hn ⊢
    rw [e]
    have hm : n' ∈ (FW N m).at c := by rw [fw_at, if_pos hc]; exact mem_grp.2 hy
    refine ⟨?_, hc, mem_grp.2 hy⟩
    unfold Fld.ofR
    rw [if_neg (by show ¬ N ≤ n'; omega), w.place (by rw [fw_len]; exact hc) hm]
  · unfold Fld.ofR
    rw [if_neg (by show ¬ N ≤ n; omega), (none_iff o).2 h]
theorem fw_far (h : N ≤ n) : (FW N m).ofR n = (0, 2) := by unfold Fld.ofR; exact if_pos h
/-- A slot is taken out. -/
theorem fw_rem (w : Wf (FW N m)) (o : MO N m) (h : n ∈ ks m) : (FW N m).inE n = 0 ∧ (FW N m).remF n = FW N (wo m n) ∧ MO N (wo m n) ∧ ∀ c, grp (wo m n) c = if c = cntOf m n then (grp m c).erase n else grp m c := by
  obtain ⟨⟨n', c⟩, hy, rfl⟩ := List.mem_map.1 h
  have hc := o.bk _ hy
  have e := cntOf_mem o.nd hy
  dsimp only at hc e ⊢
  have hm : n' ∈ (FW N m).at c := by rw [fw_at, if_pos hc]; exact mem_grp.2 hy
  obtain ⟨h1, h2⟩ := Fld.remF_mem w (a := c) (n := n') (by rw [fw_len]; exact hc) hm
  have hg : ∀ d, grp (wo m n') d = if d = c then (grp m d).erase n' else grp m d := fun d => by
    rw [grp_wo]
    have hnd : (grp m d).Nodup := o.nd.sublist grp_sub
    rw [filter_ne_erase hnd]
    split
    · rfl
    · rename_i hd
      exact List.erase_of_not_mem fun h3 => hd (uniq o.nd (mem_grp.1 h3) hy)
  refine ⟨h1, ?_, ⟨o.nd.sublist (List.filter_sublist.map _), fun y hy => o.bk y (mem_wo.1 hy).1, fun y hy => o.lt y (mem_wo.1 hy).1⟩, by rw [e]; exact hg⟩
  rw [h2, fw_at, if_pos hc]
  have e2 : (grp m c).erase n' = grp (wo m n') c := by rw [hg, if_pos rfl]
  rw [e2]
  exact fw_set hc fun d hd => by rw [hg, if_neg hd]
/-- More room. -/
theorem fw_ren {M : Nat} (w : Wf (FW N m)) (o : MO N m) (h1 : N ≤ M) (h2 : M ≤ 4194304) : renG (FW N m) (List.range N) M = FW M m := by
  have hb := w.bound
  have key : ∀ k, k ≤ 256 → renLists (List.range N) (256 - k) ((FW N m).L.drop (256 - k)) ⟨M, ((List.range (256 - k)).map (grp m)) ++ List.replicate k []⟩ = some (FW M m) := by
    intro k
    induction k with
    | zero =>
      intro _
      rw [Nat.sub_zero, List.drop_eq_nil_of_le (by rw [fw_len]; omega)]
      show some _ = _
      unfold FW
      simp
    | succ k ih =>
      intro hk
      have hh : 256 - (k + 1) < (FW N m).L.length := by rw [fw_len]; omega
      rw [renLists_step hh, fw_at, if_pos (by omega)]
      have hl : (256 - (k + 1)) + 1 = 256 - k := by omega
      have hstep : ∀ (l pre : List Nat), pre ++ l = grp m (256 - (k + 1)) → renList (List.range N) (256 - (k + 1)) l ⟨M, ((List.range (256 - (k + 1))).map (grp m)) ++ pre :: List.replicate k []⟩ = some ⟨M, ((List.range (256 - (k + 1))).map (grp m)) ++ (pre ++ l) :: List.replicate k []⟩ := by
        intro l
        induction l with
        | nil => intro pre _; unfold renList; rw [List.append_nil]
        | cons x l ihl =>
          intro pre hpl
          have hx : x ∈ grp m (256 - (k + 1)) := by rw [← hpl]; simp
          have hxm := mem_grp.1 hx
          have hxl : x < N := o.lt _ hxm
          have hat : ∀ c, (⟨M, ((List.range (256 - (k + 1))).map (grp m)) ++ pre :: List.replicate k []⟩ : Fld).at c = if c < 256 - (k + 1) then grp m c else if c = 256 - (k + 1) then pre else [] := fun c => by
            unfold Fld.at
            rw [List.getD_eq_getElem?_getD]
            by_cases h3 : c < 256 - (k + 1)
            · rw [List.getElem?_append_left (by rw [List.length_map, List.length_range]; exact h3), if_pos h3, List.getElem?_map, List.getElem?_range h3]; rfl
            · rw [List.getElem?_append_right (by simp; omega), if_neg h3]
              by_cases h4 : c = 256 - (k + 1)
              · rw [if_pos h4, h4]; simp
              · rw [if_neg h4]
                rw [show c - ((List.range (256 - (k + 1))).map (grp m)).length = (c - (256 - (k + 1)) - 1) + 1 by simp; omega]
                rw [List.getElem?_cons_succ, List.getElem?_replicate]
                split <;> rfl
          have hnd : (grp m (256 - (k + 1))).Nodup := o.nd.sublist grp_sub
          have hp : (⟨M, ((List.range (256 - (k + 1))).map (grp m)) ++ pre :: List.replicate k []⟩ : Fld).place x = none := by
            rw [Fld.place_none]
            intro c _
            rw [hat]
            split
            · rename_i h3
              intro h4
              have := uniq o.nd (mem_grp.1 h4) hxm
              omega
            · split
              · intro h4
                rw [← hpl, List.nodup_append] at hnd
                exact hnd.2.2 x h4 x (by simp) rfl
              · simp
          have hblen : 256 - (k + 1) < (⟨M, ((List.range (256 - (k + 1))).map (grp m)) ++ pre :: List.replicate k []⟩ : Fld).L.length := by simp
          obtain ⟨a1, a2⟩ := Fld.addF_eq (f := ⟨M, ((List.range (256 - (k + 1))).map (grp m)) ++ pre :: List.replicate k []⟩) (b := 256 - (k + 1)) (n := x) (front := false) hblen (by show x < M; omega) hp
          have hto : (List.range N).getD x 0 = x := by rw [List.getD_eq_getElem?_getD, List.getElem?_range hxl]; rfl
          unfold renList
          rw [hto, if_pos a1, a2, if_neg (by decide), hat, if_neg (by omega), if_pos rfl]
          have hset : (⟨M, ((List.range (256 - (k + 1))).map (grp m)) ++ pre :: List.replicate k []⟩ : Fld).set (256 - (k + 1)) (pre ++ [x]) = ⟨M, ((List.range (256 - (k + 1))).map (grp m)) ++ (pre ++ [x]) :: List.replicate k []⟩ := by
            unfold Fld.set
            congr 1
            rw [List.set_append_right _ _ (by simp)]
            simp
          rw [hset, ihl (pre ++ [x]) (by rw [← hpl]; simp)]
          simp
      have e0 : (⟨M, ((List.range (256 - (k + 1))).map (grp m)) ++ List.replicate (k + 1) []⟩ : Fld) = ⟨M, ((List.range (256 - (k + 1))).map (grp m)) ++ [] :: List.replicate k []⟩ := rfl
      rw [e0, hstep (grp m (256 - (k + 1))) [] (List.nil_append _), List.nil_append]
      show renLists (List.range N) (256 - (k + 1) + 1) ((FW N m).L.drop (256 - (k + 1) + 1)) _ = _
      have e1 : (⟨M, ((List.range (256 - (k + 1))).map (grp m)) ++ grp m (256 - (k + 1)) :: List.replicate k []⟩ : Fld) = ⟨M, ((List.range (256 - k)).map (grp m)) ++ List.replicate k []⟩ := by
        congr 1
        rw [← hl, List.range_succ, List.map_append, List.append_assoc]; rfl
      rw [hl, e1]
      exact ih (by omega)
  have h3 := key 256 (Nat.le_refl _)
  have : (FW N m).renF (List.range N) M = some (FW M m) := by
    unfold Fld.renF
    rw [if_neg (by
      have := hb.1
      change 1 ≤ N at this
      rintro (h | h | h)
      · omega
      · omega
      · exact h List.length_range), fw_len]
    exact h3
  exact (ren_some this).2
end Go.Wh
