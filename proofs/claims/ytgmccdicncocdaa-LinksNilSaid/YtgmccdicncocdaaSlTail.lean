/- A region that draws its order: reads in whatever order, then the writes one after the other. For whatever program. -/
import Derived.Test.YtgmccdicncocdaaSlDraw
import Derived.StillTail
namespace Go.Sl
section
variable {r : Option Nat} {P : Program} {base : World} {n : Nat} {ds : List Deferred} {Q : Exit → Act → World → Prop} {ops : Array Oper} {l : List HP}

theorem OpQ.unput {oi oj : Oper} {env : Env} {u v : Value} (hap : oi.apart ops oj = true) (h : OpQ r P ops oj n ds (putE oi.dst u env) l v) : OpQ r P ops oj n ds env l v := fun b F a w ha hs => h b F a w ⟨ha.size, ha.defers, fun t ht x hx => ha.val t ht x (by
  obtain ⟨h1, _, _⟩ := Oper.apart_spec hap
  cases hdst : oi.dst with
  | none => rw [hdst] at hx; exact hx
  | some d =>
    have : d ∉ oj.looksAt ops := h1 d hdst
    rw [hdst] at hx
    simp only [putE, look_cons] at hx
    rw [if_neg (fun e : d = t => this (e ▸ ht))] at hx; exact hx)⟩ hs
theorem OpQ.congr {o : Oper} {e e' : Env} {v : Value} (he : EqE e e') (h : OpQ r P ops o n ds e l v) : OpQ r P ops o n ds e' l v := fun b F a w ha hs => h b F a w (ha.congr he.symm) hs

/-- The reads ahead of number 'k', in whatever order. -/
def QL (r : Option Nat) (P : Program) (n : Nat) (ds : List Deferred) (ops : Array Oper) (l : List HP) (k : Nat) (L : Array Bool → Env → Prop) : Nat → Array Bool → Env → Prop
  | 0, listed, env => L listed env
  | f + 1, listed, env => Region.ready .any ops listed ≠ [] ∧ ∀ i ∈ Region.ready .any ops listed, i < k ∧ ∀ o, ops[i]? = some o → ∃ v, OpQ r P ops o n ds env l v ∧ QL r P n ds ops l k L f (listed.setIfInBounds i true) (putE o.dst v env)
theorem ql_sound {k g : Nat} {L : Array Bool → Env → Prop} (hd : ∀ (i : Nat) (o : Oper), ops[i]? = some o → ∀ d, o.dst = some d → d < n)
    (hL : ∀ listed env, L listed env → ∀ a w, AS n ds env a → St base l w → wpAnyIn (Fc r) 0 P .any ops Q g listed a w) : ∀ (f : Nat) (listed : Array Bool) (env : Env), QL r P n ds ops l k L f listed env → ∀ a w, AS n ds env a → St base l w → wpAnyIn (Fc r) 0 P .any ops Q (f + g) listed a w
  | 0, listed, env, h, a, w, ha, hs => by rw [Nat.zero_add]; exact hL _ _ h a w ha hs
  | f + 1, listed, env, h, a, w, ha, hs => by
    rw [show f + 1 + g = (f + g) + 1 by omega]
    refine ⟨fun h0 => absurd h0 h.1, fun i hi => ?_⟩
    obtain ⟨_, o, ho, _⟩ := mem_ready.1 hi
    obtain ⟨v, hq, hk⟩ := (h.2 i hi).2 o ho
    unfold wpOpIn
    simp only [ho]
    have hx := hq base [] a w (ha.ao ops o) (by simpa using hs)
    have := Step.of_v (K := wpAnyIn (Fc r) 0 P .any ops Q (f + g) (listed.setIfInBounds i true)) (Q := Q) r P hx (fun u w' ⟨hu, hs'⟩ => by
      subst hu; exact ql_sound hd hL f _ _ hk _ _ (ha.putE (hd i o ho) _) (by simpa using hs'))
    unfold Step at this
    split
    · rename_i hw; rw [if_pos hw] at this; exact this
    · rename_i hw; rw [if_neg hw] at this; exact ⟨fun _ _ => trivial, this⟩
theorem ql_congr {k : Nat} {L : Array Bool → Env → Prop} (hL : ∀ listed e e', EqE e e' → L listed e → L listed e') : ∀ (f : Nat) (listed : Array Bool) (e e' : Env), EqE e e' → QL r P n ds ops l k L f listed e → QL r P n ds ops l k L f listed e'
  | 0, _, _, _, he, h => hL _ _ _ he h
  | f + 1, _, _, _, he, h => ⟨h.1, fun i hi => ⟨(h.2 i hi).1, fun o ho => let ⟨v, hq, hk⟩ := (h.2 i hi).2 o ho; ⟨v, hq.congr he, ql_congr hL f _ _ _ (he.putE o.dst v) hk⟩⟩⟩
theorem ql_first {k i : Nat} {oi : Oper} {v : Value} {L : Array Bool → Env → Prop} (hLc : ∀ listed e e', EqE e e' → L listed e → L listed e') (hi : ops[i]? = some oi)
    (hs : Region.sinkB .any ops k = true) (hc : Region.chainB .any ops k = true) (hn : k < ops.size) (hin : i < k)
    (hdone : ∀ listed e, L listed e → ∀ j ∈ Region.ready .any ops listed, k ≤ j) :
    ∀ (f : Nat) (listed : Array Bool) (env : Env), HeadInv .any ops k listed →
      (∀ j oj, ops[j]? = some oj → j ≠ i → listed.getD j true = false → (∀ e ∈ oj.after, Region.binds .any e = true → e.on ≠ i) → oi.apart ops oj = true) →
      i ∈ Region.ready .any ops listed → OpQ r P ops oi n ds env l v →
      QL r P n ds ops l k L f (listed.setIfInBounds i true) (putE oi.dst v env) → QL r P n ds ops l k L (f + 1) listed env := by
  intro f
  induction f with
  | zero =>
    intro listed env inv _ hr hq H
    have hun := (mem_ready.1 hr).1
    refine ⟨fun h => (by rw [h] at hr; cases hr), fun j hj => ?_⟩
    have hjn : j < k := by
      rcases Nat.lt_or_ge j k with h | h
      · exact h
      · exact absurd hj (tail_waits hs hc hn inv _ i rfl hin hun j h)
    refine ⟨hjn, fun oj hoj => ?_⟩
    by_cases hji : j = i
    · subst hji
      have : oj = oi := Option.some.inj (hoj.symm.trans hi)
      subst this; exact ⟨v, hq, H⟩
    · have := hdone _ _ H j (ready_mono hj hji)
      omega
  | succ f ih =>
    intro listed env inv hfree hr hq H
    have hun := (mem_ready.1 hr).1
    refine ⟨fun h => (by rw [h] at hr; cases hr), fun j hj => ?_⟩
    have hjn : j < k := by
      rcases Nat.lt_or_ge j k with h | h
      · exact h
      · exact absurd hj (tail_waits hs hc hn inv _ i rfl hin hun j h)
    refine ⟨hjn, fun oj hoj => ?_⟩
    by_cases hji : j = i
    · subst hji
      have : oj = oi := Option.some.inj (hoj.symm.trans hi)
      subst this; exact ⟨v, hq, H⟩
    · obtain ⟨u, hqj, H'⟩ := (H.2 j (ready_mono hj hji)).2 oj hoj
      obtain ⟨hjun, oj', hoj', hall⟩ := mem_ready.1 hj
      have hjj : oj' = oj := Option.some.inj (hoj'.symm.trans hoj)
      subst hjj
      have hnot : ∀ e ∈ oj'.after, Region.binds .any e = true → e.on ≠ i := fun e he hb heq => by
        have h1 := hall e he hb
        rw [heq, getD_both hun] at h1
        cases h1
      have hap := hfree j oj' hoj hji hjun hnot
      have hfree' : ∀ q ok, ops[q]? = some ok → q ≠ i → (listed.setIfInBounds j true).getD q true = false →
          (∀ e ∈ ok.after, Region.binds .any e = true → e.on ≠ i) → oi.apart ops ok = true := fun q ok hk hki hun hno => by
        refine hfree q ok hk hki ?_ hno
        by_cases hjk : j = q
        · subst hjk; exact hjun
        · rw [getD_set_ne true hjk] at hun; exact hun
      refine ⟨u, hqj.unput hap, ih (listed.setIfInBounds j true) _ (inv.set hj hjn) hfree' (ready_mono hr (Ne.symm hji)) (hq.put hap) ?_⟩
      rw [Array.setIfInBounds_comm _ _ hji]
      exact ql_congr hLc f _ _ _ (putE_comm (fun d hd' he => (Oper.apart_spec hap).2.1 d he hd') u v env) H'
theorem wl_seq : ∀ (lo : List Oper) (k : Nat) (listed : Array Bool) (a : Act) (w : World), (∀ j, lo[j]? = ops[k + j]?) → Region.seqB .any ops lo.length k listed = true → wl r P ops Q lo a w → wpAnyIn (Fc r) 0 P .any ops Q lo.length listed a w
  | [], _, _, _, _, _, hB, h => ⟨by simpa [Region.seqB] using hB, h⟩
  | o :: lo, k, listed, a, w, hl, hB, h => by
    have h0 : ops[k]? = some o := by simpa using (hl 0).symm
    simp only [List.length_cons, Region.seqB, Bool.and_eq_true, decide_eq_true_eq] at hB
    refine ⟨fun h1 => (by rw [hB.1] at h1; cases h1), fun i hi => ?_⟩
    rw [hB.1] at hi
    have hik : i = k := by simpa using hi
    subst hik
    have hw : wpOpIn (Fc r) 0 P ops Q i (wl r P ops Q lo) a w := by
      unfold wpOpIn
      simp only [h0]
      have h1 : Step r P ops o (wl r P ops Q lo) Q a w := h
      unfold Step at h1
      split
      · rename_i hx; rw [if_pos hx] at h1; exact h1
      · rename_i hx; rw [if_neg hx] at h1; exact ⟨fun _ _ => trivial, h1⟩
    exact wpOpIn_mono (fun a' w' h' => wl_seq lo (i + 1) _ a' w' (fun j => by have := hl (j + 1); simpa [Nat.add_assoc, Nat.add_comm 1 j] using this) hB.2 h') hw
theorem ql_lex {k g : Nat} {L : Env → Prop} (hLc : ∀ e e', EqE e e' → L e → L e') (hs : Region.sinkB .any ops k = true) (hc : Region.chainB .any ops k = true) (hn : k < ops.size) :
    ∀ (lo : List Oper) (q : Nat) (listed : Array Bool) (env : Env), (∀ j, j < lo.length → lo[j]? = ops[q + j]?) → q + lo.length = k → HeadInv .any ops k listed →
    Region.lexHead .any ops g lo.length q listed = true → TQ r P n ds ops l lo env L →
    QL r P n ds ops l k (fun listed' e => Region.seqB .any ops g k listed' = true ∧ L e) lo.length listed env
  | [], q, listed, env, _, hk, _, hB, h => by
    have : q = k := by simpa using hk
    subst this
    exact ⟨by simpa [Region.lexHead] using hB, h⟩
  | o :: lo, q, listed, env, hl, hk, inv, hB, h => by
    have h0 : ops[q]? = some o := by simpa using (hl 0 (by simp)).symm
    simp only [List.length_cons, Region.lexHead, Bool.and_eq_true] at hB
    obtain ⟨⟨hr, hf⟩, hB'⟩ := hB
    have hkn : q < k := by simp only [List.length_cons] at hk; omega
    have hr' : q ∈ Region.ready .any ops listed := by simpa using hr
    obtain ⟨v, hq, hK⟩ := h
    exact ql_first (fun _ _ _ he h => ⟨h.1, hLc _ _ he h.2⟩) h0 hs hc hn hkn (fun listed' a' hL => seqB_ready hL.1) lo.length listed env inv (Region.free_spec h0 hf) hr' hq
      (ql_lex hLc hs hc hn lo (q + 1) _ _ (fun j hj => by have := hl (j + 1) (by simp; omega); simpa [Nat.add_assoc, Nat.add_comm 1 j] using this) (by simp only [List.length_cons] at hk; omega) (inv.set hr' hkn) hB' hK)
/-- **Reads in whatever order, then the rest in the order of the text.** -/
theorem tc_tail {id : Nat} {lo : List Oper} {env : Env} (k : Nat) (hB : drawB P lo.toArray n = true) (hx : Region.lexTailB .any lo.toArray k = true)
    (h : TQ r P n ds lo.toArray l (lo.take k) env (fun env' => TL r P base n ds lo.toArray (lo.drop k) Q env' l)) : TC r P base n ds (.region id lo.toArray true) Q env l := fun a w ha hs => by
  simp only [drawB, Bool.and_eq_true] at hB
  simp only [Region.lexTailB, Bool.and_eq_true, decide_eq_true_eq] at hx
  obtain ⟨⟨⟨⟨_, hn⟩, hsk⟩, hc⟩, hlex⟩ := hx
  have hn' : k < lo.length := by simpa using hn
  have htl : (lo.take k).length = k := by simp; omega
  have hdl : (lo.drop k).length = lo.toArray.size - k := by simp
  have inv0 : HeadInv .any lo.toArray k (Array.replicate lo.toArray.size false) :=
    ⟨by simp, fun j oj _ hl => (by rw [getD_replicate_false] at hl; cases hl), fun t _ ht => getD_in (by simpa using ht) (getD_replicate_false _ _)⟩
  have H := ql_lex (r := r) (P := P) (n := n) (ds := ds) (l := l) (g := lo.toArray.size - k) (L := fun env' => TL r P base n ds lo.toArray (lo.drop k) Q env' l) (fun e e' he h a w ha hs => h a w (ha.congr he.symm) hs) hsk hc hn (lo.take k) 0 _ env (fun j hj => by
    have hj' : j < k := by rw [htl] at hj; exact hj
    simp [hj']) (by simpa using htl) inv0 (by rw [htl]; exact hlex) h
  refine wpIn_region_any hB.1.1 ?_
  have := ql_sound (base := base) (Q := Q) (g := lo.toArray.size - k) (dstB_spec hB.2) (fun listed env hL a w ha hs => by
    have := wl_seq (r := r) (P := P) (ops := lo.toArray) (Q := Q) (lo.drop k) k listed a w (fun j => by simp [List.getElem?_drop]) (by rw [hdl]; exact hL.1) (hL.2 a w ha hs)
    rwa [hdl] at this) _ _ _ H a { w with drawn := w.drawn + 1 } ha (hs.drawn _)
  rw [htl, show k + (lo.toArray.size - k) = lo.toArray.size by omega] at this
  exact this
end
end Go.Sl
