/- SlE: SlRow, SlRow2. -/
import Derived.Test.YtdpiglociolagaaGreatSlD
import Derived.ChangeSame
import Derived.CallsIn
import Derived.Deep.Slices
import Derived.WideKeyArgs
import Derived.ChangeOld
import Derived.WalkKit
import Derived.ProofKit
import Derived.OpenShut
/- From a contract to a call from outside: the blocks that there were stay as they were. For whatever program. -/
namespace Go.Sl
def allOf (w : World) : HP := fun h => h = fun k => (w.heap[k]?).map fun o => (false, o)
end Go.Sl

/- From a contract whose arguments hold slices to a call from outside; a law that returns true and leaves its arguments as they were. For whatever program. -/
namespace Go.Sl
open Go.ChangeShapes Go.WideShapes Go.ChangeAt Go.RowKit Go.Deep
def Bears (w : World) (p : HP) : Prop := ∃ h, p h ∧ ∀ k x, h k = some x → x.1 = false ∧ w.heap[k]? = some x.2
theorem bears_all {w : World} : ∀ {l : List HP}, (∀ p ∈ l, Bears w p) → lst (l ++ [allOf w]) (fun k => (w.heap[k]?).map fun o => (false, o))
  | [], _ => ⟨_, fun _ => none, fun _ => .inr (.inl rfl), by funext k; unfold joinH; dsimp only; cases (w.heap[k]?).map (fun o => (false, o)) <;> rfl, rfl, trivial⟩
  | p :: l, h => by
    obtain ⟨hp, h1, h2⟩ := h p (by simp)
    refine ⟨hp, _, fun k => ?_, ?_, h1, bears_all fun q hq => h q (by simp [hq])⟩
    · cases hk : hp k with
      | none => exact .inl rfl
      | some x =>
        obtain ⟨b, o⟩ := x
        obtain ⟨h3, h4⟩ := h2 k _ hk
        dsimp only at h3 h4
        subst h3
        exact .inr (.inr ⟨by rw [h4]; rfl, o, rfl⟩)
    · funext k
      cases hk : hp k with
      | none => rw [joinH_none hk]
      | some x =>
        obtain ⟨b, o⟩ := x
        obtain ⟨h3, h4⟩ := h2 k _ hk
        dsimp only at h3 h4
        subst h3
        rw [joinH_left hk, h4]; rfl
theorem calls_of_pre {P : Program} {f : FuncId} {args : Array Value} {v : Value} {pre : List HP} (w : World) (hs : SpecH P f args pre (fun _ : Unit => v) (fun _ => [])) (hp : ∀ p ∈ pre, Bears w p) :
    Calls P f args w fun e w' => e = .returned v ∧ w'.os = w.os ∧ w'.output = w.output ∧ ∀ (i : Nat) o, w.heap[i]? = some o → w'.heap[i]? = some o := by
  have h := hs w (allOf w) w ⟨rfl, rfl, rfl, (fun k => (w.heap[k]?).map fun o => (false, o)), fun k x hx => by
    dsimp only at hx
    cases hk : w.heap[k]? with
    | none => rw [hk] at hx; cases hx
    | some o => rw [hk] at hx; simp at hx; rw [← hx], bears_all hp⟩
  refine (CallsIn.calls h (fun k => room_wide k)).mono ?_
  rintro e w' ⟨_, rfl, hw'⟩
  obtain ⟨h', hf, a, b, hd, rfl, ha, _⟩ := hw'.heap
  exact ⟨rfl, hw'.os, hw'.output, fun i o hi => hf i (false, o) (joinH_left (by rw [ha]; simp [hi]))⟩
section
variable {H : Type} {enc : TypeId × Value → H} {P : Program} {W W' : World}
theorem same_kept (hos : W'.os = W.os) (hout : W'.output = W.output) (h : ∀ (i : Nat) o, W.heap[i]? = some o → W'.heap[i]? = some o) : W.keptBut W' (fun _ => False) := by
  refine ⟨hos, hout, fun i hi => ?_⟩
  have h1 : W.heap[i]? = some W.heap[i] := by simp [hi]
  rw [h1, h i _ h1]
  cases W.heap[i] <;> simp
theorem same_at (h : ∀ (i : Nat) o, W.heap[i]? = some o → W'.heap[i]? = some o) {p : MemPlace} (hp : p.block < W.heap.size) : W.sameAt W' p := by
  cases p with
  | cell b off =>
    have h1 : W.heap[b]? = some (W.heap[b]'hp) := Array.getElem?_eq_getElem hp
    show W'.cell? _ = W.cell? _
    unfold World.cell?
    dsimp only
    rw [h b _ h1, h1]
  | map b =>
    have h1 : W.heap[b]? = some (W.heap[b]'hp) := Array.getElem?_eq_getElem hp
    show W'.heap[b]? = W.heap[b]?
    rw [h b _ h1, h1]
theorem trodAll_stays (hl : laidOutB P = true) {sp : Nat → Bool} : ∀ {ts : List TypeId} {vs : List Value} {ds : List (DataW H)} {ps : List MemPlace}, (∀ t ∈ ts, P.readableRec t = true ∧ t < P.types.size) → DataW.TrodAll enc P W 0 (fun _ => true) true ts vs ds ps →
    (∀ p ∈ ps, W.sameAt W' p) → (∀ p ∈ ps, sp p.block = true) → DataW.TrodAll enc P W' 0 sp true ts vs ds ps
  | [], [], [], _, _, h, _, _ => h
  | t :: _, _ :: _, _ :: _, _, ht, ⟨p, q, h1, h2, e⟩, hs, hb => by
    subst e
    exact ⟨p, q, Go.WideElems.Trod_stays hl (ht t (by simp)).1 (ht t (by simp)).2 h1 (fun x hx => hs x (List.mem_append_left _ hx)) (fun x hx => hb x (List.mem_append_left _ hx)),
      trodAll_stays hl (fun u hu => ht u (by simp [hu])) h2 (fun x hx => hs x (List.mem_append_right _ hx)) (fun x hx => hb x (List.mem_append_right _ hx)), rfl⟩
  | [], _ :: _, _, _, _, h, _, _ => h.elim
  | [], [], _ :: _, _, _, h, _, _ => h.elim
  | _ :: _, [], _, _, _, h, _, _ => h.elim
  | _ :: _, _ :: _, [], _, _, h, _, _ => h.elim
theorem trodAll_len {sp : Nat → Bool} : ∀ {ts : List TypeId} {vs : List Value} {ds : List (DataW H)} {ps : List MemPlace}, DataW.TrodAll enc P W 0 sp true ts vs ds ps → ds.length = ts.length
  | [], [], [], _, _ => rfl
  | _ :: _, _ :: _, _ :: _, _, ⟨_, _, _, h2, _⟩ => by simp [trodAll_len h2]
  | [], _ :: _, _, _, h => h.elim
  | [], [], _ :: _, _, h => h.elim
  | _ :: _, [], _, _, h => h.elim
  | _ :: _, _ :: _, [], _, h => h.elim
structure LawOk (P : Program) (f : Func) (s : ChangeSpec) : Prop where
  laid : laidOutB P = true
  types : (f.params.toList.all fun t => P.readableRec t && decide (t < P.types.size)) = true
  vars : s.vars = []
  res : ∃ tb, f.resultTypes = #[tb] ∧ P.underlying tb = some .bool
  spec : ∀ (H : Type) (ds : List (DataW H)), ds.length = f.params.toList.length → (s.fn H ds).results = [.lit (.bool true)] ∧ (s.fn H ds).args = ds ∧ (s.fn H ds).vars = []
theorem law_post {f : Func} {s : ChangeSpec} (k : LawOk P f s) {args : Array Value} {ds gs : List (DataW H)} {before : List MemPlace} (hW : DataW.Whole enc P f.params.toList s.vars false W args.toList ds gs before)
    (hos : W'.os = W.os) (hout : W'.output = W.output) (hsame : ∀ (i : Nat) o, W.heap[i]? = some o → W'.heap[i]? = some o) : s.post enc P f false true false false W args (.bool true) W' := by
  have hW' := hW
  obtain ⟨p, q, hA, hV, rfl, hfz, hnd⟩ := hW
  have hV' := hV
  rw [k.vars] at hV'
  obtain ⟨rfl, rfl⟩ := trodVars_none hV'
  obtain ⟨tb, hr1, hr2⟩ := k.res
  obtain ⟨s1, s2, s3⟩ := k.spec H ds (trodAll_len hA)
  have hlt := hW'.lt
  rw [List.append_nil] at hW' hlt
  have ht : ∀ t ∈ f.params.toList, P.readableRec t = true ∧ t < P.types.size := fun t ht => by
    have := List.all_eq_true.1 k.types t ht
    simpa using this
  refine ⟨ds, [], p, [], p, [], hW', ?_, ?_, ?_, World.keptBut_mono (fun _ h => h.elim) (same_kept hos hout hsame), fun h => by cases h⟩
  · rw [hr1, List.append_nil, s1]
    exact trodAll_cons_mk (shut_bool hr2 _) trodAll_mk0
  · rw [List.append_nil, s2]
    exact trodAll_stays k.laid ht hA (fun x hx => same_at hsame (hlt x hx)) (fun x hx => by simpa using hlt x hx)
  · rw [List.append_nil, s3, k.vars]; rfl
theorem law_calls {fid : FuncId} {f : Func} {s : ChangeSpec} (k : LawOk P f s) {args : Array Value} {ds gs : List (DataW H)} {before : List MemPlace} {pre : List HP} (hW : DataW.Whole enc P f.params.toList s.vars false W args.toList ds gs before)
    (hs : SpecH P fid args pre (fun _ : Unit => .bool true) (fun _ => [])) (hp : ∀ p ∈ pre, Bears W p) : Calls P fid args W fun e W' => ∃ v, e = .returned v ∧ s.post enc P f false true false false W args v W' :=
  (calls_of_pre W hs hp).mono fun _ _ ⟨he, h1, h2, h3⟩ => ⟨_, he, law_post k hW h1 h2 h3⟩
theorem bears_rows {sz len cap : Nat} {a : Addr} {f : Nat → List Value} (hsz : 0 < sz) (hlen : ∀ i, (f i).length = sz) (hl : len ≤ cap) (hx : ∀ i, i < cap → W.cells? 0 (a.add (i * sz)) sz = some (f i)) : Bears W (RoS sz (some a) len cap (rows len f)) := by
  by_cases h0 : cap = 0
  · subst h0
    obtain rfl : len = 0 := by omega
    exact ⟨fun _ => none, .inl ⟨rfl, rfl, rfl, rfl⟩, fun k x h => by cases h⟩
  · have cell : ∀ q, q < cap * sz → W.cell? (a.add q) = (f (q / sz))[q % sz]? := fun q hq => by
      have h1 : q / sz < cap := (Nat.div_lt_iff_lt_mul hsz).2 hq
      have h2 := (World.cells?_some (hx _ h1)).2.2 (q % sz) (Nat.mod_lt _ hsz)
      rw [← h2]
      congr 1
      have e : q / sz * sz + q % sz = q := by rw [Nat.mul_comm]; exact Nat.div_add_mod q sz
      unfold Addr.add
      by_cases c1 : q / sz * sz = 0
      · rw [if_pos c1]
        have : q % sz = q := by omega
        rw [this]
      · rw [if_neg c1]
        by_cases c2 : q % sz = 0
        · rw [if_pos c2, if_neg (by omega)]
          have : q = q / sz * sz := by omega
          rw [← this]
        · rw [if_neg c2, if_neg (by omega)]
          simp only [Addr.mk.injEq, and_true, true_and]
          omega
    have h2 := cell 0 (Nat.mul_pos (by omega) hsz)
    have h3 : a.add 0 = a := rfl
    rw [h3, Nat.zero_div, Nat.zero_mod, List.getElem?_eq_getElem (by rw [hlen]; exact hsz)] at h2
    unfold World.cell? at h2
    cases hk : W.heap[a.block]? with
    | none => rw [hk] at h2; cases h2
    | some o =>
      rw [hk] at h2
      cases o with
      | cells c T fr =>
        dsimp only at h2
        by_cases hsp : a.spot.isSome
        · rw [if_pos hsp] at h2; cases h2
        · obtain ⟨ab, ao, asp⟩ := a
          obtain rfl : asp = none := by simpa using hsp
          refine ⟨fun j => if j = ab then some (false, .cells c T fr) else none, .inr ⟨ab, ao, c, T, fr, rfl, hl, rows_length hlen len, fun j v hj => ?_, rfl⟩, fun j x hj => ?_⟩
          · have hjl : j < len * sz := by have := (List.getElem?_eq_some_iff.1 hj).1; rw [rows_length hlen] at this; exact this
            have hjc : j < cap * sz := Nat.lt_of_lt_of_le hjl (Nat.mul_le_mul_right _ hl)
            have h4 := cell j hjc
            rw [rows_get' hlen hjl] at hj
            rw [hj] at h4
            unfold World.cell? at h4
            have h5 : (Addr.add ⟨ab, ao, none⟩ j).block = ab := by unfold Addr.add; split <;> rfl
            have h6 : (Addr.add ⟨ab, ao, none⟩ j).spot = none := by unfold Addr.add; split <;> rfl
            have h7 : (Addr.add ⟨ab, ao, none⟩ j).off = ao + j := by unfold Addr.add; split <;> simp_all
            rw [h5, hk, h6, h7] at h4
            simpa using h4
          · dsimp only at hj
            split at hj
            · rename_i e; subst e; have := (Option.some.inj hj).symm; subst this; exact ⟨rfl, hk⟩
            · cases hj
      | _ => cases h2
theorem okWide_slice {r : Reach} {b0 : Nat} {t e : TypeId} {v : Value} (ht : P.underlying t = some (.slice e)) (h : Value.okWide P W r b0 t v) : ∀ cs, v ≠ .agg cs := by
  rintro cs rfl
  unfold Value.okWide at h
  rw [ht] at h
  unfold Cell.okWide at h
  rw [ht] at h
  unfold Cell.ok at h
  rw [ht] at h
  exact h
end
end Go.Sl
