/- A call that reads an owned slice as a shared one: it is owned again behind it. For whatever program. -/
import Derived.Test.YtgmccdicncocdaaSlLoop
namespace Go.Sl
theorem vec_shared {E sz m cap : Nat} {a : Option Addr} {cs : List Value} {hv : Hp} (x : Vec E sz a m cap cs hv) : (∀ k y, hv k = some y → y.1 = true) ∧ RoS sz a m cap cs (fun k => (hv k).map fun y => (false, y.2)) := by
  rcases x with ⟨rfl, rfl, rfl, rfl, rfl⟩ | ⟨b, junk, rfl, h1, h2, h3, rfl⟩
  · exact ⟨fun k y h => (by cases h), .inl ⟨rfl, rfl, rfl, rfl⟩⟩
  · refine ⟨fun k y h => ?_, .inr ⟨b, 0, (cs ++ junk).toArray, E, (0, 0), rfl, h1, h2, fun j v hj => ?_, ?_⟩⟩
    · dsimp only at h
      split at h
      · rw [← Option.some.inj h]
      · cases h
    · rw [Nat.zero_add]
      simp only [List.getElem?_toArray]
      have := (List.getElem?_eq_some_iff.1 hj).1
      rw [List.getElem?_append_left this]; exact hj
    · show _ = _
      funext k
      dsimp only
      split <;> rfl
theorem spec_vecRo {β : Type} {P : Program} {fn : FuncId} {args : Array Value} {E sz m cap : Nat} {a : Option Addr} {cs : List Value} {pre : List HP} {val : β → Value} (hs : SpecH P fn args (RoS sz a m cap cs :: pre) val (fun _ => [])) : SpecH P fn args (Vec E sz a m cap cs :: pre) val (fun _ => [Vec E sz a m cap cs]) := fun base F w hw => by
  obtain ⟨hh, hf, hv, hr, hd, rfl, xv, xr⟩ := hw.heap
  obtain ⟨hp, hq, hd2, rfl, xp, xq⟩ := lst_unflat (xs := pre) (l := [F]) xr
  obtain ⟨hF, hz, hd3, rfl, xF, _⟩ := xq
  obtain ⟨hown, hro⟩ := vec_shared xv
  have only : ∀ k y, hv k = some y → hp k = none ∧ hF k = none := fun k y hk => by
    have ht := hown k y hk
    rcases hd k with h | h | ⟨h, o, h'⟩
    · rw [hk] at h; cases h
    · cases h1 : hp k with
      | some z => rw [joinH_left h1] at h; cases h
      | none =>
        rw [joinH_none h1] at h
        cases h2 : hF k with
        | some z => rw [joinH_left h2] at h; cases h
        | none => exact ⟨rfl, rfl⟩
    · rw [hk] at h'; rw [Option.some.inj h'] at ht; cases ht
  let sh : Hp := fun k => (hv k).map fun y => (false, y.2)
  have shN : ∀ k, hv k = none → sh k = none := fun k hk => by show (hv k).map _ = none; rw [hk]; rfl
  have shS : ∀ k y, hv k = some y → sh k = some (false, y.2) := fun k y hk => by show (hv k).map _ = _; rw [hk]; rfl
  have hst : St base ((RoS sz a m cap cs :: pre) ++ [fun h => h = joinH sh hF]) w := by
    refine ⟨hw.os, hw.tape, hw.output, joinH sh (joinH hp (joinH sh hF)), fun k x hx => ?_, sh, joinH hp (joinH sh hF), fun k => ?_, rfl, hro, lst_flat (xs := pre) (l := [fun h => h = joinH sh hF]) ⟨hp, joinH sh hF, fun k => ?_, rfl, xp, joinH sh hF, fun _ => none, fun _ => .inr (.inl rfl), ?_, rfl, trivial⟩⟩
    · cases hk : hv k with
      | some y =>
        rw [joinH_left (shS k y hk)] at hx
        have := hf k y (joinH_left hk)
        rw [← Option.some.inj hx]; exact this
      | none =>
        rw [joinH_none (shN k hk)] at hx
        refine hf k x ?_
        rw [joinH_none hk]
        cases h1 : hp k with
        | some z => rw [joinH_left h1] at hx ⊢; exact hx
        | none =>
          rw [joinH_none h1, joinH_none (shN k hk)] at hx
          rw [joinH_none h1, joinH_left hx]
    · cases hk : hv k with
      | none => exact .inl (shN k hk)
      | some y =>
        obtain ⟨h1, h2⟩ := only k y hk
        exact .inr (.inr ⟨by rw [joinH_none h1, joinH_left (shS k y hk), shS k y hk], _, shS k y hk⟩)
    · cases hk : hv k with
      | some y => exact .inl (only k y hk).1
      | none =>
        rw [joinH_none (shN k hk)]
        rcases hd2 k with h | h | ⟨h, o, h'⟩
        · exact .inl h
        · cases h2 : hF k with
          | some z => rw [joinH_left h2] at h; cases h
          | none => exact .inr (.inl rfl)
        · cases h2 : hF k with
          | none => exact .inr (.inl rfl)
          | some z => rw [joinH_left h2] at h; exact .inr (.inr ⟨h, o, h'⟩)
    · funext k
      cases hk : joinH sh hF k with
      | none => rw [joinH_none hk]
      | some y => rw [joinH_left hk]
  refine (hs base _ w hst).mono ?_
  rintro e w' ⟨y, rfl, hw'⟩
  obtain ⟨h', hf', b1, b2, hd', rfl, rfl, _⟩ := hw'.heap
  refine ⟨y, rfl, hw'.os, hw'.tape, hw'.output, joinH hv hF, fun k x hx => ?_, hv, hF, fun k => ?_, rfl, xv, hF, fun _ => none, fun _ => .inr (.inl rfl), ?_, xF, trivial⟩
  · cases hk : hv k with
    | some z =>
      rw [joinH_left hk] at hx
      have := hf' k (false, z.2) (joinH_left (joinH_left (shS k z hk)))
      rw [← Option.some.inj hx]; exact this
    | none =>
      rw [joinH_none hk] at hx
      exact hf' k x (joinH_left (by rw [joinH_none (shN k hk)]; exact hx))
  · cases hk : hv k with
    | none => exact .inl rfl
    | some z => exact .inr (.inl (only k z hk).2)
  · funext k
    cases hk : hF k with
    | none => rw [joinH_none hk]
    | some y => rw [joinH_left hk]
section
variable {r : Option Nat} {P : Program} {base : World} {n : Nat} {ds : List Deferred} {Q : Exit → Act → World → Prop} {env : Env} {l l' : List HP} {all : Array Oper} {ro : List Oper}
theorem wanted_undef {o : Oper} {j dj : Nat} {oj : Oper} {tmps : Array Value} {u : Bool} (hg : o.guard = some (j, u)) (hj : all[j]? = some oj) (hdj : oj.dst = some dj) (hv : tmps.getD dj undef = undef) : Region.wanted o (yielded all tmps) = false := by
  have h1 : yielded all tmps j = none := by
    unfold yielded
    cases h : tmps[dj]? with
    | none => simp [hj, hdj, h]
    | some v =>
      have h2 : v = undef := by rw [Array.getD_eq_getD_getElem?, h] at hv; simpa using hv
      subst h2
      simp [hj, hdj, h, undef]
  unfold Region.wanted
  rw [hg]
  simp only [h1]
  cases u <;> rfl
/-- An operation that waits for one that was not wanted. -/
theorem tl_skipU {o : Oper} {rest : List Oper} {d j : Nat} {u : Bool} {oj : Oper} {dj : Nat} (hg : o.guard = some (j, u)) (hj : all[j]? = some oj) (hdj : oj.dst = some dj) (hv : look env dj = some undef)
    (hd : o.dst = some d) (hn : d < n) (h : TL r P base n ds all rest Q ((d, undef) :: env) l) : TL r P base n ds all (o :: rest) Q env l := fun a w ha hw => by
  have hw' : Region.wanted o (yielded all a.tmps) = false := wanted_undef hg hj hdj (ha.val _ _ hv)
  unfold wl Step
  rw [if_neg (by simp [hw']), hd]
  exact h _ _ (ha.put hn _) hw
/-- Here: a call of 'fid'. -/
theorem atCall (fid : FuncId) {dst : Option Tmp} {xs : Array Operand} {ats : Array TypeId} {ty : TypeId} {pos : String} {af : Array Edge} {g : Option (Nat × Bool)} (h : TL r P base n ds all (⟨dst, .call ⟨.value (.func fid), xs, ats⟩, ty, pos, af, g⟩ :: ro) Q env l) : TL r P base n ds all (⟨dst, .call ⟨.value (.func fid), xs, ats⟩, ty, pos, af, g⟩ :: ro) Q env l := h
/-- Three results: a value, a struct in a variable, a value. -/
theorem ram {F : HP} {fn : Func} {α : Type} {val : α → Value} {post : α → List HP} {t t2 t3 b size : Nat} {T T' : TypeId} {vs : List Value} {v1 v3 : Value} {rest : List HP} [IAgg P T size] (x : α) (hx : .tuple #[v1, .agg vs.toArray, v3] = val x) (he : Ent l (post x ++ [F]) := by (try simp only [List.cons_append, List.nil_append]); (repeat (first | (with_reducible exact Ent.refl _) | (with_reducible exact Ent.nil _) | (apply Ent.fact; (focus (first | assumption | omega | decide | exact rfl | fail))) | (apply Ent.keep; (focus ((repeat (first | (with_reducible exact Rem.here _ _) | (with_reducible apply Rem.there) | fail)); done)); (focus (infer_instance))) | (apply Ent.cons; (focus ((repeat (first | (with_reducible exact Rem.here _ _) | (with_reducible apply Rem.there) | fail)); done))) | exact Ent.refl _ | exact Ent.nil _ | apply Ent.vecNil | apply Ent.roNil | fail)); done) (hres : fn.results = #[.tmp t, .cell t2 T, .tmp t3] := by rfl) (hp : look env t2 = some (.pointer (some ⟨b, 0, none⟩)) := by rfl) (hr : Rem l (obj b T' vs) rest := by (repeat (first | (with_reducible exact Rem.here _ _) | (with_reducible apply Rem.there) | fail)); done) (hl : vs.length = size := by rfl) (h1 : look env t = some v1 := by rfl) (h3 : look env t3 = some v3 := by rfl) : TK base n [] (fnPost P base fn val post F .ret) env l :=
  tk_ret3 hres (.tmp h1) (Res.agg hp (rd_obj hr) hl) (.tmp h3) x hx he
end
/-- A list of numbers. -/
def intsV (k : IntKind) (zs : List Int) : List Value := zs.map (.int k)
instance (k : IntKind) (zs : List Int) : Idx (intsV k zs) 1 zs.length (fun i => [.int k (zs.getD i 0)]) := ⟨fun i hi => ⟨rfl, fun j v hj => by
  cases j with
  | zero =>
    simp only [List.getElem?_cons_zero, Option.some.injEq] at hj
    subst hj
    simp [intsV, List.getElem?_map, List.getElem?_eq_getElem hi, List.getD_eq_getElem?_getD]
  | succ j => simp at hj⟩⟩
instance (k : IntKind) (zs : List Int) : PlC (intsV k zs) := ⟨fun v hv => by
  obtain ⟨z, _, rfl⟩ := List.mem_map.1 hv
  rfl⟩
instance (k : IntKind) (zs : List Int) (i : Nat) (x : Int) : SetC (intsV k zs) i 0 [.int k x] 1 zs.length (intsV k (zs.set i x)) := ⟨fun h => ⟨by simp [intsV, setL, List.map_set], by simp [intsV]; omega⟩⟩
end Go.Sl
