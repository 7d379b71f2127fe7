/- More operations: an element of an array, a part of a slice; slices that will never change. For whatever program. -/
import Derived.Test.YtgmccdicncocdaaSlMarks
namespace Go.Sl
section
variable {r : Option Nat} {P : Program} {n : Nat} {ds : List Deferred} {env : Env} {lc l l' : List HP} {all : Array Oper}
variable {dst : Option Tmp} {ty : TypeId} {pos : String} {af : Array Edge} {g : Option (Nat × Bool)}
theorem OpN.ent {α : Type} {o : Oper} {val : α → Value} {post post' : α → List HP} (h : OpN r P all o n ds env l val post) (he : ∀ x, Ent (post x) (post' x)) : OpN r P all o n ds env l val post' := fun base a w ha hs =>
  (h base a w ha hs).mono r P fun _ _ ⟨x, hu, hs'⟩ => ⟨x, hu, hs'.ent (he x)⟩
/-- An element of an array value. -/
theorem opq_index {t e : TypeId} {x y : Operand} {len : Nat} {k : IntKind} {i : Int} {vs : List Value} {v z : Value} {bytes : Nat} (hw : Want all ⟨dst, .index t x y, ty, pos, af, g⟩ env) (hx : ev env x = some (.agg vs.toArray)) (hy : ev env y = some (.int k i)) [hu : UL P t (.array len e)] [hi : TI P e z 1 bytes] [hn : NAgg P e] (h0 : 0 ≤ i) (h1 : i < len) (hv : vs[i.toNat]? = some v) :
    OpQ r P all ⟨dst, .index t x y, ty, pos, af, g⟩ n ds env lc v :=
  opq_pure hw (by simp) fun a w ha => by
    have e1 := ha.ev (x := x) (by simp [Op.operands]) hx
    have e2 := ha.ev (x := y) (by simp [Op.operands]) hy
    obtain ⟨i0, hi0, _, hs, _⟩ := info_parts hi.out
    have hsz : (sizeOf e).run P w = .ok 1 w := by simp [sizeOf, typeInfo, hi0, hs]
    simp [execOp, e1, e2, Instr.index, asIntOf, run_underlying hu.out, h0, h1, hsz, part, hn.out w, hv]
/-- An array written out, of elements of one cell. -/
theorem opq_buildA {t e : TypeId} {k size bytes bytes' : Nat} {z : Value} {parts : Array (Nat × Operand)} {vs zs : List Value} (hw : Want all ⟨dst, .build t parts, ty, pos, af, g⟩ env) [hu : UL P t (.array k e)] [hi : TI P e z 1 bytes] [ht : TI P t (.agg zs.toArray) size bytes'] (hx : Evs env (parts.toList.map (·.2)) vs) (hp : parts.toList.map (·.1) = ixs1 0 k) (hvl : vs.length = k) (hzl : zs.length = k) (hp1 : plains vs = true) :
    OpQ r P all ⟨dst, .build t parts, ty, pos, af, g⟩ n ds env lc (.agg vs.toArray) := by
  have hz : parts = ((parts.toList.map (·.1)).zip (parts.toList.map (·.2))).toArray := by
    apply Array.ext'
    have : ∀ l : List (Nat × Operand), l = (l.map (·.1)).zip (l.map (·.2)) := by
      intro l
      induction l with
      | nil => rfl
      | cons x l ih => simp only [List.map_cons, List.zip_cons_cons]; rw [← ih]
    simpa using this parts.toList
  generalize hxs : parts.toList.map (·.2) = xs at hz hx
  have hlen : (parts.toList.map (·.1)).length = xs.length := by rw [← hxs]; simp
  rw [hp] at hz hlen
  subst hz
  refine opq_pure hw (by simp) fun a w ha => ?_
  have h1 := hx.map ha (fun x hx' => by
    simp only [Op.operands]
    rw [List.map_snd_zip (by omega)]; exact hx')
  have h2 : (((ixs1 0 k).zip xs).toArray.map fun (i, x) => (i, a.eval x)) = ((ixs1 0 k).zip vs).toArray := by
    rw [← h1]
    simp only [List.map_toArray]
    congr 1
    clear h1 hx hw ha hxs hvl hp hp1
    generalize ixs1 0 k = ixs at hlen ⊢
    induction ixs generalizing xs with
    | nil => simp
    | cons i ixs ih => cases xs with
      | nil => simp
      | cons x xs => simp only [List.zip_cons_cons, List.map_cons]; rw [ih]; simpa using hlen
  obtain ⟨i0, hi0, _, hs0, _⟩ := info_parts hi.out
  obtain ⟨i1, hi1, hz1, _, _⟩ := info_parts ht.out
  have hsz : (sizeOf e).run P w = .ok 1 w := by simp [sizeOf, typeInfo, hi0, hs0]
  have hzr : (zeroValue t).run P w = .ok (.agg zs.toArray) w := by simp [zeroValue, typeInfo, hi1, hz1]
  have hfill : Instr.fill (fun i => some (i * 1, 1)) zs.toArray ((ixs1 0 k).zip vs) = some vs.toArray := by
    rw [fill_congr (pl' := fun i => (places1 0 k)[i]?)]
    · have h1 := bld_all (k := k) vs [] zs hp1 (by omega) (by simp [hvl])
      simp only [List.length_nil, List.nil_append, hvl] at h1
      have := fill_bld (places := places1 0 k) _ _ _ h1
      simpa using this
    · intro q hq
      have h1 : q.1 ∈ ixs1 0 k := (List.of_mem_zip hq).1
      have h2 := (ixs1_lt k 0 q.1 h1).2
      rw [places1_get k 0 q.1 (by omega)]
      simp
  have hb : (Instr.build t ((ixs1 0 k).zip vs).toArray).run P w = .ok (.agg vs.toArray) w := by
    unfold Instr.build
    rw [Sem.run_bind, hzr]
    simp only [Result.andThen]
    rw [Sem.run_bind, run_underlying hu.out]
    simp only [Result.andThen]
    rw [Sem.run_bind, hsz]
    simp only [Result.andThen, Value.cells, hfill]
    rfl
  simp [execOp, h2, hb]

/-- Where a slice's part from 'i' on begins. -/
def slA (a : Option Addr) (cap i size : Nat) : Option Addr := if cap = i then a else a.map (·.add (i * size))
theorem run_sliceBound {k : IntKind} {i : Int} {y : Nat} {c : BoundsCode} {w : World} (h0 : 0 ≤ i) (h1 : i ≤ y) : (Instr.sliceBound (.int k i) y c).run P w = .ok i.toNat w := by
  simp [Instr.sliceBound, asIntOf, h0, h1]
/-- The part of a slice from 'i' on. -/
theorem opq_sliceLo {t e : TypeId} {x y : Operand} {a : Option Addr} {len cap size bytes : Nat} {k : IntKind} {i : Int} {z : Value} (hw : Want all ⟨dst, .slice t x (some y) none none, ty, pos, af, g⟩ env) (hx : ev env x = some (.slice a len cap)) (hy : ev env y = some (.int k i)) [hu : UL P t (.slice e)] [hi : TI P e z size bytes] (h0 : 0 ≤ i) (h1 : i ≤ len) :
    OpQ r P all ⟨dst, .slice t x (some y) none none, ty, pos, af, g⟩ n ds env lc (.slice (slA a cap i.toNat size) (len - i.toNat) (cap - i.toNat)) :=
  opq_pure hw (by simp) fun ac w ha => by
    have e1 := ha.ev (x := x) (by simp [Op.operands]) hx
    have e2 := ha.ev (x := y) (by simp [Op.operands]) hy
    obtain ⟨i0, hi0, _, hs, _⟩ := info_parts hi.out
    have hsz : (sizeOf e).run P w = .ok size w := by simp [sizeOf, typeInfo, hi0, hs]
    simp [execOp, e1, e2, Instr.sliceAt, Instr.slice, Instr.sliceBounds, run_underlying hu.out, hsz, run_sliceBound h0 h1, slA]
/-- The part of a slice up to 'j'. -/
theorem opq_sliceHi {t e : TypeId} {x y : Operand} {a : Option Addr} {len cap size bytes : Nat} {k : IntKind} {j : Int} {z : Value} (hw : Want all ⟨dst, .slice t x none (some y) none, ty, pos, af, g⟩ env) (hx : ev env x = some (.slice a len cap)) (hy : ev env y = some (.int k j)) [hu : UL P t (.slice e)] [hi : TI P e z size bytes] (h0 : 0 ≤ j) (h1 : j ≤ cap) :
    OpQ r P all ⟨dst, .slice t x none (some y) none, ty, pos, af, g⟩ n ds env lc (.slice (slA a cap 0 size) j.toNat cap) :=
  opq_pure hw (by simp) fun ac w ha => by
    have e1 := ha.ev (x := x) (by simp [Op.operands]) hx
    have e2 := ha.ev (x := y) (by simp [Op.operands]) hy
    obtain ⟨i0, hi0, _, hs, _⟩ := info_parts hi.out
    have hsz : (sizeOf e).run P w = .ok size w := by simp [sizeOf, typeInfo, hi0, hs]
    simp [execOp, e1, e2, Instr.sliceAt, Instr.slice, Instr.sliceBounds, run_underlying hu.out, hsz, run_sliceBound h0 h1, slA]
/-- The part of a slice from 'i' up to 'j'. -/
theorem opq_sliceLH {t e : TypeId} {x y y2 : Operand} {a : Option Addr} {len cap size bytes : Nat} {k k2 : IntKind} {i j : Int} {z : Value} (hw : Want all ⟨dst, .slice t x (some y) (some y2) none, ty, pos, af, g⟩ env) (hx : ev env x = some (.slice a len cap)) (hy : ev env y = some (.int k i)) (hy2 : ev env y2 = some (.int k2 j)) [hu : UL P t (.slice e)] [hi : TI P e z size bytes] (h0 : 0 ≤ i) (h1 : i ≤ j) (h2 : j ≤ cap) :
    OpQ r P all ⟨dst, .slice t x (some y) (some y2) none, ty, pos, af, g⟩ n ds env lc (.slice (slA a cap i.toNat size) (j.toNat - i.toNat) (cap - i.toNat)) :=
  opq_pure hw (by simp) fun ac w ha => by
    have e1 := ha.ev (x := x) (by simp [Op.operands]) hx
    have e2 := ha.ev (x := y) (by simp [Op.operands]) hy
    have e3 := ha.ev (x := y2) (by simp [Op.operands]) hy2
    obtain ⟨i0, hi0, _, hs, _⟩ := info_parts hi.out
    have hsz : (sizeOf e).run P w = .ok size w := by simp [sizeOf, typeInfo, hi0, hs]
    have h3 : i ≤ (j.toNat : Int) := by omega
    simp [execOp, e1, e2, e3, Instr.sliceAt, Instr.slice, Instr.sliceBounds, run_underlying hu.out, hsz, run_sliceBound (Int.le_trans h0 h1) h2, run_sliceBound h0 h3, slA]
/-! ### Parts of what can be read -/
theorem Rd.drop {a : Addr} {cs : List Value} (h : Rd l a cs) (i : Nat) : Rd l (a.add i) (cs.drop i) := fun x hx => by
  obtain ⟨h1, h2⟩ := h x hx
  have h3 : Addr.add a i = ⟨a.block, a.off + i, none⟩ := by unfold Addr.add; cases a; simp at h1; subst h1; simp
  rw [h3]
  refine ⟨rfl, fun j v hj => ?_⟩
  rw [List.getElem?_drop] at hj
  obtain ⟨c, T, fr, e1, e2⟩ := h2 (i + j) v hj
  exact ⟨c, T, fr, e1, by rw [Nat.add_assoc]; exact e2⟩
theorem Rd.take {a : Addr} {cs : List Value} (h : Rd l a cs) (i : Nat) : Rd l a (cs.take i) := fun x hx => by
  obtain ⟨h1, h2⟩ := h x hx
  refine ⟨h1, fun j v hj => ?_⟩
  rw [List.getElem?_take] at hj
  split at hj
  · exact h2 j v hj
  · cases hj
theorem Src.drop {sz : Nat} {a : Option Addr} {m cap : Nat} {cs : List Value} (h : Src l sz a m cs) (i : Nat) (hi : i ≤ m) (hc : m ≤ cap) : Src l sz (slA a cap i sz) (m - i) (cs.drop (i * sz)) := by
  cases h with
  | nil => unfold slA; simp only [Option.map_none, ite_self, List.drop_nil, Nat.zero_sub]; exact .nil
  | zero ad => unfold slA; simp only [Option.map_some, List.drop_nil, Nat.zero_sub]; split <;> exact .zero _
  | @lies ad m cs h hl =>
    unfold slA
    have hlen : (cs.drop (i * sz)).length = (m - i) * sz := by rw [List.length_drop, hl, Nat.sub_mul]
    split
    · refine .lies ?_ hlen
      have : cs.drop (i * sz) = [] := by apply List.eq_nil_of_length_eq_zero; rw [hlen]; simp [show m - i = 0 by omega]
      rw [this]
      exact fun x hx => ⟨(h x hx).1, fun j v hj => by simp at hj⟩
    · exact .lies (h.drop (i * sz)) hlen
theorem Src.take {sz : Nat} {a : Option Addr} {m : Nat} {cs : List Value} (h : Src l sz a m cs) (i : Nat) (hi : i ≤ m) : Src l sz a i (cs.take (i * sz)) := by
  cases h with
  | nil => obtain rfl : i = 0 := by omega
           simp only [List.take_nil]; exact .nil
  | zero ad => obtain rfl : i = 0 := by omega
               simp only [List.take_nil]; exact .zero ad
  | @lies ad m cs h hl => exact .lies (h.take _) (by rw [List.length_take, hl, Nat.min_eq_left (Nat.mul_le_mul_right _ hi)])
theorem slA_zero {a : Option Addr} {cap sz : Nat} (h : 0 < cap → ∀ ad, a = some ad → ad.spot = none) : slA a cap 0 sz = a := by
  unfold slA
  split
  · rfl
  · cases a with
    | none => rfl
    | some ad =>
      have := h (by omega) ad rfl
      cases ad; simp at this; subst this; simp [Addr.add]
end
/-! ### Slices that will never change -/
section
variable {l r : List HP} {base : World} {w : World} {E sz m cap : Nat} {a : Option Addr} {cs : List Value}
theorem lst_roS {h : Hp} (x : lst (RoS sz a m cap cs :: l) h) : (cs.length = m * sz ∧ m ≤ cap) ∧ ((cap = 0 ∧ m = 0) ∨ ∃ b o, a = some ⟨b, o, none⟩) := by
  obtain ⟨_, _, _, _, hp, _⟩ := x
  rcases hp with ⟨rfl, rfl, rfl, _⟩ | ⟨b, o, c, T, fr, rfl, h1, h2, _⟩
  · simp
  · exact ⟨⟨h2, h1⟩, .inr ⟨b, o, rfl⟩⟩
/-- An owned slice is given up: it will never change. -/
theorem St.freeze (hs : St base l w) (hr : Rem l (Vec E sz a m cap cs) r) : St base (RoS sz a m cap cs :: r) w := by
  rcases hs.vec hr with ⟨rfl, rfl, rfl, rfl⟩ | ⟨b, junk, rfl, h1, h2, h3, h4⟩
  · exact hs.ent fun _ y => ⟨fun _ => none, _, fun _ => .inl rfl, by funext k; rfl, .inl ⟨rfl, rfl, rfl, rfl⟩, lst_drop (hr.out y)⟩
  · refine (h4.share (.here _ _)).ent fun _ y => sep_mono (fun _ z => .inr ⟨b, 0, _, _, _, rfl, h1, h2, fun j v hj => ?_, z⟩) (fun _ z => z) y
    rw [Nat.zero_add]
    simp only [List.getElem?_toArray]
    have := (List.getElem?_eq_some_iff.1 hj).1
    rw [List.getElem?_append_left this]; exact hj
theorem lst_roS_nil {h : Hp} (x : lst l h) : lst (RoS sz none 0 0 [] :: l) h := ⟨fun _ => none, h, fun _ => .inl rfl, by funext k; rfl, .inl ⟨rfl, rfl, rfl, rfl⟩, x⟩
end
section
variable {r : Option Nat} {P : Program} {base : World} {n : Nat} {ds : List Deferred} {Q : Exit → Act → World → Prop} {env : Env} {l r1 r2 : List HP} {all : Array Oper} {c : Code} {ro : List Oper} {K : Act → World → Prop} {E sz m cap : Nat} {a : Option Addr} {cs : List Value}
theorem TK.freeze (hr : Rem l (Vec E sz a m cap cs) r1) (h : TK base n ds K env (RoS sz a m cap cs :: r1)) : TK base n ds K env l := fun ac w ha hw => h ac w ha (hw.freeze hr)
theorem TC.freeze (hr : Rem l (Vec E sz a m cap cs) r1) (h : TC r P base n ds c Q env (RoS sz a m cap cs :: r1)) : TC r P base n ds c Q env l := TK.freeze hr h
theorem TL.freeze (hr : Rem l (Vec E sz a m cap cs) r1) (h : TL r P base n ds all ro Q env (RoS sz a m cap cs :: r1)) : TL r P base n ds all ro Q env l := TK.freeze hr h
/-- What is known of a shared slice. -/
theorem TK.roS (hr : Rem l (RoS sz a m cap cs) r1) (h : cs.length = m * sz → m ≤ cap → (cap = 0 ∧ m = 0) ∨ (∃ b o, a = some ⟨b, o, none⟩) → TK base n ds K env l) : TK base n ds K env l := fun ac w ha hw => by
  obtain ⟨hp, hf, hl⟩ := hw.heap
  obtain ⟨⟨h1, h2⟩, h3⟩ := lst_roS (hr.out hl)
  exact h h1 h2 h3 ac w ha hw
theorem TC.roAt (hr : Rem l (RoS sz a m cap cs) r1) (hm : 0 < m) (h : ∀ b o, a = some ⟨b, o, none⟩ → TC r P base n ds c Q env l) : TC r P base n ds c Q env l := TK.roS hr fun _ _ hd => by
  rcases hd with ⟨_, h0⟩ | ⟨b, o, e⟩
  · omega
  · exact h b o e
theorem TL.roAt (hr : Rem l (RoS sz a m cap cs) r1) (hm : 0 < m) (h : ∀ b o, a = some ⟨b, o, none⟩ → TL r P base n ds all ro Q env l) : TL r P base n ds all ro Q env l := TK.roS hr fun _ _ hd => by
  rcases hd with ⟨_, h0⟩ | ⟨b, o, e⟩
  · omega
  · exact h b o e
theorem src_roS {r' : List HP} (hr : Rem l (RoS sz a m cap cs) r') (h : Src l sz a m cs → TK base n ds K env l) : TK base n ds K env l := fun ac w ha hw => by
  obtain ⟨_, _, hl⟩ := hw.heap
  obtain ⟨p, q, _, _, hp, _⟩ := hr.out hl
  rcases hp with ⟨rfl, rfl, rfl, _⟩ | ⟨b, o, c, T, fr, rfl, h1, h2, _⟩
  · cases a with
    | none => exact h .nil ac w ha hw
    | some ad => exact h (.zero ad) ac w ha hw
  · exact h (.lies (rd_roS hr) h2) ac w ha hw
end
end Go.Sl
