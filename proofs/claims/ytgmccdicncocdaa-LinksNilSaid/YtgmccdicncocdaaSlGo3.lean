/- More steps: slices that grow, slices of slices, drawn regions. For whatever program. -/
import Derived.Test.YtgmccdicncocdaaSlGo
import Derived.KernelRfl
namespace Go.Sl
/-! ### Values of one cell -/
class PlV (v : Value) : Prop where
  out : plain v = true
class PlC (cs : List Value) : Prop where
  out : ∀ v ∈ cs, plain v = true
instance (k : IntKind) (i : Int) : PlV (.int k i) := ⟨rfl⟩
instance (b : Bool) : PlV (.bool b) := ⟨rfl⟩
instance (a : Option Addr) : PlV (.pointer a) := ⟨rfl⟩
instance (a : Option Addr) (k c : Nat) : PlV (.slice a k c) := ⟨rfl⟩
instance (b : ByteArray) : PlV (.string b) := ⟨rfl⟩
instance (m : Option Nat) : PlV (.map m) := ⟨rfl⟩
instance : PlC [] := ⟨fun v h => by cases h⟩
instance (v : Value) (cs : List Value) [h : PlV v] [k : PlC cs] : PlC (v :: cs) := ⟨fun u hu => by
  rcases List.mem_cons.1 hu with e | e
  · rw [e]; exact h.out
  · exact k.out u e⟩
instance (a b : List Value) [h : PlC a] [k : PlC b] : PlC (a ++ b) := ⟨fun u hu => (List.mem_append.1 hu).elim (h.out u) (k.out u)⟩
instance (a : List Value) (i : Nat) [h : PlC a] : PlC (a.take i) := ⟨fun u hu => h.out u (List.mem_of_mem_take hu)⟩
instance (a : List Value) (i : Nat) [h : PlC a] : PlC (a.drop i) := ⟨fun u hu => h.out u (List.mem_of_mem_drop hu)⟩
instance {α : Type} (f : α → List Value) (l : List α) [h : ∀ a, PlC (f a)] : PlC (cellsOf f l) := ⟨fun u hu => by
  obtain ⟨a, _, h2⟩ := List.mem_flatMap.1 hu
  exact (h a).out u h2⟩
instance (f : Nat → List Value) (k : Nat) [h : ∀ a, PlC (f a)] : PlC (rows k f) := ⟨fun u hu => by
  obtain ⟨a, _, h2⟩ := List.mem_flatMap.1 hu
  exact (h a).out u h2⟩
theorem rows_cellsOf {α : Type} (f : α → List Value) (a : α) (k : Nat) : rows k (fun _ => f a) = cellsOf f (List.replicate k a) := by
  rw [← rows_replicate]; unfold cellsOf
  induction k with
  | zero => rfl
  | succ k ih => rw [List.replicate_succ, List.replicate_succ, List.flatten_cons, List.flatMap_cons, ih]
instance idx_rows {sz : Nat} (f : Nat → List Value) (k : Nat) [h : Width f sz] : Idx (rows k f) sz k f := ⟨fun i hi => ⟨h.out i, fun j v hj => by
  have hj' : j < sz := by rw [← h.out i]; exact (List.getElem?_eq_some_iff.1 hj).1
  rw [rows_get h.out hj' hi]; exact hj⟩⟩
section
variable {r : Option Nat} {P : Program} {base : World} {n : Nat} {ds : List Deferred} {Q : Exit → Act → World → Prop} {env env' : Env} {l l' lc r1 r2 : List HP} {all : Array Oper} {ro : List Oper}
variable {z : Value} {dst : Option Tmp} {ty : TypeId} {pos : String} {af : Array Edge} {g : Option (Nat × Bool)} {o : Oper}
theorem opn_src {α : Type} {E sz : Nat} {a : Option Addr} {m cap : Nat} {cs : List Value} {val : α → Value} {post : α → List HP} (hr : Rem l (Vec E sz a m cap cs) r1) (h : Src l sz a m cs → OpN r P all o n ds env l val post) : OpN r P all o n ds env l val post := fun base ac w ha hw => by
  rcases hw.vec hr with ⟨h0, h1, h2, h3⟩ | ⟨b, _, h1, _, h2, _⟩
  · subst h0; subst h1; subst h3; exact h .nil base ac w ha hw
  · subst h1; exact h (.lies (rd_vec hr) h2) base ac w ha hw
theorem opn_srcS {α : Type} {sz : Nat} {a : Option Addr} {m cap : Nat} {cs : List Value} {val : α → Value} {post : α → List HP} (hr : Rem l (RoS sz a m cap cs) r1) (h : Src l sz a m cs → OpN r P all o n ds env l val post) : OpN r P all o n ds env l val post := fun base ac w ha hw => by
  obtain ⟨_, _, hl⟩ := hw.heap
  obtain ⟨p, q, _, _, hp, _⟩ := hr.out hl
  rcases hp with ⟨rfl, rfl, rfl, _⟩ | ⟨b, o, c, T, fr, rfl, h1, h2, _⟩
  · cases a with
    | none => exact h .nil base ac w ha hw
    | some ad => exact h (.zero ad) base ac w ha hw
  · exact h (.lies (rd_roS hr) h2) base ac w ha hw
section
variable {t e : TypeId} {x y : Operand} {a a2 : Option Addr} {k cap m c2 size bytes E2 : Nat} {cs cs2 zs : List Value}
theorem opn_appVV (hw : Want all ⟨dst, .call ⟨.builtin .append, #[x, y], #[t, t]⟩, ty, pos, af, g⟩ env)
    (hx : ev env x = some (.slice a k cap)) (hy : ev env y = some (.slice a2 m c2)) [hu : UL P t (.slice e)] [hi : TI P e z size bytes] (hr : Rem l (Vec e size a k cap cs) r1) (hs : Rem l (Vec E2 size a2 m c2 cs2) r2) (hp : PlC cs2)
    (hz : IsCells z zs) (hlz : zs.length = size) (hb : (k + m) * bytes ≤ 140737488355328) (hk : k + m ≤ 9223372036854775807) :
    OpN r P all ⟨dst, .call ⟨.builtin .append, #[x, y], #[t, t]⟩, ty, pos, af, g⟩ n ds env l (fun q : Option Addr × Nat => .slice q.1 (k + m) q.2) (fun q => Vec e size q.1 (k + m) q.2 (cs ++ cs2) :: r1) :=
  opn_src hs fun hsrc => opn_append hw hx hy hr hsrc hp.out hz hlz hb hk
theorem opn_appVS (hw : Want all ⟨dst, .call ⟨.builtin .append, #[x, y], #[t, t]⟩, ty, pos, af, g⟩ env)
    (hx : ev env x = some (.slice a k cap)) (hy : ev env y = some (.slice a2 m c2)) [hu : UL P t (.slice e)] [hi : TI P e z size bytes] (hr : Rem l (Vec e size a k cap cs) r1) (hs : Rem l (RoS size a2 m c2 cs2) r2) (hp : PlC cs2)
    (hz : IsCells z zs) (hlz : zs.length = size) (hb : (k + m) * bytes ≤ 140737488355328) (hk : k + m ≤ 9223372036854775807) :
    OpN r P all ⟨dst, .call ⟨.builtin .append, #[x, y], #[t, t]⟩, ty, pos, af, g⟩ n ds env l (fun q : Option Addr × Nat => .slice q.1 (k + m) q.2) (fun q => Vec e size q.1 (k + m) q.2 (cs ++ cs2) :: r1) :=
  opn_srcS hs fun hsrc => opn_append hw hx hy hr hsrc hp.out hz hlz hb hk
theorem opn_appNV (hw : Want all ⟨dst, .call ⟨.builtin .append, #[x, y], #[t, t]⟩, ty, pos, af, g⟩ env)
    (hx : ev env x = some (.slice none 0 0)) (hy : ev env y = some (.slice a2 m c2)) [hu : UL P t (.slice e)] [hi : TI P e z size bytes] (hs : Rem l (Vec E2 size a2 m c2 cs2) r2) (hp : PlC cs2)
    (hz : IsCells z zs) (hlz : zs.length = size) (hb : m * bytes ≤ 140737488355328) (hk : m ≤ 9223372036854775807) :
    OpN r P all ⟨dst, .call ⟨.builtin .append, #[x, y], #[t, t]⟩, ty, pos, af, g⟩ n ds env l (fun q : Option Addr × Nat => .slice q.1 m q.2) (fun q => Vec e size q.1 m q.2 cs2 :: l) :=
  opn_src hs fun hsrc => opn_appendN hw hx hy hsrc hp.out hz hlz hb hk
theorem opn_appNS (hw : Want all ⟨dst, .call ⟨.builtin .append, #[x, y], #[t, t]⟩, ty, pos, af, g⟩ env)
    (hx : ev env x = some (.slice none 0 0)) (hy : ev env y = some (.slice a2 m c2)) [hu : UL P t (.slice e)] [hi : TI P e z size bytes] (hs : Rem l (RoS size a2 m c2 cs2) r2) (hp : PlC cs2)
    (hz : IsCells z zs) (hlz : zs.length = size) (hb : m * bytes ≤ 140737488355328) (hk : m ≤ 9223372036854775807) :
    OpN r P all ⟨dst, .call ⟨.builtin .append, #[x, y], #[t, t]⟩, ty, pos, af, g⟩ n ds env l (fun q : Option Addr × Nat => .slice q.1 m q.2) (fun q => Vec e size q.1 m q.2 cs2 :: l) :=
  opn_srcS hs fun hsrc => opn_appendN hw hx hy hsrc hp.out hz hlz hb hk
end
section
variable {t e : TypeId} {x y : Operand} {a a2 : Option Addr} {k cap m m0 c2 c0 i size bytes : Nat} {cs cs2 zs : List Value}
theorem opn_appVT (hw : Want all ⟨dst, .call ⟨.builtin .append, #[x, y], #[t, t]⟩, ty, pos, af, g⟩ env)
    (hx : ev env x = some (.slice a k cap)) (hy : ev env y = some (.slice a2 m c2)) [hu : UL P t (.slice e)] [hi : TI P e z size bytes] (hr : Rem l (Vec e size a k cap cs) r1) (hs : Rem l (RoS size a2 m0 c0 cs2) r2) (hp : PlC cs2)
    (hz : IsCells z zs) (hlz : zs.length = size) (hm : m ≤ m0) (hb : (k + m) * bytes ≤ 140737488355328) (hk : k + m ≤ 9223372036854775807) :
    OpN r P all ⟨dst, .call ⟨.builtin .append, #[x, y], #[t, t]⟩, ty, pos, af, g⟩ n ds env l (fun q : Option Addr × Nat => .slice q.1 (k + m) q.2) (fun q => Vec e size q.1 (k + m) q.2 (cs ++ cs2.take (m * size)) :: r1) :=
  opn_srcS hs fun hsrc => opn_append hw hx hy hr (hsrc.take m hm) (PlC.out (cs := cs2.take (m * size))) hz hlz hb hk
theorem opn_appNT (hw : Want all ⟨dst, .call ⟨.builtin .append, #[x, y], #[t, t]⟩, ty, pos, af, g⟩ env)
    (hx : ev env x = some (.slice none 0 0)) (hy : ev env y = some (.slice a2 m c2)) [hu : UL P t (.slice e)] [hi : TI P e z size bytes] (hs : Rem l (RoS size a2 m0 c0 cs2) r2) (hp : PlC cs2)
    (hz : IsCells z zs) (hlz : zs.length = size) (hm : m ≤ m0) (hb : m * bytes ≤ 140737488355328) (hk : m ≤ 9223372036854775807) :
    OpN r P all ⟨dst, .call ⟨.builtin .append, #[x, y], #[t, t]⟩, ty, pos, af, g⟩ n ds env l (fun q : Option Addr × Nat => .slice q.1 m q.2) (fun q => Vec e size q.1 m q.2 (cs2.take (m * size)) :: l) :=
  opn_srcS hs fun hsrc => opn_appendN hw hx hy (hsrc.take m hm) (PlC.out (cs := cs2.take (m * size))) hz hlz hb hk
theorem opn_srcD {α : Type} {sz : Nat} {val : α → Value} {post : α → List HP} (hr : Rem l (RoS sz a m cap cs) r1) (hi : i ≤ m) (h : Src l sz (slA a cap i sz) (m - i) (cs.drop (i * sz)) → OpN r P all o n ds env l val post) : OpN r P all o n ds env l val post := fun base ac w ha hw => by
  obtain ⟨hp, hf, hl⟩ := hw.heap
  have hc := (lst_roS (hr.out hl)).1.2
  exact opn_srcS hr (fun hsrc => h (hsrc.drop i hi hc)) base ac w ha hw
theorem opn_appVD (hw : Want all ⟨dst, .call ⟨.builtin .append, #[x, y], #[t, t]⟩, ty, pos, af, g⟩ env)
    (hx : ev env x = some (.slice a k cap)) (hy : ev env y = some (.slice (slA a2 c0 i size) (m0 - i) c2)) [hu : UL P t (.slice e)] [hi : TI P e z size bytes] (hr : Rem l (Vec e size a k cap cs) r1) (hs : Rem l (RoS size a2 m0 c0 cs2) r2) (hp : PlC cs2)
    (hz : IsCells z zs) (hlz : zs.length = size) (hm : i ≤ m0) (hb : (k + (m0 - i)) * bytes ≤ 140737488355328) (hk : k + (m0 - i) ≤ 9223372036854775807) :
    OpN r P all ⟨dst, .call ⟨.builtin .append, #[x, y], #[t, t]⟩, ty, pos, af, g⟩ n ds env l (fun q : Option Addr × Nat => .slice q.1 (k + (m0 - i)) q.2) (fun q => Vec e size q.1 (k + (m0 - i)) q.2 (cs ++ cs2.drop (i * size)) :: r1) :=
  opn_srcD hs hm fun hsrc => opn_append hw hx hy hr hsrc (PlC.out (cs := cs2.drop (i * size))) hz hlz hb hk
/-- Parts of a shared slice, where nothing is turned. -/
theorem opq_slLo {k : IntKind} {xi : Int} {i : Nat} (hw : Want all ⟨dst, .slice t x (some y) none none, ty, pos, af, g⟩ env) (hx : ev env x = some (.slice a m cap)) (hy : ev env y = some (.int k xi)) [hu : UL P t (.slice e)] [hti : TI P e z size bytes] (hi : AsNat xi i) (h0 : 0 ≤ xi ∧ xi ≤ m) :
    OpQ r P all ⟨dst, .slice t x (some y) none none, ty, pos, af, g⟩ n ds env lc (.slice (slA a cap i size) (m - i) (cap - i)) := by
  rw [← hi.out h0.1]; exact opq_sliceLo hw hx hy h0.1 h0.2
theorem opq_slHi {k : IntKind} {xj : Int} {j : Nat} (hw : Want all ⟨dst, .slice t x none (some y) none, ty, pos, af, g⟩ env) (hx : ev env x = some (.slice a m cap)) (hy : ev env y = some (.int k xj)) [hu : UL P t (.slice e)] [hti : TI P e z size bytes] (hr : Rem lc (RoS size a m cap cs) r1) (hj : AsNat xj j) (h0 : 0 ≤ xj ∧ xj ≤ m) :
    OpQ r P all ⟨dst, .slice t x none (some y) none, ty, pos, af, g⟩ n ds env lc (.slice a j cap) := fun base F ac w ha hs => by
  have h1 := hj.out h0.1
  obtain ⟨hp, _, hl⟩ := hs.heap
  obtain ⟨⟨_, hmc⟩, hd⟩ := lst_roS ((hr.append F).out hl)
  have hz : slA a cap 0 size = a := slA_zero (by
    rcases hd with ⟨e, _⟩ | ⟨b, o, rfl⟩
    · intro _; omega
    · intro _ _ h; cases h; rfl)
  have := opq_sliceHi (r := r) (P := P) (n := n) (ds := ds) (lc := lc) hw hx hy h0.1 (by omega) base F ac w ha hs
  rw [h1, hz] at this; exact this
end
/-- 'make' of a slice. -/
theorem opn_make {t e : TypeId} {x x' : Operand} {kx kx' : IntKind} {i i' : Int} {k : Nat} {z : Value} {size bytes : Nat} {zs : List Value} (hw : Want all ⟨dst, .makeSlice t x x', ty, pos, af, g⟩ env) (hx : ev env x = some (.int kx i)) (hx' : ev env x' = some (.int kx' i')) (hkk : kx' = kx) (hi' : i' = i) (hk : AsNat i k) [hu : UL P t (.slice e)] [hti : TI P e z size bytes] (hz : IsCells z zs) (hlz : zs.length = size) (h0 : 0 ≤ i) (hb : k * bytes ≤ 140737488355328) (hk' : k ≤ 9223372036854775807) (hsz : Nat.ble 1 size = true) :
    OpN r P all ⟨dst, .makeSlice t x x', ty, pos, af, g⟩ n ds env l (fun b : Nat => .slice (some ⟨b, 0, none⟩) k k) (fun b => Vec e size (some ⟨b, 0, none⟩) k k (rows k fun _ => zs) :: l) := by
  have h1 : i = k := by have := hk.out h0; omega
  subst hi'
  exact opn_makeSlice' (cs := rows k fun _ => zs) k hw hx hx' h1 h1 hkk hz hlz hb hk' hsz (rows_replicate zs k)
/-- Parts of shared slices. -/
theorem roS_drop {sz : Nat} {a : Option Addr} {m cap : Nat} {cs : List Value} {h : Hp} (i : Nat) (hi : i ≤ m) (x : RoS sz a m cap cs h) : ∃ h', (∀ k y, h' k = some y → h k = some y) ∧ RoS sz (slA a cap i sz) (m - i) (cap - i) (cs.drop (i * sz)) h' := by
  rcases x with ⟨rfl, rfl, rfl, rfl⟩ | ⟨b, o, c, T, fr, rfl, h1, h2, h3, h4⟩
  · exact ⟨fun _ => none, fun _ _ h => h, .inl ⟨by omega, by omega, by simp, rfl⟩⟩
  · refine ⟨h, fun _ _ h => h, .inr ?_⟩
    by_cases hc : cap = i
    · refine ⟨b, o, c, T, fr, by simp [slA, hc], by omega, by rw [List.length_drop, h2, Nat.sub_mul], fun j v hj => ?_, h4⟩
      have : m = i := by omega
      subst this
      rw [List.drop_eq_nil_of_le (by omega)] at hj; cases hj
    · refine ⟨b, o + i * sz, c, T, fr, ?_, by omega, by rw [List.length_drop, h2, Nat.sub_mul], fun j v hj => ?_, h4⟩
      · simp only [slA, if_neg hc, Option.map_some]
        congr 1; unfold Addr.add; split
        · rename_i e; rw [e]; rfl
        · rfl
      · rw [List.getElem?_drop] at hj
        rw [Nat.add_assoc]; exact h3 _ v hj
theorem roS_take {sz : Nat} {a : Option Addr} {m cap : Nat} {cs : List Value} {h : Hp} (j : Nat) (hj : j ≤ m) (x : RoS sz a m cap cs h) : RoS sz a j cap (cs.take (j * sz)) h := by
  rcases x with ⟨rfl, rfl, rfl, rfl⟩ | ⟨b, o, c, T, fr, rfl, h1, h2, h3, h4⟩
  · exact .inl ⟨by omega, rfl, by simp, rfl⟩
  · refine .inr ⟨b, o, c, T, fr, rfl, by omega, ?_, fun q v hq => ?_, h4⟩
    · rw [List.length_take, h2]; exact Nat.min_eq_left (Nat.mul_le_mul_right _ hj)
    · rw [List.getElem?_take] at hq
      split at hq
      · exact h3 q v hq
      · cases hq
theorem lst_ro_add {p q : HP} [hp : Pers p] {l : List HP} (hpq : ∀ h, p h → ∃ h', (∀ k y, h' k = some y → h k = some y) ∧ q h') {h : Hp} (x : lst (p :: l) h) : lst (q :: p :: l) h := by
  obtain ⟨a, c, hd, rfl, ha, hc⟩ := x
  obtain ⟨a', h1, h2⟩ := hpq a ha
  refine ⟨a', joinH a c, fun k => ?_, ?_, h2, a, c, hd, rfl, ha, hc⟩
  · cases hk : a' k with
    | none => exact .inl rfl
    | some y =>
      obtain ⟨t, o⟩ := y
      have e := h1 k _ hk
      have ht : t = false := hp.out a ha k _ e
      subst ht
      exact .inr (.inr ⟨(joinH_left e).symm, o, rfl⟩)
  · funext k
    cases hk : a' k with
    | none => rw [joinH_none hk]
    | some y => rw [joinH_left hk, joinH_left (h1 k _ hk)]
section
variable {t e : TypeId} {x y y2 : Operand} {a : Option Addr} {m cap size bytes i j : Nat} {k k2 : IntKind} {xi xj : Int} {cs : List Value}
theorem St.roAdd {base : World} {w : World} {sz sz' : Nat} {a a' : Option Addr} {m m' cap cap' : Nat} {cs cs' : List Value} (hs : St base l w) (hr : Rem l (RoS sz a m cap cs) r1) (h : ∀ h, RoS sz a m cap cs h → ∃ h', (∀ k y, h' k = some y → h k = some y) ∧ RoS sz' a' m' cap' cs' h') : St base (RoS sz' a' m' cap' cs' :: l) w :=
  hs.ent fun _ z => lst_cons_mono (fun _ u => u) (fun _ u => hr.back u) (lst_ro_add h (hr.out z))
/-- The part of a shared slice from 'i' on. -/
theorem opn_slLoS (hw : Want all ⟨dst, .slice t x (some y) none none, ty, pos, af, g⟩ env) (hx : ev env x = some (.slice a m cap)) (hy : ev env y = some (.int k xi)) [hu : UL P t (.slice e)] [hti : TI P e z size bytes] (hr : Rem l (RoS size a m cap cs) r1) (hi : AsNat xi i) (h0 : 0 ≤ xi ∧ xi ≤ m) :
    OpN r P all ⟨dst, .slice t x (some y) none none, ty, pos, af, g⟩ n ds env l (fun q : Option Addr × Nat => .slice q.1 (m - i) q.2) (fun q => RoS size q.1 (m - i) q.2 (cs.drop (i * size)) :: l) := fun base ac w ha hs => by
  have h1 := hi.out h0.1
  refine (opq_sliceLo (r := r) (P := P) (n := n) (ds := ds) (lc := l) hw hx hy h0.1 h0.2 base [] ac w ha (by simpa using hs)).mono r P ?_
  rintro u w' ⟨rfl, hs'⟩
  rw [h1]
  exact ⟨(slA a cap i size, cap - i), rfl, St.roAdd (by simpa using hs') hr fun _ => roS_drop i (by omega)⟩
/-- The part of a shared slice up to 'j'. -/
theorem opn_slHiS (hw : Want all ⟨dst, .slice t x none (some y) none, ty, pos, af, g⟩ env) (hx : ev env x = some (.slice a m cap)) (hy : ev env y = some (.int k xj)) [hu : UL P t (.slice e)] [hti : TI P e z size bytes] (hr : Rem l (RoS size a m cap cs) r1) (hj : AsNat xj j) (h0 : 0 ≤ xj ∧ xj ≤ m) :
    OpN r P all ⟨dst, .slice t x none (some y) none, ty, pos, af, g⟩ n ds env l (fun q : Option Addr × Nat => .slice q.1 j q.2) (fun q => RoS size q.1 j q.2 (cs.take (j * size)) :: l) := fun base ac w ha hs => by
  have h1 := hj.out h0.1
  obtain ⟨hp, _, hl⟩ := hs.heap
  obtain ⟨⟨_, hmc⟩, hd⟩ := lst_roS (hr.out hl)
  have hz : slA a cap 0 size = a := slA_zero (by
    rcases hd with ⟨e, _⟩ | ⟨b, o, rfl⟩
    · intro _; omega
    · intro _ _ h; cases h; rfl)
  refine (opq_sliceHi (r := r) (P := P) (n := n) (ds := ds) (lc := l) hw hx hy h0.1 (by omega) base [] ac w ha (by simpa using hs)).mono r P ?_
  rintro u w' ⟨rfl, hs'⟩
  rw [h1, hz]
  exact ⟨(a, cap), rfl, St.roAdd (by simpa using hs') hr fun h y => ⟨h, fun _ _ h => h, roS_take j (by omega) y⟩⟩
/-- The part of a shared slice from 'i' up to 'j'. -/
theorem opn_slLHS (hw : Want all ⟨dst, .slice t x (some y) (some y2) none, ty, pos, af, g⟩ env) (hx : ev env x = some (.slice a m cap)) (hy : ev env y = some (.int k xi)) (hy2 : ev env y2 = some (.int k2 xj)) [hu : UL P t (.slice e)] [hti : TI P e z size bytes] (hr : Rem l (RoS size a m cap cs) r1) (hi : AsNat xi i) (hj : AsNat xj j) (h0 : 0 ≤ xi ∧ xi ≤ xj ∧ xj ≤ m) :
    OpN r P all ⟨dst, .slice t x (some y) (some y2) none, ty, pos, af, g⟩ n ds env l (fun q : Option Addr × Nat => .slice q.1 (j - i) q.2) (fun q => RoS size q.1 (j - i) q.2 ((cs.take (j * size)).drop (i * size)) :: l) := fun base ac w ha hs => by
  have h1 := hi.out h0.1
  have h2 := hj.out (by omega)
  obtain ⟨hp, _, hl⟩ := hs.heap
  obtain ⟨⟨_, hmc⟩, _⟩ := lst_roS (hr.out hl)
  refine (opq_sliceLH (r := r) (P := P) (n := n) (ds := ds) (lc := l) hw hx hy hy2 h0.1 h0.2.1 (by omega) base [] ac w ha (by simpa using hs)).mono r P ?_
  rintro u w' ⟨rfl, hs'⟩
  rw [h1, h2]
  refine ⟨(slA a cap i size, cap - i), rfl, St.roAdd (by simpa using hs') hr fun h y => ?_⟩
  exact roS_drop i (by omega) (roS_take j (by omega) y)
end
/-! ### Calls of functions that are known -/
theorem PickS.back {l p q : List HP} (h : PickS l p q) : ∀ {hp : Hp}, lst (p ++ q) hp → lst l hp := by
  induction h with
  | nil => exact fun h => h
  | fact _ _ ih => exact fun h => ih (lst_drop h)
  | keep _ _ _ ih => exact fun h => ih (lst_drop h)
  | cons hr _ ih => exact fun h => hr.back (lst_cons_mono (fun _ h => h) (fun _ h => ih h) h)
  | ro0 _ ih => exact fun h => ih (lst_drop h)
theorem PickS.append {l p q : List HP} (h : PickS l p q) (F : List HP) : PickS (l ++ F) p (q ++ F) := by
  induction h with
  | nil l => exact .nil _
  | fact _ hq ih => exact .fact ih hq
  | keep hr hx _ ih => exact .keep (hr.append F) hx ih
  | cons hr _ ih => exact .cons (hr.append F) ih
  | ro0 _ ih => exact .ro0 ih
/-- The same, where one's own slices may be given up to be shared. -/
inductive PickF : List HP → List HP → List HP → Prop
  | nil (l : List HP) : PickF l [] l
  | keep {l l' p r : List HP} {x : HP} (h : Rem l x l') (hx : Pers x) (h' : PickF l p r) : PickF l (x :: p) r
  | cons {l l' p r : List HP} {x : HP} (h : Rem l x l') (h' : PickF l' p r) : PickF l (x :: p) r
  | frz {l l' p r : List HP} {E sz : Nat} {a : Option Addr} {m c : Nat} {cs : List Value} (h : Rem l (Vec E sz a m c cs) l') (h' : PickF l' p r) : PickF l (RoS sz a m c cs :: p) r
  | ro0 {l p r : List HP} {sz : Nat} (h' : PickF l p r) : PickF l (RoS sz none 0 0 [] :: p) r
theorem PickF.out {l p r : List HP} (h : PickF l p r) : ∀ {base : World} {w : World} (F : List HP), St base (l ++ F) w → St base (p ++ (r ++ F)) w := by
  induction h with
  | nil => exact fun _ h => h
  | @keep l l' p r x hr hx _ ih =>
    intro base w F hs
    have h1 := ih (x :: F) ((hs.ent fun _ y => (hr.append F).keep y).ent fun _ y => by
      obtain ⟨a, b, hd, e, ha, hb⟩ := y
      have h2 := lst_unflat (xs := l) (l := F) hb
      have h3 : lst (x :: lst l :: F) _ := ⟨a, b, hd, e, ha, h2⟩
      have h4 := lst_swap h3
      exact lst_flat h4)
    refine h1.ent fun _ y => ?_
    have y1 := lst_unflat (xs := p ++ r) (l := x :: F) (by rw [List.append_assoc]; exact y)
    have y2 := lst_swap y1
    have y3 := lst_cons_mono (fun _ z => z) (fun _ z => lst_flat z) y2
    show lst (x :: (p ++ (r ++ F))) _
    rw [← List.append_assoc]; exact y3
  | @cons l l' p r x hr _ ih =>
    intro base w F hs
    have h1 := ih (x :: F) ((hs.ent fun _ y => (hr.append F).out y).ent fun _ y => by
      have h2 := lst_cons_mono (fun _ z => z) (fun _ z => lst_unflat (xs := l') (l := F) z) y
      exact lst_flat (lst_swap h2))
    refine h1.ent fun _ y => ?_
    have y1 := lst_unflat (xs := p ++ r) (l := x :: F) (by rw [List.append_assoc]; exact y)
    have y3 := lst_cons_mono (fun _ z => z) (fun _ z => lst_flat z) (lst_swap y1)
    show lst (x :: (p ++ (r ++ F))) _
    rw [← List.append_assoc]; exact y3
  | @frz l l' p r E sz a m c cs hr _ ih =>
    intro base w F hs
    have h0 := hs.freeze (hr.append F)
    have h1 := ih (RoS sz a m c cs :: F) (h0.ent fun _ y => by
      have h2 := lst_cons_mono (fun _ z => z) (fun _ z => lst_unflat (xs := l') (l := F) z) y
      exact lst_flat (lst_swap h2))
    refine h1.ent fun _ y => ?_
    have y1 := lst_unflat (xs := p ++ r) (l := RoS sz a m c cs :: F) (by rw [List.append_assoc]; exact y)
    have y3 := lst_cons_mono (fun _ z => z) (fun _ z => lst_flat z) (lst_swap y1)
    show lst (RoS sz a m c cs :: (p ++ (r ++ F))) _
    rw [← List.append_assoc]; exact y3
  | ro0 _ ih => exact fun F hs => (ih F hs).ent fun _ y => lst_roS_nil y
theorem SpecH.preF {α : Type} {P : Program} {f : FuncId} {args : Array Value} {pre l rest : List HP} {val : α → Value} {post : α → List HP} (h : SpecH P f args pre val post) (hp : PickF l pre rest) : SpecH P f args l val (fun x => post x ++ rest) := fun base F w hw => by
  have h1 : St base (pre ++ [lst (rest ++ [F])]) w := (hp.out [F] hw).ent fun _ y => ent_fold _ _ _ y
  refine CallsIn.mono (h base _ w h1) ?_
  rintro e w' ⟨x, rfl, hw'⟩
  exact ⟨x, rfl, by rw [List.append_assoc]; exact hw'.ent (ent_unfold _ _)⟩
theorem opn_callK {α : Type} {f : FuncId} {S : Prop} {xs : List Operand} {ats : Array TypeId} {vs : List Value} {pre rest : List HP} {val : α → Value} {post : α → List HP} [CF P f] [k : Known P f S]
    (hw : Want all ⟨dst, .call ⟨.value (.func f), xs.toArray, ats⟩, ty, pos, af, g⟩ env) (hxs : Evs env xs vs) (hs : S → SpecH P f vs.toArray pre val post) (hp : PickF l pre rest) :
    OpN r P all ⟨dst, .call ⟨.value (.func f), xs.toArray, ats⟩, ty, pos, af, g⟩ n ds env l val (fun x => post x ++ rest) :=
  (opn_call hw hxs ((hs k.out).preF hp) (Pick.whole l)).ent fun x => by rw [List.append_nil]; exact Ent.refl _
theorem opn_callH {α : Type} {f : FuncId} {xs : List Operand} {ats : Array TypeId} {vs : List Value} {pre rest : List HP} {val : α → Value} {post : α → List HP} [CF P f] (hs : SpecH P f vs.toArray pre val post)
    (hw : Want all ⟨dst, .call ⟨.value (.func f), xs.toArray, ats⟩, ty, pos, af, g⟩ env) (hxs : Evs env xs vs) (hp : PickF l pre rest) :
    OpN r P all ⟨dst, .call ⟨.value (.func f), xs.toArray, ats⟩, ty, pos, af, g⟩ n ds env l val (fun x => post x ++ rest) :=
  (opn_call hw hxs (hs.preF hp) (Pick.whole l)).ent fun x => by rw [List.append_nil]; exact Ent.refl _
theorem opq_callK {f : FuncId} {S : Prop} {xs : List Operand} {ats : Array TypeId} {vs : List Value} {pre rest : List HP} {v : Value} [CF P f] [k : Known P f S]
    (hw : Want all ⟨dst, .call ⟨.value (.func f), xs.toArray, ats⟩, ty, pos, af, g⟩ env) (hxs : Evs env xs vs) (hs : S → SpecH P f vs.toArray pre (fun _ : Unit => v) (fun _ => pre)) (hp : PickS lc pre rest) :
    OpQ r P all ⟨dst, .call ⟨.value (.func f), xs.toArray, ats⟩, ty, pos, af, g⟩ n ds env lc v := fun base F a w ha hst =>
  (((opn_call hw hxs ((hs k.out).pre (hp.append F)) (Pick.whole _)).ent (fun x => by rw [List.append_nil]; exact Ent.refl _)) base a w ha hst).mono r P fun _ _ ⟨_, h1, h2⟩ => ⟨h1, h2.ent fun _ y => (hp.append F).back y⟩
theorem tl_m {α : Type} {d : Nat} {val : α → Value} {post : α → List HP} (hd : o.dst = some d) (hn : d < n) (hq : OpN r P all o n ds env l val post) {R : Prop}
    (hR : R → ∀ x, TL r P base n ds all ro Q ((d, val x) :: env) (post x)) (h : R) : TL r P base n ds all (o :: ro) Q env l := tl_n hq hd hn (hR h)
theorem tl_m0 {α : Type} {val : α → Value} {post : α → List HP} (hd : o.dst = none) (hq : OpN r P all o n ds env l val post) {R : Prop}
    (hR : R → ∀ x, TL r P base n ds all ro Q env (post x)) (h : R) : TL r P base n ds all (o :: ro) Q env l := tl_n0 hq hd (hR h)
/-! ### Drawn regions -/
def quietOp (o : Oper) : Bool := match o.op with
  | .store .. | .alloc .. | .box .. | .makeSlice .. | .buildSlice .. | .makeMap .. | .mapUpdate .. => false
  | .call ⟨.builtin b, _, _⟩ => match b with | .len | .cap | .min | .max => true | _ => false
  | _ => true
theorem tc_quietB {id : Nat} {ops : Array Oper} (hx : (Region.lexB .any ops && ops.all quietOp) = true) (hB : drawB P ops n = true) (h : TQ r P n ds ops l ops.toList env (fun env' => TK base n ds (Q .normal) env' l)) : TC r P base n ds (.region id ops true) Q env l := by
  simp only [Bool.and_eq_true] at hx
  exact tc_quiet hB hx.1 h
/-- The one operation that may come up, whatever it turns. -/
theorem wa_hv {α : Type} {ops : Array Oper} {F : List HP} {val : α → Value} {post : α → List HP} {F' : α → List HP} {listed : Array Bool} (i : Nat) {fuel : Nat} (hi : ops[i]? = some o) (hr : Region.ready .any ops listed = [i])
    (hq : OpN r P ops o n ds env (lc ++ F) val post) (hp : ∀ x, Pick (post x) lc (F' x)) (h : ∀ x, WA r P base n ds ops Q lc fuel (listed.setIfInBounds i true) (putE o.dst (val x) env) (F' x)) : WA r P base n ds ops Q lc (fuel + 1) listed env F :=
  wa_one (post := F') hi hr rfl (hq.ent fun x _ y => (hp x).out y) h
theorem dr {id : Nat} {ops : Array Oper} (lc : List HP) {F : List HP} (h : WA r P base n ds ops Q lc ops.size (Array.replicate ops.size false) env F) (hp : Pick l lc F := by (repeat (first | (with_reducible exact Pick.nil _) | (apply Pick.cons; (focus ((repeat (first | (with_reducible exact Rem.here _ _) | (with_reducible apply Rem.there) | fail)); done))) | fail)); done) (hB : drawB P ops n = true := by kernel_rfl) : TC r P base n ds (.region id ops true) Q env l := tc_draw lc F hB (fun _ y => hp.out y) h
end
end Go.Sl
