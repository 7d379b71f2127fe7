/- SlC: SlGo, SlGo3, SlGo2. -/
import Derived.Test.YtdpiglociolagaaGreatSlB
import Derived.KernelRfl
/- One step of a walk at a time, found by itself. For whatever program. -/
namespace Go.Sl

/-! ### Cells by index -/
class Idx (cs : List Value) (sz n : outParam Nat) (f : outParam (Nat → List Value)) : Prop where
  out : ∀ i, i < n → (f i).length = sz ∧ ∀ j v, (f i)[j]? = some v → cs[i * sz + j]? = some v
class SetC (cs : List Value) (i j : Nat) (vs : List Value) (sz n : outParam Nat) (cs' : outParam (List Value)) : Prop where
  out : i < n → setL cs (i * sz + j) vs = cs' ∧ i * sz + j + vs.length ≤ cs.length
class NatI (x : Int) (i : outParam Nat) : Prop where
  out : x = (i : Int)
instance (priority := high) natI_cast (i : Nat) : NatI (i : Int) i := ⟨rfl⟩
instance natI_add (x y : Int) (i j : Nat) [h : NatI x i] [k : NatI y j] : NatI (x + y) (i + j) := ⟨by rw [h.out, k.out]; rfl⟩
class AsNat (x : Int) (i : outParam Nat) : Prop where
  out : 0 ≤ x → x.toNat = i
instance (priority := high) asNat_cast (i : Nat) : AsNat (i : Int) i := ⟨fun _ => Int.toNat_natCast i⟩
instance (priority := high) asNat_sub (i : Nat) : AsNat ((i : Int) - 1) (i - 1) := ⟨fun _ => by omega⟩
instance asNat_plus (x y : Int) (i j : Nat) [h : NatI x i] [k : NatI y j] : AsNat (x + y) (i + j) := ⟨fun _ => by rw [h.out, k.out]; omega⟩
instance (priority := high) asNat_add (i j : Nat) : AsNat ((i : Int) + (j : Int)) (i + j) := ⟨fun _ => by omega⟩
instance : NatI 0 0 := ⟨rfl⟩
instance : AsNat 0 0 := ⟨fun _ => rfl⟩
instance : NatI 1 1 := ⟨rfl⟩
instance : AsNat 1 1 := ⟨fun _ => rfl⟩
instance : NatI 2 2 := ⟨rfl⟩
instance : AsNat 2 2 := ⟨fun _ => rfl⟩
instance : NatI 3 3 := ⟨rfl⟩
instance : AsNat 3 3 := ⟨fun _ => rfl⟩
instance : NatI 4 4 := ⟨rfl⟩
instance : AsNat 4 4 := ⟨fun _ => rfl⟩
instance : NatI 5 5 := ⟨rfl⟩
instance : AsNat 5 5 := ⟨fun _ => rfl⟩
instance : NatI 6 6 := ⟨rfl⟩
instance : AsNat 6 6 := ⟨fun _ => rfl⟩
instance : NatI 7 7 := ⟨rfl⟩
instance : AsNat 7 7 := ⟨fun _ => rfl⟩
instance : NatI 8 8 := ⟨rfl⟩
instance : AsNat 8 8 := ⟨fun _ => rfl⟩
instance : NatI 9 9 := ⟨rfl⟩
instance : AsNat 9 9 := ⟨fun _ => rfl⟩
instance : NatI 10 10 := ⟨rfl⟩
instance : AsNat 10 10 := ⟨fun _ => rfl⟩
instance : NatI 11 11 := ⟨rfl⟩
instance : AsNat 11 11 := ⟨fun _ => rfl⟩
instance : NatI 12 12 := ⟨rfl⟩
instance : AsNat 12 12 := ⟨fun _ => rfl⟩
instance : NatI 13 13 := ⟨rfl⟩
instance : AsNat 13 13 := ⟨fun _ => rfl⟩
instance : NatI 14 14 := ⟨rfl⟩
instance : AsNat 14 14 := ⟨fun _ => rfl⟩
instance : NatI 15 15 := ⟨rfl⟩
instance : AsNat 15 15 := ⟨fun _ => rfl⟩
instance : NatI 16 16 := ⟨rfl⟩
instance : AsNat 16 16 := ⟨fun _ => rfl⟩
instance : NatI 17 17 := ⟨rfl⟩
instance : AsNat 17 17 := ⟨fun _ => rfl⟩
instance : NatI 18 18 := ⟨rfl⟩
instance : AsNat 18 18 := ⟨fun _ => rfl⟩
instance : NatI 19 19 := ⟨rfl⟩
instance : AsNat 19 19 := ⟨fun _ => rfl⟩
instance : NatI 20 20 := ⟨rfl⟩
instance : AsNat 20 20 := ⟨fun _ => rfl⟩
instance : NatI 21 21 := ⟨rfl⟩
instance : AsNat 21 21 := ⟨fun _ => rfl⟩
instance : NatI 22 22 := ⟨rfl⟩
instance : AsNat 22 22 := ⟨fun _ => rfl⟩
instance : NatI 23 23 := ⟨rfl⟩
instance : AsNat 23 23 := ⟨fun _ => rfl⟩
instance : NatI 24 24 := ⟨rfl⟩
instance : AsNat 24 24 := ⟨fun _ => rfl⟩
instance : NatI 25 25 := ⟨rfl⟩
instance : AsNat 25 25 := ⟨fun _ => rfl⟩
instance : NatI 26 26 := ⟨rfl⟩
instance : AsNat 26 26 := ⟨fun _ => rfl⟩
instance : NatI 27 27 := ⟨rfl⟩
instance : AsNat 27 27 := ⟨fun _ => rfl⟩
instance : NatI 28 28 := ⟨rfl⟩
instance : AsNat 28 28 := ⟨fun _ => rfl⟩
instance : NatI 29 29 := ⟨rfl⟩
instance : AsNat 29 29 := ⟨fun _ => rfl⟩
instance : NatI 30 30 := ⟨rfl⟩
instance : AsNat 30 30 := ⟨fun _ => rfl⟩
instance : NatI 31 31 := ⟨rfl⟩
instance : AsNat 31 31 := ⟨fun _ => rfl⟩
instance : NatI 32 32 := ⟨rfl⟩
instance : AsNat 32 32 := ⟨fun _ => rfl⟩
instance : NatI 33 33 := ⟨rfl⟩
instance : AsNat 33 33 := ⟨fun _ => rfl⟩
instance : NatI 34 34 := ⟨rfl⟩
instance : AsNat 34 34 := ⟨fun _ => rfl⟩
instance : NatI 35 35 := ⟨rfl⟩
instance : AsNat 35 35 := ⟨fun _ => rfl⟩
instance : NatI 36 36 := ⟨rfl⟩
instance : AsNat 36 36 := ⟨fun _ => rfl⟩
instance : NatI 37 37 := ⟨rfl⟩
instance : AsNat 37 37 := ⟨fun _ => rfl⟩
instance : NatI 38 38 := ⟨rfl⟩
instance : AsNat 38 38 := ⟨fun _ => rfl⟩
instance : NatI 39 39 := ⟨rfl⟩
instance : AsNat 39 39 := ⟨fun _ => rfl⟩
instance : NatI 40 40 := ⟨rfl⟩
instance : AsNat 40 40 := ⟨fun _ => rfl⟩
instance : NatI 41 41 := ⟨rfl⟩
instance : AsNat 41 41 := ⟨fun _ => rfl⟩
instance : NatI 42 42 := ⟨rfl⟩
instance : AsNat 42 42 := ⟨fun _ => rfl⟩
instance : NatI 43 43 := ⟨rfl⟩
instance : AsNat 43 43 := ⟨fun _ => rfl⟩
instance : NatI 44 44 := ⟨rfl⟩
instance : AsNat 44 44 := ⟨fun _ => rfl⟩
instance : NatI 45 45 := ⟨rfl⟩
instance : AsNat 45 45 := ⟨fun _ => rfl⟩
instance : NatI 46 46 := ⟨rfl⟩
instance : AsNat 46 46 := ⟨fun _ => rfl⟩
instance : NatI 47 47 := ⟨rfl⟩
instance : AsNat 47 47 := ⟨fun _ => rfl⟩
instance : NatI 48 48 := ⟨rfl⟩
instance : AsNat 48 48 := ⟨fun _ => rfl⟩
instance : NatI 49 49 := ⟨rfl⟩
instance : AsNat 49 49 := ⟨fun _ => rfl⟩
instance : NatI 50 50 := ⟨rfl⟩
instance : AsNat 50 50 := ⟨fun _ => rfl⟩
instance : NatI 51 51 := ⟨rfl⟩
instance : AsNat 51 51 := ⟨fun _ => rfl⟩
instance : NatI 52 52 := ⟨rfl⟩
instance : AsNat 52 52 := ⟨fun _ => rfl⟩
instance : NatI 53 53 := ⟨rfl⟩
instance : AsNat 53 53 := ⟨fun _ => rfl⟩
instance : NatI 54 54 := ⟨rfl⟩
instance : AsNat 54 54 := ⟨fun _ => rfl⟩
instance : NatI 55 55 := ⟨rfl⟩
instance : AsNat 55 55 := ⟨fun _ => rfl⟩
instance : NatI 56 56 := ⟨rfl⟩
instance : AsNat 56 56 := ⟨fun _ => rfl⟩
instance : NatI 57 57 := ⟨rfl⟩
instance : AsNat 57 57 := ⟨fun _ => rfl⟩
instance : NatI 58 58 := ⟨rfl⟩
instance : AsNat 58 58 := ⟨fun _ => rfl⟩
instance : NatI 59 59 := ⟨rfl⟩
instance : AsNat 59 59 := ⟨fun _ => rfl⟩
instance : NatI 60 60 := ⟨rfl⟩
instance : AsNat 60 60 := ⟨fun _ => rfl⟩
instance : NatI 61 61 := ⟨rfl⟩
instance : AsNat 61 61 := ⟨fun _ => rfl⟩
instance : NatI 62 62 := ⟨rfl⟩
instance : AsNat 62 62 := ⟨fun _ => rfl⟩
instance : NatI 63 63 := ⟨rfl⟩
instance : AsNat 63 63 := ⟨fun _ => rfl⟩
instance : NatI 64 64 := ⟨rfl⟩
instance : AsNat 64 64 := ⟨fun _ => rfl⟩
instance : NatI 65 65 := ⟨rfl⟩
instance : AsNat 65 65 := ⟨fun _ => rfl⟩
instance : NatI 66 66 := ⟨rfl⟩
instance : AsNat 66 66 := ⟨fun _ => rfl⟩
instance : NatI 67 67 := ⟨rfl⟩
instance : AsNat 67 67 := ⟨fun _ => rfl⟩
instance : NatI 68 68 := ⟨rfl⟩
instance : AsNat 68 68 := ⟨fun _ => rfl⟩
instance : NatI 69 69 := ⟨rfl⟩
instance : AsNat 69 69 := ⟨fun _ => rfl⟩
instance : NatI 70 70 := ⟨rfl⟩
instance : AsNat 70 70 := ⟨fun _ => rfl⟩
instance : NatI 71 71 := ⟨rfl⟩
instance : AsNat 71 71 := ⟨fun _ => rfl⟩
instance : NatI 72 72 := ⟨rfl⟩
instance : AsNat 72 72 := ⟨fun _ => rfl⟩
instance : NatI 73 73 := ⟨rfl⟩
instance : AsNat 73 73 := ⟨fun _ => rfl⟩
instance : NatI 74 74 := ⟨rfl⟩
instance : AsNat 74 74 := ⟨fun _ => rfl⟩
instance : NatI 75 75 := ⟨rfl⟩
instance : AsNat 75 75 := ⟨fun _ => rfl⟩
instance : NatI 76 76 := ⟨rfl⟩
instance : AsNat 76 76 := ⟨fun _ => rfl⟩
instance : NatI 77 77 := ⟨rfl⟩
instance : AsNat 77 77 := ⟨fun _ => rfl⟩
instance : NatI 78 78 := ⟨rfl⟩
instance : AsNat 78 78 := ⟨fun _ => rfl⟩
instance : NatI 79 79 := ⟨rfl⟩
instance : AsNat 79 79 := ⟨fun _ => rfl⟩
instance : NatI 80 80 := ⟨rfl⟩
instance : AsNat 80 80 := ⟨fun _ => rfl⟩
instance : NatI 81 81 := ⟨rfl⟩
instance : AsNat 81 81 := ⟨fun _ => rfl⟩
instance : NatI 82 82 := ⟨rfl⟩
instance : AsNat 82 82 := ⟨fun _ => rfl⟩
instance : NatI 83 83 := ⟨rfl⟩
instance : AsNat 83 83 := ⟨fun _ => rfl⟩
instance : NatI 84 84 := ⟨rfl⟩
instance : AsNat 84 84 := ⟨fun _ => rfl⟩
instance : NatI 85 85 := ⟨rfl⟩
instance : AsNat 85 85 := ⟨fun _ => rfl⟩
instance : NatI 86 86 := ⟨rfl⟩
instance : AsNat 86 86 := ⟨fun _ => rfl⟩
instance : NatI 87 87 := ⟨rfl⟩
instance : AsNat 87 87 := ⟨fun _ => rfl⟩
instance : NatI 88 88 := ⟨rfl⟩
instance : AsNat 88 88 := ⟨fun _ => rfl⟩
instance : NatI 89 89 := ⟨rfl⟩
instance : AsNat 89 89 := ⟨fun _ => rfl⟩
instance : NatI 90 90 := ⟨rfl⟩
instance : AsNat 90 90 := ⟨fun _ => rfl⟩
instance : NatI 91 91 := ⟨rfl⟩
instance : AsNat 91 91 := ⟨fun _ => rfl⟩
instance : NatI 92 92 := ⟨rfl⟩
instance : AsNat 92 92 := ⟨fun _ => rfl⟩
instance : NatI 93 93 := ⟨rfl⟩
instance : AsNat 93 93 := ⟨fun _ => rfl⟩
instance : NatI 94 94 := ⟨rfl⟩
instance : AsNat 94 94 := ⟨fun _ => rfl⟩
instance : NatI 95 95 := ⟨rfl⟩
instance : AsNat 95 95 := ⟨fun _ => rfl⟩
instance : NatI 96 96 := ⟨rfl⟩
instance : AsNat 96 96 := ⟨fun _ => rfl⟩
instance : NatI 97 97 := ⟨rfl⟩
instance : AsNat 97 97 := ⟨fun _ => rfl⟩
instance : NatI 98 98 := ⟨rfl⟩
instance : AsNat 98 98 := ⟨fun _ => rfl⟩
instance : NatI 99 99 := ⟨rfl⟩
instance : AsNat 99 99 := ⟨fun _ => rfl⟩
instance : NatI 100 100 := ⟨rfl⟩
instance : AsNat 100 100 := ⟨fun _ => rfl⟩
instance : NatI 101 101 := ⟨rfl⟩
instance : AsNat 101 101 := ⟨fun _ => rfl⟩
instance : NatI 102 102 := ⟨rfl⟩
instance : AsNat 102 102 := ⟨fun _ => rfl⟩
instance : NatI 103 103 := ⟨rfl⟩
instance : AsNat 103 103 := ⟨fun _ => rfl⟩
instance : NatI 104 104 := ⟨rfl⟩
instance : AsNat 104 104 := ⟨fun _ => rfl⟩
instance : NatI 105 105 := ⟨rfl⟩
instance : AsNat 105 105 := ⟨fun _ => rfl⟩
instance : NatI 106 106 := ⟨rfl⟩
instance : AsNat 106 106 := ⟨fun _ => rfl⟩
instance : NatI 107 107 := ⟨rfl⟩
instance : AsNat 107 107 := ⟨fun _ => rfl⟩
instance : NatI 108 108 := ⟨rfl⟩
instance : AsNat 108 108 := ⟨fun _ => rfl⟩
instance : NatI 109 109 := ⟨rfl⟩
instance : AsNat 109 109 := ⟨fun _ => rfl⟩
instance : NatI 110 110 := ⟨rfl⟩
instance : AsNat 110 110 := ⟨fun _ => rfl⟩
instance : NatI 111 111 := ⟨rfl⟩
instance : AsNat 111 111 := ⟨fun _ => rfl⟩
instance : NatI 112 112 := ⟨rfl⟩
instance : AsNat 112 112 := ⟨fun _ => rfl⟩
instance : NatI 113 113 := ⟨rfl⟩
instance : AsNat 113 113 := ⟨fun _ => rfl⟩
instance : NatI 114 114 := ⟨rfl⟩
instance : AsNat 114 114 := ⟨fun _ => rfl⟩
instance : NatI 115 115 := ⟨rfl⟩
instance : AsNat 115 115 := ⟨fun _ => rfl⟩
instance : NatI 116 116 := ⟨rfl⟩
instance : AsNat 116 116 := ⟨fun _ => rfl⟩
instance : NatI 117 117 := ⟨rfl⟩
instance : AsNat 117 117 := ⟨fun _ => rfl⟩
instance : NatI 118 118 := ⟨rfl⟩
instance : AsNat 118 118 := ⟨fun _ => rfl⟩
instance : NatI 119 119 := ⟨rfl⟩
instance : AsNat 119 119 := ⟨fun _ => rfl⟩
instance : NatI 120 120 := ⟨rfl⟩
instance : AsNat 120 120 := ⟨fun _ => rfl⟩
instance : NatI 121 121 := ⟨rfl⟩
instance : AsNat 121 121 := ⟨fun _ => rfl⟩
instance : NatI 122 122 := ⟨rfl⟩
instance : AsNat 122 122 := ⟨fun _ => rfl⟩
instance : NatI 123 123 := ⟨rfl⟩
instance : AsNat 123 123 := ⟨fun _ => rfl⟩
instance : NatI 124 124 := ⟨rfl⟩
instance : AsNat 124 124 := ⟨fun _ => rfl⟩
instance : NatI 125 125 := ⟨rfl⟩
instance : AsNat 125 125 := ⟨fun _ => rfl⟩
instance : NatI 126 126 := ⟨rfl⟩
instance : AsNat 126 126 := ⟨fun _ => rfl⟩
instance : NatI 127 127 := ⟨rfl⟩
instance : AsNat 127 127 := ⟨fun _ => rfl⟩
instance : NatI 128 128 := ⟨rfl⟩
instance : AsNat 128 128 := ⟨fun _ => rfl⟩
instance : NatI 129 129 := ⟨rfl⟩
instance : AsNat 129 129 := ⟨fun _ => rfl⟩
instance (priority := low) asNat_any (x : Int) : AsNat x x.toNat := ⟨fun _ => rfl⟩
def blkOf : Option Addr → Nat
  | some a => a.block
  | none => 0
def offOf : Option Addr → Nat
  | some a => a.off
  | none => 0
section
variable {l r' : List HP} {E m cap sz n i j : Nat} {a : Option Addr} {cs vs : List Value} {v : Value} {f : Nat → List Value}
theorem rd_vecA {off : Nat} (h : Rem l (Vec E sz a m cap cs) r') (hv : ∀ j v, vs[j]? = some v → cs[off + j]? = some v) : Rd l ⟨blkOf a, 0 + off, none⟩ vs := fun x hx => ⟨rfl, fun j v hj => by
  have h1 := hv j v hj
  rcases lst_vec (h.out hx) with ⟨_, _, _, e⟩ | ⟨b, junk, rfl, _, _, _, hb⟩
  · rw [e] at h1; cases h1
  · refine ⟨_, _, _, true, lst_blk hb, ?_⟩
    have h2 : off + j < cs.length := (List.getElem?_eq_some_iff.1 h1).1
    simp only [Nat.zero_add, List.getElem?_toArray]
    rw [List.getElem?_append_left h2]; exact h1⟩
theorem rd_roA {off : Nat} (h : Rem l (RoS sz a m cap cs) r') (hv : ∀ j v, vs[j]? = some v → cs[off + j]? = some v) : Rd l ⟨blkOf a, offOf a + off, none⟩ vs := fun x hx => ⟨rfl, fun j v hj => by
  have h1 := hv j v hj
  obtain ⟨p, q, _, rfl, hp, _⟩ := h.out hx
  rcases hp with ⟨_, _, e, _⟩ | ⟨b', o', c, T, fr, rfl, _, _, hc, hp⟩
  · rw [e] at h1; cases h1
  · subst hp
    exact ⟨c, T, fr, false, joinH_left (by simp [blkOf]), by simp only [offOf]; rw [Nat.add_assoc]; exact hc _ v h1⟩⟩
theorem at_one (hx : Idx cs sz n f) (hi : i < n) (hv : (f i)[j]? = some v) : ∀ j' v', [v][j']? = some v' → cs[(i * sz + j) + j']? = some v' := fun j' v' h => by
  cases j' with
  | zero => simp at h; subst h; exact (hx.out i hi).2 j v hv
  | succ k => simp at h
theorem rd_ix (h : Rem l (Vec E sz a m cap cs) r') (hx : Idx cs sz n f) (hi : i < n) (hv : (f i)[j]? = some v) : Rd l ⟨blkOf a, 0 + i * sz + j, none⟩ [v] := by
  rw [Nat.add_assoc]; exact rd_vecA h (at_one hx hi hv)
theorem rd_ix0 (h : Rem l (Vec E sz a m cap cs) r') (hx : Idx cs sz n f) (hi : i < n) (hv : (f i)[0]? = some v) : Rd l ⟨blkOf a, 0 + i * sz, none⟩ [v] := rd_vecA h (at_one hx hi hv)
theorem rd_row (h : Rem l (Vec E sz a m cap cs) r') (hx : Idx cs sz n f) (hi : i < n) (hv : f i = vs) : Rd l ⟨blkOf a, 0 + i * sz, none⟩ vs := rd_vecA h fun j v hj => (hx.out i hi).2 j v (by rw [hv]; exact hj)
theorem rd_ixS (h : Rem l (RoS sz a m cap cs) r') (hx : Idx cs sz n f) (hi : i < n) (hv : (f i)[j]? = some v) : Rd l ⟨blkOf a, offOf a + i * sz + j, none⟩ [v] := by
  rw [Nat.add_assoc]; exact rd_roA h (at_one hx hi hv)
theorem rd_ix0S (h : Rem l (RoS sz a m cap cs) r') (hx : Idx cs sz n f) (hi : i < n) (hv : (f i)[0]? = some v) : Rd l ⟨blkOf a, offOf a + i * sz, none⟩ [v] := rd_roA h (at_one hx hi hv)
theorem rd_rowS (h : Rem l (RoS sz a m cap cs) r') (hx : Idx cs sz n f) (hi : i < n) (hv : f i = vs) : Rd l ⟨blkOf a, offOf a + i * sz, none⟩ vs := rd_roA h fun j v hj => (hx.out i hi).2 j v (by rw [hv]; exact hj)
theorem at_list (hv : cs[i]? = some v) : ∀ j' v', [v][j']? = some v' → cs[i * 1 + j']? = some v' := fun j' v' h => by
  cases j' with
  | zero => simp at h; subst h; simpa using hv
  | succ k => simp at h
theorem rd_list (h : Rem l (RoS 1 a m cap cs) r') (hv : cs[i]? = some v) : Rd l ⟨blkOf a, offOf a + i * 1, none⟩ [v] := rd_roA h (at_list hv)
theorem rd_listV (h : Rem l (Vec E 1 a m cap cs) r') (hv : cs[i]? = some v) : Rd l ⟨blkOf a, 0 + i * 1, none⟩ [v] := rd_vecA h (at_list hv)
end
def cobj (b : Nat) (T : TypeId) (cs : List Value) : HP := ro b (.cells cs.toArray T (0, 0))
instance (b : Nat) (T : TypeId) (cs : List Value) : Pers (cobj b T cs) := pers_ro b _
section
variable {l r' : List HP} {b T off : Nat} {cs : List Value} {v : Value}
theorem rd_cobj (h : Rem l (cobj b T cs) r') : Rd l ⟨b, 0, none⟩ cs := fun x hx => ⟨rfl, fun j v hj => ⟨cs.toArray, T, (0, 0), false, lst_ro (h.out hx), by simpa using hj⟩⟩
theorem rd_cobj1 (h : Rem l (cobj b T cs) r') (hv : cs[off]? = some v) : Rd l ⟨b, off, none⟩ [v] := fun x hx => ⟨rfl, fun j u hj => ⟨cs.toArray, T, (0, 0), false, lst_ro (h.out hx), by
  cases j with
  | zero => simp at hj; subst hj; simpa using hv
  | succ j => simp at hj⟩⟩
theorem TK.share {base : World} {n : Nat} {ds : List Deferred} {K : Act → World → Prop} {env : Env} (hr : Rem l (obj b T cs) r') (h : TK base n ds K env (cobj b T cs :: r')) : TK base n ds K env l := fun a w ha hw => h a w ha (hw.share hr)
end
instance (priority := low) setC_list (vs : List Value) (i : Nat) (v : Value) : SetC vs i 0 [v] 1 vs.length (vs.set i v) := ⟨fun h => ⟨by simp [setL], by simp; omega⟩⟩
class Width {α : Type} (f : α → List Value) (sz : outParam Nat) : Prop where
  out : ∀ a, (f a).length = sz
def cellsOf {α : Type} (f : α → List Value) (l : List α) : List Value := l.flatMap f
section
variable {α : Type} {f : α → List Value} {sz : Nat}
theorem cellsOf_length [h : Width f sz] : ∀ l : List α, (cellsOf f l).length = l.length * sz
  | [] => by simp [cellsOf]
  | a :: l => by simp only [cellsOf, List.flatMap_cons, List.length_append, List.length_cons, Nat.add_mul, Nat.one_mul]; rw [h.out a, Nat.add_comm]; congr 1; exact cellsOf_length l
theorem cellsOf_get [h : Width f sz] : ∀ (l : List α) (i j : Nat) (hi : i < l.length), j < sz → (cellsOf f l)[i * sz + j]? = (f l[i])[j]?
  | a :: l, 0, j, _, hj => by simp [cellsOf, List.getElem?_append_left (show j < (f a).length by rw [h.out]; exact hj)]
  | a :: l, i + 1, j, hi, hj => by
    simp only [cellsOf, List.flatMap_cons, List.getElem_cons_succ]
    rw [List.getElem?_append_right (by rw [h.out, Nat.add_mul]; omega), h.out, show (i + 1) * sz + j - sz = i * sz + j by rw [Nat.add_mul]; omega]
    exact cellsOf_get l i j (by simpa using hi) hj
instance idx_cellsOf [Inhabited α] [h : Width f sz] (l : List α) : Idx (cellsOf f l) sz l.length (fun i => f (l.getD i default)) := ⟨fun i hi => ⟨h.out _, fun j v hv => by
  have hj : j < sz := by rw [← h.out (l.getD i default)]; exact (List.getElem?_eq_some_iff.1 hv).1
  rw [cellsOf_get l i j hi hj]
  rw [List.getD_eq_getElem?_getD, List.getElem?_eq_getElem hi] at hv
  exact hv⟩⟩
theorem cellsOf_set [h : Width f sz] : ∀ (l : List α) (i : Nat) (a : α), i < l.length → setL (cellsOf f l) (i * sz) (f a) = cellsOf f (l.set i a)
  | b :: l, 0, a, _ => by
    have := setL_over (f a) [] (f b) (l.flatMap f) (by rw [h.out, h.out])
    simpa [cellsOf] using this
  | b :: l, i + 1, a, hi => by
    have hi' : i < l.length := by simpa using hi
    have ih := cellsOf_set l i a hi'
    have hlen := cellsOf_length (f := f) l
    have e1 : (l.take i).length = i := by simp; omega
    have hsplit : ∀ (k : List α) (c : α), k.length = i → ∀ m : List α, setL (cellsOf f (b :: (k ++ c :: m))) ((i + 1) * sz) (f a) = cellsOf f (b :: (k ++ a :: m)) := fun k c hk m => by
      have := setL_over (f a) (f b ++ k.flatMap f) (f c) (m.flatMap f) (by rw [h.out, h.out])
      have hl : (f b ++ k.flatMap f).length = (i + 1) * sz := by
        have := cellsOf_length (f := f) k
        rw [List.length_append, h.out]; unfold cellsOf at this; rw [this, hk, Nat.add_mul]; omega
      rw [hl] at this
      simpa [cellsOf] using this
    have h1 := hsplit (l.take i) l[i] e1 (l.drop (i + 1))
    rw [List.getElem_cons_drop, List.take_append_drop] at h1
    rw [h1, List.set_cons_succ]
    congr 2
    rw [List.set_eq_take_append_cons_drop, if_pos hi']
instance setC_cellsOf [h : Width f sz] (l : List α) (i : Nat) (a : α) : SetC (cellsOf f l) i 0 (f a) sz l.length (cellsOf f (l.set i a)) := ⟨fun hi => ⟨by rw [Nat.add_zero]; exact cellsOf_set l i a hi, by
  rw [cellsOf_length, h.out, Nat.add_zero]
  calc i * sz + sz = (i + 1) * sz := by rw [Nat.add_mul, Nat.one_mul]
    _ ≤ l.length * sz := Nat.mul_le_mul_right _ hi⟩⟩
end
instance width_one {α : Type} (g : α → Value) : Width (fun a => [g a]) 1 := ⟨fun _ => rfl⟩
theorem prod_all {α β : Type} {p : α × β → Prop} (h : ∀ a b, p (a, b)) : ∀ x, p x := fun x => h x.1 x.2
section
variable {r : Option Nat} {P : Program} {base : World} {n : Nat} {ds : List Deferred} {Q : Exit → Act → World → Prop} {env env' : Env} {l l' lc : List HP} {all : Array Oper} {ro : List Oper}
variable {z : Value} {dst : Option Tmp} {ty : TypeId} {pos : String} {af : Array Edge} {g : Option (Nat × Bool)}
theorem opq_ixAddr {t e : TypeId} {x y : Operand} {a : Option Addr} {E cap' len cap size bytes q : Nat} {k : IntKind} {i : Int} {z : Value} {cs : List Value} {r' : List HP} (hw : Want all ⟨dst, .indexAddr t x y, ty, pos, af, g⟩ env) (hx : ev env x = some (.slice a len cap)) (hy : ev env y = some (.int k i))
    [hu : UL P t (.slice e)] [hi : TI P e z size bytes] (hr : Rem lc (Vec E size a len cap' cs) r') (hq : AsNat i q) (h0 : 0 ≤ i ∧ i < len) :
    OpQ r P all ⟨dst, .indexAddr t x y, ty, pos, af, g⟩ n ds env lc (.pointer (some ⟨blkOf a, 0 + q * size, none⟩)) := fun base F ac w ha hs => by
  rcases hs.vec (hr.append F) with ⟨_, e, _⟩ | ⟨b, _, rfl, _⟩
  · omega
  · rw [← hq.out h0.1]; exact opq_indexAddr hw hx hy h0.1 h0.2 base F ac w ha hs
theorem opq_ixAddrE {t e : TypeId} {x y : Operand} {b len cap size bytes q : Nat} {k : IntKind} {i : Int} {z : Value} (hw : Want all ⟨dst, .indexAddr t x y, ty, pos, af, g⟩ env) (hx : ev env x = some (.slice (some ⟨b, 0, none⟩) len cap)) (hy : ev env y = some (.int k i))
    [hu : UL P t (.slice e)] [hi : TI P e z size bytes] (hq : AsNat i q) (h0 : 0 ≤ i ∧ i < len) :
    OpQ r P all ⟨dst, .indexAddr t x y, ty, pos, af, g⟩ n ds env lc (.pointer (some ⟨blkOf (some ⟨b, 0, none⟩), 0 + q * size, none⟩)) := by
  rw [← hq.out h0.1]; exact opq_indexAddr hw hx hy h0.1 h0.2
theorem opq_ixAddrS {t e : TypeId} {x y : Operand} {a : Option Addr} {cap' len cap size bytes q : Nat} {k : IntKind} {i : Int} {z : Value} {cs : List Value} {r' : List HP} (hw : Want all ⟨dst, .indexAddr t x y, ty, pos, af, g⟩ env) (hx : ev env x = some (.slice a len cap)) (hy : ev env y = some (.int k i))
    [hu : UL P t (.slice e)] [hi : TI P e z size bytes] (hr : Rem lc (RoS size a len cap' cs) r') (hq : AsNat i q) (h0 : 0 ≤ i ∧ i < len) :
    OpQ r P all ⟨dst, .indexAddr t x y, ty, pos, af, g⟩ n ds env lc (.pointer (some ⟨blkOf a, offOf a + q * size, none⟩)) := fun base F ac w ha hs => by
  obtain ⟨hp, hf, hl⟩ := hs.heap
  rcases (lst_roS ((hr.append F).out hl)).2 with ⟨_, e⟩ | ⟨b, o, rfl⟩
  · omega
  · rw [← hq.out h0.1]; exact opq_indexAddr hw hx hy h0.1 h0.2 base F ac w ha hs
/-! ### Comparisons -/
theorem opq_lss {t : TypeId} {x y : Operand} {yt : TypeId} {k : IntKind} {a b : Int} {q : Bool} (hw : Want all ⟨dst, .binOp .lss t x y yt, ty, pos, af, g⟩ env) (hx : ev env x = some (.int k a)) (hy : ev env y = some (.int k b)) (hq : decide (a < b) = q) : OpQ r P all ⟨dst, .binOp .lss t x y yt, ty, pos, af, g⟩ n ds env lc (.bool q) := opq_cmp_is hw rfl hx hy hq
theorem opq_leq {t : TypeId} {x y : Operand} {yt : TypeId} {k : IntKind} {a b : Int} {q : Bool} (hw : Want all ⟨dst, .binOp .leq t x y yt, ty, pos, af, g⟩ env) (hx : ev env x = some (.int k a)) (hy : ev env y = some (.int k b)) (hq : decide (a ≤ b) = q) : OpQ r P all ⟨dst, .binOp .leq t x y yt, ty, pos, af, g⟩ n ds env lc (.bool q) := opq_cmp_is hw rfl hx hy hq
theorem opq_gtr {t : TypeId} {x y : Operand} {yt : TypeId} {k : IntKind} {a b : Int} {q : Bool} (hw : Want all ⟨dst, .binOp .gtr t x y yt, ty, pos, af, g⟩ env) (hx : ev env x = some (.int k a)) (hy : ev env y = some (.int k b)) (hq : decide (b < a) = q) : OpQ r P all ⟨dst, .binOp .gtr t x y yt, ty, pos, af, g⟩ n ds env lc (.bool q) := opq_cmp_is hw rfl hx hy hq
theorem opq_geq {t : TypeId} {x y : Operand} {yt : TypeId} {k : IntKind} {a b : Int} {q : Bool} (hw : Want all ⟨dst, .binOp .geq t x y yt, ty, pos, af, g⟩ env) (hx : ev env x = some (.int k a)) (hy : ev env y = some (.int k b)) (hq : decide (b ≤ a) = q) : OpQ r P all ⟨dst, .binOp .geq t x y yt, ty, pos, af, g⟩ n ds env lc (.bool q) := opq_cmp_is hw rfl hx hy hq
theorem opq_eql {t : TypeId} {x y : Operand} {yt : TypeId} {k : IntKind} {a b : Int} {q : Bool} (hw : Want all ⟨dst, .binOp .eql t x y yt, ty, pos, af, g⟩ env) (hx : ev env x = some (.int k a)) (hy : ev env y = some (.int k b)) (hq : decide (a = b) = q) : OpQ r P all ⟨dst, .binOp .eql t x y yt, ty, pos, af, g⟩ n ds env lc (.bool q) := opq_cmp_is hw rfl hx hy (by rw [← hq]; rfl)
theorem opq_neq {t : TypeId} {x y : Operand} {yt : TypeId} {k : IntKind} {a b : Int} {q : Bool} (hw : Want all ⟨dst, .binOp .neq t x y yt, ty, pos, af, g⟩ env) (hx : ev env x = some (.int k a)) (hy : ev env y = some (.int k b)) (hq : decide (a ≠ b) = q) : OpQ r P all ⟨dst, .binOp .neq t x y yt, ty, pos, af, g⟩ n ds env lc (.bool q) := opq_cmp_is hw rfl hx hy (by rw [← hq]; simp only [cmpI, bne, ne_eq, decide_not]; rfl)
theorem opq_notD {t : TypeId} {x : Operand} {p : Prop} {_i : Decidable p} (hw : Want all ⟨dst, .unOp .not t x, ty, pos, af, g⟩ env) (hx : ev env x = some (.bool (decide p))) : OpQ r P all ⟨dst, .unOp .not t x, ty, pos, af, g⟩ n ds env lc (.bool (decide (¬ p))) := by
  rw [show decide (¬ p) = !decide p from decide_not]; exact opq_not hw hx
theorem tc_if {c : Operand} {x y : Code} {p : Prop} [Decidable p] (hc : ev env c = some (.bool (decide p))) (h : (p → TC r P base n ds x Q env l) ∧ (¬ p → TC r P base n ds y Q env l)) : TC r P base n ds (.cond c x y) Q env l :=
  tc_cond hc (fun e => h.1 (of_decide_eq_true e)) (fun e => h.2 (of_decide_eq_false e))
theorem tc_ifb {c : Operand} {x y : Code} {t : Bool} (hc : ev env c = some (.bool t)) (h : (t = true → TC r P base n ds x Q env l) ∧ (t = false → TC r P base n ds y Q env l)) : TC r P base n ds (.cond c x y) Q env l := tc_cond hc h.1 h.2
theorem tl_if {o : Oper} {d j : Nat} {u : Bool} {p : Prop} [Decidable p] {oj : Oper} (hg : o.guard = some (j, u)) (hj : all[j]? = some oj) (hdj : oj.dst = some d) (hd : look env d = some (.bool (decide p)))
    (h : (p → TL r P base n ds all (o :: ro) Q ((d, .bool true) :: env) l) ∧ (¬ p → TL r P base n ds all (o :: ro) Q ((d, .bool false) :: env) l)) : TL r P base n ds all (o :: ro) Q env l :=
  tl_gcase hg hj hdj hd (fun e => h.1 (of_decide_eq_true e)) (fun e => h.2 (of_decide_eq_false e))
theorem tl_ifb {o : Oper} {d j : Nat} {u t : Bool} {oj : Oper} (hg : o.guard = some (j, u)) (hj : all[j]? = some oj) (hdj : oj.dst = some d) (hd : look env d = some (.bool t))
    (h : (t = true → TL r P base n ds all (o :: ro) Q ((d, .bool true) :: env) l) ∧ (t = false → TL r P base n ds all (o :: ro) Q ((d, .bool false) :: env) l)) : TL r P base n ds all (o :: ro) Q env l :=
  tl_gcase hg hj hdj hd h.1 h.2
/-! ### Stores by index -/
theorem opn_storeIx {t : TypeId} {x y : Operand} {a : Option Addr} {i j E sz k cap size bytes m : Nat} {cs cs' vs : List Value} {v : Value} {r' : List HP} (hw : Want all ⟨dst, .store t x y, ty, pos, af, g⟩ env) (hx : ev env x = some (.pointer (some ⟨blkOf a, 0 + i * sz + j, none⟩))) (hy : ev env y = some v) (hv : IsCells v vs) [hsz : TI P t z size bytes] (hvs : vs.length = size)
    (hm : Rem l (Vec E sz a k cap cs) r') (hc : SetC cs i j vs sz m cs') (hi : i < m ∧ 0 < k) (hr : Rep (Vec E sz a k cap cs) (Vec E sz a k cap cs') l l') : OpN r P all ⟨dst, .store t x y, ty, pos, af, g⟩ n ds env l (fun _ : Unit => undef) (fun _ => l') := fun base ac w ha hs => by
  rcases hs.vec hm with ⟨_, e, _⟩ | ⟨b, _, rfl, _⟩
  · omega
  · exact opn_storeVec' hw hx hy hv hvs hr (by rw [Nat.zero_add]; exact (hc.out hi.1).2) (by rw [Nat.zero_add]; exact (hc.out hi.1).1) base ac w ha hs
theorem opn_storeIx0 {t : TypeId} {x y : Operand} {a : Option Addr} {i E sz k cap size bytes m : Nat} {cs cs' vs : List Value} {v : Value} {r' : List HP} (hw : Want all ⟨dst, .store t x y, ty, pos, af, g⟩ env) (hx : ev env x = some (.pointer (some ⟨blkOf a, 0 + i * sz, none⟩))) (hy : ev env y = some v) (hv : IsCells v vs) [hsz : TI P t z size bytes] (hvs : vs.length = size)
    (hm : Rem l (Vec E sz a k cap cs) r') (hc : SetC cs i 0 vs sz m cs') (hi : i < m ∧ 0 < k) (hr : Rep (Vec E sz a k cap cs) (Vec E sz a k cap cs') l l') : OpN r P all ⟨dst, .store t x y, ty, pos, af, g⟩ n ds env l (fun _ : Unit => undef) (fun _ => l') := fun base ac w ha hs => by
  rcases hs.vec hm with ⟨_, e, _⟩ | ⟨b, _, rfl, _⟩
  · omega
  · exact opn_storeVec' hw hx hy hv hvs hr (by rw [Nat.zero_add]; exact (hc.out hi.1).2) (by rw [Nat.zero_add]; exact (hc.out hi.1).1) base ac w ha hs
/-! ### Calls -/
class Known (P : Program) (f : FuncId) (S : outParam Prop) : Prop where
  out : S
inductive PickS : List HP → List HP → List HP → Prop
  | nil (l : List HP) : PickS l [] l
  | fact {l p r : List HP} {q : Prop} (h : PickS l p r) (hq : q) : PickS l (fact q :: p) r
  | keep {l l' p r : List HP} {x : HP} (h : Rem l x l') (hx : Pers x) (h' : PickS l p r) : PickS l (x :: p) r
  | cons {l l' p r : List HP} {x : HP} (h : Rem l x l') (h' : PickS l' p r) : PickS l (x :: p) r
  | ro0 {l p r : List HP} {sz : Nat} (h' : PickS l p r) : PickS l (RoS sz none 0 0 [] :: p) r
theorem PickS.out {l p r : List HP} (h : PickS l p r) : ∀ {hp : Hp}, lst l hp → lst (p ++ r) hp := by
  induction h with
  | nil => exact fun h => h
  | fact _ hq ih => exact fun h => lst_fact_mk hq (ih h)
  | keep hr hx _ ih => exact fun h => lst_cons_mono (fun _ h => h) (fun _ h => ih h) (hr.keep h)
  | cons hr _ ih => exact fun h => lst_cons_mono (fun _ h => h) (fun _ h => ih h) (hr.out h)
  | ro0 _ ih => exact fun h => lst_roS_nil (ih h)
theorem SpecH.pre {α : Type} {P : Program} {f : FuncId} {args : Array Value} {pre l rest : List HP} {val : α → Value} {post : α → List HP} (h : SpecH P f args pre val post) (hp : PickS l pre rest) : SpecH P f args l val (fun x => post x ++ rest) := fun base F w hw => by
  have h1 : St base (pre ++ [lst (rest ++ [F])]) w := by
    refine hw.ent fun y hy => ?_
    obtain ⟨a, b, hd, rfl, ha, hb⟩ := lst_unflat hy
    have h2 : lst (lst (pre ++ rest) :: [F]) (joinH a b) := ⟨a, b, hd, rfl, hp.out ha, hb⟩
    have h3 := lst_flat h2
    rw [List.append_assoc] at h3
    exact ent_fold _ _ _ h3
  refine CallsIn.mono (h base _ w h1) ?_
  rintro e w' ⟨x, rfl, hw'⟩
  exact ⟨x, rfl, by rw [List.append_assoc]; exact hw'.ent (ent_unfold _ _)⟩
end
end Go.Sl

/- More steps: slices that grow, slices of slices, drawn regions. For whatever program. -/
namespace Go.Sl
/-! ### Values of one cell -/
class PlV (v : Value) : Prop where
  out : plain v = true
class PlC (cs : List Value) : Prop where
  out : ∀ v ∈ cs, plain v = true
instance (k : IntKind) (i : Int) : PlV (.int k i) := ⟨rfl⟩
instance (b : Bool) : PlV (.bool b) := ⟨rfl⟩
instance (a : Option Addr) : PlV (.pointer a) := ⟨rfl⟩
instance (a : Option Addr) (k c : Nat) : PlV (.slice a k c) := ⟨rfl⟩
instance (b : ByteArray) : PlV (.string b) := ⟨rfl⟩
instance (m : Option Nat) : PlV (.map m) := ⟨rfl⟩
instance : PlC [] := ⟨fun v h => by cases h⟩
instance (v : Value) (cs : List Value) [h : PlV v] [k : PlC cs] : PlC (v :: cs) := ⟨fun u hu => by
  rcases List.mem_cons.1 hu with e | e
  · rw [e]; exact h.out
  · exact k.out u e⟩
instance (a b : List Value) [h : PlC a] [k : PlC b] : PlC (a ++ b) := ⟨fun u hu => (List.mem_append.1 hu).elim (h.out u) (k.out u)⟩
instance (a : List Value) (i : Nat) [h : PlC a] : PlC (a.take i) := ⟨fun u hu => h.out u (List.mem_of_mem_take hu)⟩
instance (a : List Value) (i : Nat) [h : PlC a] : PlC (a.drop i) := ⟨fun u hu => h.out u (List.mem_of_mem_drop hu)⟩
instance {α : Type} (f : α → List Value) (l : List α) [h : ∀ a, PlC (f a)] : PlC (cellsOf f l) := ⟨fun u hu => by
  obtain ⟨a, _, h2⟩ := List.mem_flatMap.1 hu
  exact (h a).out u h2⟩
instance (f : Nat → List Value) (k : Nat) [h : ∀ a, PlC (f a)] : PlC (rows k f) := ⟨fun u hu => by
  obtain ⟨a, _, h2⟩ := List.mem_flatMap.1 hu
  exact (h a).out u h2⟩
instance idx_rows {sz : Nat} (f : Nat → List Value) (k : Nat) [h : Width f sz] : Idx (rows k f) sz k f := ⟨fun i hi => ⟨h.out i, fun j v hj => by
  have hj' : j < sz := by rw [← h.out i]; exact (List.getElem?_eq_some_iff.1 hj).1
  rw [rows_get h.out hj' hi]; exact hj⟩⟩
section
variable {r : Option Nat} {P : Program} {base : World} {n : Nat} {ds : List Deferred} {Q : Exit → Act → World → Prop} {env env' : Env} {l l' lc r1 r2 : List HP} {all : Array Oper} {ro : List Oper}
variable {z : Value} {dst : Option Tmp} {ty : TypeId} {pos : String} {af : Array Edge} {g : Option (Nat × Bool)} {o : Oper}
theorem opn_src {α : Type} {E sz : Nat} {a : Option Addr} {m cap : Nat} {cs : List Value} {val : α → Value} {post : α → List HP} (hr : Rem l (Vec E sz a m cap cs) r1) (h : Src l sz a m cs → OpN r P all o n ds env l val post) : OpN r P all o n ds env l val post := fun base ac w ha hw => by
  rcases hw.vec hr with ⟨h0, h1, h2, h3⟩ | ⟨b, _, h1, _, h2, _⟩
  · subst h0; subst h1; subst h3; exact h .nil base ac w ha hw
  · subst h1; exact h (.lies (rd_vec hr) h2) base ac w ha hw
theorem opn_srcS {α : Type} {sz : Nat} {a : Option Addr} {m cap : Nat} {cs : List Value} {val : α → Value} {post : α → List HP} (hr : Rem l (RoS sz a m cap cs) r1) (h : Src l sz a m cs → OpN r P all o n ds env l val post) : OpN r P all o n ds env l val post := fun base ac w ha hw => by
  obtain ⟨_, _, hl⟩ := hw.heap
  obtain ⟨p, q, _, _, hp, _⟩ := hr.out hl
  rcases hp with ⟨rfl, rfl, rfl, _⟩ | ⟨b, o, c, T, fr, rfl, h1, h2, _⟩
  · cases a with
    | none => exact h .nil base ac w ha hw
    | some ad => exact h (.zero ad) base ac w ha hw
  · exact h (.lies (rd_roS hr) h2) base ac w ha hw
section
variable {t e : TypeId} {x y : Operand} {a a2 : Option Addr} {k cap m c2 size bytes E2 : Nat} {cs cs2 zs : List Value}
theorem opn_appVV (hw : Want all ⟨dst, .call ⟨.builtin .append, #[x, y], #[t, t]⟩, ty, pos, af, g⟩ env)
    (hx : ev env x = some (.slice a k cap)) (hy : ev env y = some (.slice a2 m c2)) [hu : UL P t (.slice e)] [hi : TI P e z size bytes] (hr : Rem l (Vec e size a k cap cs) r1) (hs : Rem l (Vec E2 size a2 m c2 cs2) r2) (hp : PlC cs2)
    (hz : IsCells z zs) (hlz : zs.length = size) (hb : (k + m) * bytes ≤ 140737488355328) (hk : k + m ≤ 9223372036854775807) :
    OpN r P all ⟨dst, .call ⟨.builtin .append, #[x, y], #[t, t]⟩, ty, pos, af, g⟩ n ds env l (fun q : Option Addr × Nat => .slice q.1 (k + m) q.2) (fun q => Vec e size q.1 (k + m) q.2 (cs ++ cs2) :: r1) :=
  opn_src hs fun hsrc => opn_append hw hx hy hr hsrc hp.out hz hlz hb hk
theorem opn_appVS (hw : Want all ⟨dst, .call ⟨.builtin .append, #[x, y], #[t, t]⟩, ty, pos, af, g⟩ env)
    (hx : ev env x = some (.slice a k cap)) (hy : ev env y = some (.slice a2 m c2)) [hu : UL P t (.slice e)] [hi : TI P e z size bytes] (hr : Rem l (Vec e size a k cap cs) r1) (hs : Rem l (RoS size a2 m c2 cs2) r2) (hp : PlC cs2)
    (hz : IsCells z zs) (hlz : zs.length = size) (hb : (k + m) * bytes ≤ 140737488355328) (hk : k + m ≤ 9223372036854775807) :
    OpN r P all ⟨dst, .call ⟨.builtin .append, #[x, y], #[t, t]⟩, ty, pos, af, g⟩ n ds env l (fun q : Option Addr × Nat => .slice q.1 (k + m) q.2) (fun q => Vec e size q.1 (k + m) q.2 (cs ++ cs2) :: r1) :=
  opn_srcS hs fun hsrc => opn_append hw hx hy hr hsrc hp.out hz hlz hb hk
theorem opn_appNV (hw : Want all ⟨dst, .call ⟨.builtin .append, #[x, y], #[t, t]⟩, ty, pos, af, g⟩ env)
    (hx : ev env x = some (.slice none 0 0)) (hy : ev env y = some (.slice a2 m c2)) [hu : UL P t (.slice e)] [hi : TI P e z size bytes] (hs : Rem l (Vec E2 size a2 m c2 cs2) r2) (hp : PlC cs2)
    (hz : IsCells z zs) (hlz : zs.length = size) (hb : m * bytes ≤ 140737488355328) (hk : m ≤ 9223372036854775807) :
    OpN r P all ⟨dst, .call ⟨.builtin .append, #[x, y], #[t, t]⟩, ty, pos, af, g⟩ n ds env l (fun q : Option Addr × Nat => .slice q.1 m q.2) (fun q => Vec e size q.1 m q.2 cs2 :: l) :=
  opn_src hs fun hsrc => opn_appendN hw hx hy hsrc hp.out hz hlz hb hk
theorem opn_appNS (hw : Want all ⟨dst, .call ⟨.builtin .append, #[x, y], #[t, t]⟩, ty, pos, af, g⟩ env)
    (hx : ev env x = some (.slice none 0 0)) (hy : ev env y = some (.slice a2 m c2)) [hu : UL P t (.slice e)] [hi : TI P e z size bytes] (hs : Rem l (RoS size a2 m c2 cs2) r2) (hp : PlC cs2)
    (hz : IsCells z zs) (hlz : zs.length = size) (hb : m * bytes ≤ 140737488355328) (hk : m ≤ 9223372036854775807) :
    OpN r P all ⟨dst, .call ⟨.builtin .append, #[x, y], #[t, t]⟩, ty, pos, af, g⟩ n ds env l (fun q : Option Addr × Nat => .slice q.1 m q.2) (fun q => Vec e size q.1 m q.2 cs2 :: l) :=
  opn_srcS hs fun hsrc => opn_appendN hw hx hy hsrc hp.out hz hlz hb hk
end
section
variable {t e : TypeId} {x y : Operand} {a a2 : Option Addr} {k cap m m0 c2 c0 i size bytes : Nat} {cs cs2 zs : List Value}
theorem opn_appVT (hw : Want all ⟨dst, .call ⟨.builtin .append, #[x, y], #[t, t]⟩, ty, pos, af, g⟩ env)
    (hx : ev env x = some (.slice a k cap)) (hy : ev env y = some (.slice a2 m c2)) [hu : UL P t (.slice e)] [hi : TI P e z size bytes] (hr : Rem l (Vec e size a k cap cs) r1) (hs : Rem l (RoS size a2 m0 c0 cs2) r2) (hp : PlC cs2)
    (hz : IsCells z zs) (hlz : zs.length = size) (hm : m ≤ m0) (hb : (k + m) * bytes ≤ 140737488355328) (hk : k + m ≤ 9223372036854775807) :
    OpN r P all ⟨dst, .call ⟨.builtin .append, #[x, y], #[t, t]⟩, ty, pos, af, g⟩ n ds env l (fun q : Option Addr × Nat => .slice q.1 (k + m) q.2) (fun q => Vec e size q.1 (k + m) q.2 (cs ++ cs2.take (m * size)) :: r1) :=
  opn_srcS hs fun hsrc => opn_append hw hx hy hr (hsrc.take m hm) (PlC.out (cs := cs2.take (m * size))) hz hlz hb hk
theorem opn_appNT (hw : Want all ⟨dst, .call ⟨.builtin .append, #[x, y], #[t, t]⟩, ty, pos, af, g⟩ env)
    (hx : ev env x = some (.slice none 0 0)) (hy : ev env y = some (.slice a2 m c2)) [hu : UL P t (.slice e)] [hi : TI P e z size bytes] (hs : Rem l (RoS size a2 m0 c0 cs2) r2) (hp : PlC cs2)
    (hz : IsCells z zs) (hlz : zs.length = size) (hm : m ≤ m0) (hb : m * bytes ≤ 140737488355328) (hk : m ≤ 9223372036854775807) :
    OpN r P all ⟨dst, .call ⟨.builtin .append, #[x, y], #[t, t]⟩, ty, pos, af, g⟩ n ds env l (fun q : Option Addr × Nat => .slice q.1 m q.2) (fun q => Vec e size q.1 m q.2 (cs2.take (m * size)) :: l) :=
  opn_srcS hs fun hsrc => opn_appendN hw hx hy (hsrc.take m hm) (PlC.out (cs := cs2.take (m * size))) hz hlz hb hk
theorem opn_srcD {α : Type} {sz : Nat} {val : α → Value} {post : α → List HP} (hr : Rem l (RoS sz a m cap cs) r1) (hi : i ≤ m) (h : Src l sz (slA a cap i sz) (m - i) (cs.drop (i * sz)) → OpN r P all o n ds env l val post) : OpN r P all o n ds env l val post := fun base ac w ha hw => by
  obtain ⟨hp, hf, hl⟩ := hw.heap
  have hc := (lst_roS (hr.out hl)).1.2
  exact opn_srcS hr (fun hsrc => h (hsrc.drop i hi hc)) base ac w ha hw
theorem opn_appVD (hw : Want all ⟨dst, .call ⟨.builtin .append, #[x, y], #[t, t]⟩, ty, pos, af, g⟩ env)
    (hx : ev env x = some (.slice a k cap)) (hy : ev env y = some (.slice (slA a2 c0 i size) (m0 - i) c2)) [hu : UL P t (.slice e)] [hi : TI P e z size bytes] (hr : Rem l (Vec e size a k cap cs) r1) (hs : Rem l (RoS size a2 m0 c0 cs2) r2) (hp : PlC cs2)
    (hz : IsCells z zs) (hlz : zs.length = size) (hm : i ≤ m0) (hb : (k + (m0 - i)) * bytes ≤ 140737488355328) (hk : k + (m0 - i) ≤ 9223372036854775807) :
    OpN r P all ⟨dst, .call ⟨.builtin .append, #[x, y], #[t, t]⟩, ty, pos, af, g⟩ n ds env l (fun q : Option Addr × Nat => .slice q.1 (k + (m0 - i)) q.2) (fun q => Vec e size q.1 (k + (m0 - i)) q.2 (cs ++ cs2.drop (i * size)) :: r1) :=
  opn_srcD hs hm fun hsrc => opn_append hw hx hy hr hsrc (PlC.out (cs := cs2.drop (i * size))) hz hlz hb hk
theorem opq_slLo {k : IntKind} {xi : Int} {i : Nat} (hw : Want all ⟨dst, .slice t x (some y) none none, ty, pos, af, g⟩ env) (hx : ev env x = some (.slice a m cap)) (hy : ev env y = some (.int k xi)) [hu : UL P t (.slice e)] [hti : TI P e z size bytes] (hi : AsNat xi i) (h0 : 0 ≤ xi ∧ xi ≤ m) :
    OpQ r P all ⟨dst, .slice t x (some y) none none, ty, pos, af, g⟩ n ds env lc (.slice (slA a cap i size) (m - i) (cap - i)) := by
  rw [← hi.out h0.1]; exact opq_sliceLo hw hx hy h0.1 h0.2
theorem opq_slHi {k : IntKind} {xj : Int} {j : Nat} (hw : Want all ⟨dst, .slice t x none (some y) none, ty, pos, af, g⟩ env) (hx : ev env x = some (.slice a m cap)) (hy : ev env y = some (.int k xj)) [hu : UL P t (.slice e)] [hti : TI P e z size bytes] (hr : Rem lc (RoS size a m cap cs) r1) (hj : AsNat xj j) (h0 : 0 ≤ xj ∧ xj ≤ m) :
    OpQ r P all ⟨dst, .slice t x none (some y) none, ty, pos, af, g⟩ n ds env lc (.slice a j cap) := fun base F ac w ha hs => by
  have h1 := hj.out h0.1
  obtain ⟨hp, _, hl⟩ := hs.heap
  obtain ⟨⟨_, hmc⟩, hd⟩ := lst_roS ((hr.append F).out hl)
  have hz : slA a cap 0 size = a := slA_zero (by
    rcases hd with ⟨e, _⟩ | ⟨b, o, rfl⟩
    · intro _; omega
    · intro _ _ h; cases h; rfl)
  have := opq_sliceHi (r := r) (P := P) (n := n) (ds := ds) (lc := lc) hw hx hy h0.1 (by omega) base F ac w ha hs
  rw [h1, hz] at this; exact this
end
theorem opn_make {t e : TypeId} {x x' : Operand} {kx kx' : IntKind} {i i' : Int} {k : Nat} {z : Value} {size bytes : Nat} {zs : List Value} (hw : Want all ⟨dst, .makeSlice t x x', ty, pos, af, g⟩ env) (hx : ev env x = some (.int kx i)) (hx' : ev env x' = some (.int kx' i')) (hkk : kx' = kx) (hi' : i' = i) (hk : AsNat i k) [hu : UL P t (.slice e)] [hti : TI P e z size bytes] (hz : IsCells z zs) (hlz : zs.length = size) (h0 : 0 ≤ i) (hb : k * bytes ≤ 140737488355328) (hk' : k ≤ 9223372036854775807) (hsz : Nat.ble 1 size = true) :
    OpN r P all ⟨dst, .makeSlice t x x', ty, pos, af, g⟩ n ds env l (fun b : Nat => .slice (some ⟨b, 0, none⟩) k k) (fun b => Vec e size (some ⟨b, 0, none⟩) k k (rows k fun _ => zs) :: l) := by
  have h1 : i = k := by have := hk.out h0; omega
  subst hi'
  exact opn_makeSlice' (cs := rows k fun _ => zs) k hw hx hx' h1 h1 hkk hz hlz hb hk' hsz (rows_replicate zs k)
theorem roS_drop {sz : Nat} {a : Option Addr} {m cap : Nat} {cs : List Value} {h : Hp} (i : Nat) (hi : i ≤ m) (x : RoS sz a m cap cs h) : ∃ h', (∀ k y, h' k = some y → h k = some y) ∧ RoS sz (slA a cap i sz) (m - i) (cap - i) (cs.drop (i * sz)) h' := by
  rcases x with ⟨rfl, rfl, rfl, rfl⟩ | ⟨b, o, c, T, fr, rfl, h1, h2, h3, h4⟩
  · exact ⟨fun _ => none, fun _ _ h => h, .inl ⟨by omega, by omega, by simp, rfl⟩⟩
  · refine ⟨h, fun _ _ h => h, .inr ?_⟩
    by_cases hc : cap = i
    · refine ⟨b, o, c, T, fr, by simp [slA, hc], by omega, by rw [List.length_drop, h2, Nat.sub_mul], fun j v hj => ?_, h4⟩
      have : m = i := by omega
      subst this
      rw [List.drop_eq_nil_of_le (by omega)] at hj; cases hj
    · refine ⟨b, o + i * sz, c, T, fr, ?_, by omega, by rw [List.length_drop, h2, Nat.sub_mul], fun j v hj => ?_, h4⟩
      · simp only [slA, if_neg hc, Option.map_some]
        congr 1; unfold Addr.add; split
        · rename_i e; rw [e]; rfl
        · rfl
      · rw [List.getElem?_drop] at hj
        rw [Nat.add_assoc]; exact h3 _ v hj
theorem roS_take {sz : Nat} {a : Option Addr} {m cap : Nat} {cs : List Value} {h : Hp} (j : Nat) (hj : j ≤ m) (x : RoS sz a m cap cs h) : RoS sz a j cap (cs.take (j * sz)) h := by
  rcases x with ⟨rfl, rfl, rfl, rfl⟩ | ⟨b, o, c, T, fr, rfl, h1, h2, h3, h4⟩
  · exact .inl ⟨by omega, rfl, by simp, rfl⟩
  · refine .inr ⟨b, o, c, T, fr, rfl, by omega, ?_, fun q v hq => ?_, h4⟩
    · rw [List.length_take, h2]; exact Nat.min_eq_left (Nat.mul_le_mul_right _ hj)
    · rw [List.getElem?_take] at hq
      split at hq
      · exact h3 q v hq
      · cases hq
theorem lst_ro_add {p q : HP} [hp : Pers p] {l : List HP} (hpq : ∀ h, p h → ∃ h', (∀ k y, h' k = some y → h k = some y) ∧ q h') {h : Hp} (x : lst (p :: l) h) : lst (q :: p :: l) h := by
  obtain ⟨a, c, hd, rfl, ha, hc⟩ := x
  obtain ⟨a', h1, h2⟩ := hpq a ha
  refine ⟨a', joinH a c, fun k => ?_, ?_, h2, a, c, hd, rfl, ha, hc⟩
  · cases hk : a' k with
    | none => exact .inl rfl
    | some y =>
      obtain ⟨t, o⟩ := y
      have e := h1 k _ hk
      have ht : t = false := hp.out a ha k _ e
      subst ht
      exact .inr (.inr ⟨(joinH_left e).symm, o, rfl⟩)
  · funext k
    cases hk : a' k with
    | none => rw [joinH_none hk]
    | some y => rw [joinH_left hk, joinH_left (h1 k _ hk)]
section
variable {t e : TypeId} {x y y2 : Operand} {a : Option Addr} {m cap size bytes i j : Nat} {k k2 : IntKind} {xi xj : Int} {cs : List Value}
theorem St.roAdd {base : World} {w : World} {sz sz' : Nat} {a a' : Option Addr} {m m' cap cap' : Nat} {cs cs' : List Value} (hs : St base l w) (hr : Rem l (RoS sz a m cap cs) r1) (h : ∀ h, RoS sz a m cap cs h → ∃ h', (∀ k y, h' k = some y → h k = some y) ∧ RoS sz' a' m' cap' cs' h') : St base (RoS sz' a' m' cap' cs' :: l) w :=
  hs.ent fun _ z => lst_cons_mono (fun _ u => u) (fun _ u => hr.back u) (lst_ro_add h (hr.out z))
theorem opn_slLoS (hw : Want all ⟨dst, .slice t x (some y) none none, ty, pos, af, g⟩ env) (hx : ev env x = some (.slice a m cap)) (hy : ev env y = some (.int k xi)) [hu : UL P t (.slice e)] [hti : TI P e z size bytes] (hr : Rem l (RoS size a m cap cs) r1) (hi : AsNat xi i) (h0 : 0 ≤ xi ∧ xi ≤ m) :
    OpN r P all ⟨dst, .slice t x (some y) none none, ty, pos, af, g⟩ n ds env l (fun q : Option Addr × Nat => .slice q.1 (m - i) q.2) (fun q => RoS size q.1 (m - i) q.2 (cs.drop (i * size)) :: l) := fun base ac w ha hs => by
  have h1 := hi.out h0.1
  refine (opq_sliceLo (r := r) (P := P) (n := n) (ds := ds) (lc := l) hw hx hy h0.1 h0.2 base [] ac w ha (by simpa using hs)).mono r P ?_
  rintro u w' ⟨rfl, hs'⟩
  rw [h1]
  exact ⟨(slA a cap i size, cap - i), rfl, St.roAdd (by simpa using hs') hr fun _ => roS_drop i (by omega)⟩
theorem opn_slHiS (hw : Want all ⟨dst, .slice t x none (some y) none, ty, pos, af, g⟩ env) (hx : ev env x = some (.slice a m cap)) (hy : ev env y = some (.int k xj)) [hu : UL P t (.slice e)] [hti : TI P e z size bytes] (hr : Rem l (RoS size a m cap cs) r1) (hj : AsNat xj j) (h0 : 0 ≤ xj ∧ xj ≤ m) :
    OpN r P all ⟨dst, .slice t x none (some y) none, ty, pos, af, g⟩ n ds env l (fun q : Option Addr × Nat => .slice q.1 j q.2) (fun q => RoS size q.1 j q.2 (cs.take (j * size)) :: l) := fun base ac w ha hs => by
  have h1 := hj.out h0.1
  obtain ⟨hp, _, hl⟩ := hs.heap
  obtain ⟨⟨_, hmc⟩, hd⟩ := lst_roS (hr.out hl)
  have hz : slA a cap 0 size = a := slA_zero (by
    rcases hd with ⟨e, _⟩ | ⟨b, o, rfl⟩
    · intro _; omega
    · intro _ _ h; cases h; rfl)
  refine (opq_sliceHi (r := r) (P := P) (n := n) (ds := ds) (lc := l) hw hx hy h0.1 (by omega) base [] ac w ha (by simpa using hs)).mono r P ?_
  rintro u w' ⟨rfl, hs'⟩
  rw [h1, hz]
  exact ⟨(a, cap), rfl, St.roAdd (by simpa using hs') hr fun h y => ⟨h, fun _ _ h => h, roS_take j (by omega) y⟩⟩
theorem opn_slLHS (hw : Want all ⟨dst, .slice t x (some y) (some y2) none, ty, pos, af, g⟩ env) (hx : ev env x = some (.slice a m cap)) (hy : ev env y = some (.int k xi)) (hy2 : ev env y2 = some (.int k2 xj)) [hu : UL P t (.slice e)] [hti : TI P e z size bytes] (hr : Rem l (RoS size a m cap cs) r1) (hi : AsNat xi i) (hj : AsNat xj j) (h0 : 0 ≤ xi ∧ xi ≤ xj ∧ xj ≤ m) :
    OpN r P all ⟨dst, .slice t x (some y) (some y2) none, ty, pos, af, g⟩ n ds env l (fun q : Option Addr × Nat => .slice q.1 (j - i) q.2) (fun q => RoS size q.1 (j - i) q.2 ((cs.take (j * size)).drop (i * size)) :: l) := fun base ac w ha hs => by
  have h1 := hi.out h0.1
  have h2 := hj.out (by omega)
  obtain ⟨hp, _, hl⟩ := hs.heap
  obtain ⟨⟨_, hmc⟩, _⟩ := lst_roS (hr.out hl)
  refine (opq_sliceLH (r := r) (P := P) (n := n) (ds := ds) (lc := l) hw hx hy hy2 h0.1 h0.2.1 (by omega) base [] ac w ha (by simpa using hs)).mono r P ?_
  rintro u w' ⟨rfl, hs'⟩
  rw [h1, h2]
  refine ⟨(slA a cap i size, cap - i), rfl, St.roAdd (by simpa using hs') hr fun h y => ?_⟩
  exact roS_drop i (by omega) (roS_take j (by omega) y)
end
/-! ### Calls of functions that are known -/
theorem PickS.back {l p q : List HP} (h : PickS l p q) : ∀ {hp : Hp}, lst (p ++ q) hp → lst l hp := by
  induction h with
  | nil => exact fun h => h
  | fact _ _ ih => exact fun h => ih (lst_drop h)
  | keep _ _ _ ih => exact fun h => ih (lst_drop h)
  | cons hr _ ih => exact fun h => hr.back (lst_cons_mono (fun _ h => h) (fun _ h => ih h) h)
  | ro0 _ ih => exact fun h => ih (lst_drop h)
theorem PickS.append {l p q : List HP} (h : PickS l p q) (F : List HP) : PickS (l ++ F) p (q ++ F) := by
  induction h with
  | nil l => exact .nil _
  | fact _ hq ih => exact .fact ih hq
  | keep hr hx _ ih => exact .keep (hr.append F) hx ih
  | cons hr _ ih => exact .cons (hr.append F) ih
  | ro0 _ ih => exact .ro0 ih
inductive PickF : List HP → List HP → List HP → Prop
  | nil (l : List HP) : PickF l [] l
  | keep {l l' p r : List HP} {x : HP} (h : Rem l x l') (hx : Pers x) (h' : PickF l p r) : PickF l (x :: p) r
  | cons {l l' p r : List HP} {x : HP} (h : Rem l x l') (h' : PickF l' p r) : PickF l (x :: p) r
  | frz {l l' p r : List HP} {E sz : Nat} {a : Option Addr} {m c : Nat} {cs : List Value} (h : Rem l (Vec E sz a m c cs) l') (h' : PickF l' p r) : PickF l (RoS sz a m c cs :: p) r
  | ro0 {l p r : List HP} {sz : Nat} (h' : PickF l p r) : PickF l (RoS sz none 0 0 [] :: p) r
theorem PickF.out {l p r : List HP} (h : PickF l p r) : ∀ {base : World} {w : World} (F : List HP), St base (l ++ F) w → St base (p ++ (r ++ F)) w := by
  induction h with
  | nil => exact fun _ h => h
  | @keep l l' p r x hr hx _ ih =>
    intro base w F hs
    have h1 := ih (x :: F) ((hs.ent fun _ y => (hr.append F).keep y).ent fun _ y => by
      obtain ⟨a, b, hd, e, ha, hb⟩ := y
      have h2 := lst_unflat (xs := l) (l := F) hb
      have h3 : lst (x :: lst l :: F) _ := ⟨a, b, hd, e, ha, h2⟩
      have h4 := lst_swap h3
      exact lst_flat h4)
    refine h1.ent fun _ y => ?_
    have y1 := lst_unflat (xs := p ++ r) (l := x :: F) (by rw [List.append_assoc]; exact y)
    have y2 := lst_swap y1
    have y3 := lst_cons_mono (fun _ z => z) (fun _ z => lst_flat z) y2
    show lst (x :: (p ++ (r ++ F))) _
    rw [← List.append_assoc]; exact y3
  | @cons l l' p r x hr _ ih =>
    intro base w F hs
    have h1 := ih (x :: F) ((hs.ent fun _ y => (hr.append F).out y).ent fun _ y => by
      have h2 := lst_cons_mono (fun _ z => z) (fun _ z => lst_unflat (xs := l') (l := F) z) y
      exact lst_flat (lst_swap h2))
    refine h1.ent fun _ y => ?_
    have y1 := lst_unflat (xs := p ++ r) (l := x :: F) (by rw [List.append_assoc]; exact y)
    have y3 := lst_cons_mono (fun _ z => z) (fun _ z => lst_flat z) (lst_swap y1)
    show lst (x :: (p ++ (r ++ F))) _
    rw [← List.append_assoc]; exact y3
  | @frz l l' p r E sz a m c cs hr _ ih =>
    intro base w F hs
    have h0 := hs.freeze (hr.append F)
    have h1 := ih (RoS sz a m c cs :: F) (h0.ent fun _ y => by
      have h2 := lst_cons_mono (fun _ z => z) (fun _ z => lst_unflat (xs := l') (l := F) z) y
      exact lst_flat (lst_swap h2))
    refine h1.ent fun _ y => ?_
    have y1 := lst_unflat (xs := p ++ r) (l := RoS sz a m c cs :: F) (by rw [List.append_assoc]; exact y)
    have y3 := lst_cons_mono (fun _ z => z) (fun _ z => lst_flat z) (lst_swap y1)
    show lst (RoS sz a m c cs :: (p ++ (r ++ F))) _
    rw [← List.append_assoc]; exact y3
  | ro0 _ ih => exact fun F hs => (ih F hs).ent fun _ y => lst_roS_nil y
theorem SpecH.preF {α : Type} {P : Program} {f : FuncId} {args : Array Value} {pre l rest : List HP} {val : α → Value} {post : α → List HP} (h : SpecH P f args pre val post) (hp : PickF l pre rest) : SpecH P f args l val (fun x => post x ++ rest) := fun base F w hw => by
  have h1 : St base (pre ++ [lst (rest ++ [F])]) w := (hp.out [F] hw).ent fun _ y => ent_fold _ _ _ y
  refine CallsIn.mono (h base _ w h1) ?_
  rintro e w' ⟨x, rfl, hw'⟩
  exact ⟨x, rfl, by rw [List.append_assoc]; exact hw'.ent (ent_unfold _ _)⟩
theorem opn_callK {α : Type} {f : FuncId} {S : Prop} {xs : List Operand} {ats : Array TypeId} {vs : List Value} {pre rest : List HP} {val : α → Value} {post : α → List HP} [CF P f] [k : Known P f S]
    (hw : Want all ⟨dst, .call ⟨.value (.func f), xs.toArray, ats⟩, ty, pos, af, g⟩ env) (hxs : Evs env xs vs) (hs : S → SpecH P f vs.toArray pre val post) (hp : PickF l pre rest) :
    OpN r P all ⟨dst, .call ⟨.value (.func f), xs.toArray, ats⟩, ty, pos, af, g⟩ n ds env l val (fun x => post x ++ rest) :=
  (opn_call hw hxs ((hs k.out).preF hp) (Pick.whole l)).ent fun x => by rw [List.append_nil]; exact Ent.refl _
theorem opn_callH {α : Type} {f : FuncId} {xs : List Operand} {ats : Array TypeId} {vs : List Value} {pre rest : List HP} {val : α → Value} {post : α → List HP} [CF P f] (hs : SpecH P f vs.toArray pre val post)
    (hw : Want all ⟨dst, .call ⟨.value (.func f), xs.toArray, ats⟩, ty, pos, af, g⟩ env) (hxs : Evs env xs vs) (hp : PickF l pre rest) :
    OpN r P all ⟨dst, .call ⟨.value (.func f), xs.toArray, ats⟩, ty, pos, af, g⟩ n ds env l val (fun x => post x ++ rest) :=
  (opn_call hw hxs (hs.preF hp) (Pick.whole l)).ent fun x => by rw [List.append_nil]; exact Ent.refl _
theorem opq_callK {f : FuncId} {S : Prop} {xs : List Operand} {ats : Array TypeId} {vs : List Value} {pre rest : List HP} {v : Value} [CF P f] [k : Known P f S]
    (hw : Want all ⟨dst, .call ⟨.value (.func f), xs.toArray, ats⟩, ty, pos, af, g⟩ env) (hxs : Evs env xs vs) (hs : S → SpecH P f vs.toArray pre (fun _ : Unit => v) (fun _ => pre)) (hp : PickS lc pre rest) :
    OpQ r P all ⟨dst, .call ⟨.value (.func f), xs.toArray, ats⟩, ty, pos, af, g⟩ n ds env lc v := fun base F a w ha hst =>
  (((opn_call hw hxs ((hs k.out).pre (hp.append F)) (Pick.whole _)).ent (fun x => by rw [List.append_nil]; exact Ent.refl _)) base a w ha hst).mono r P fun _ _ ⟨_, h1, h2⟩ => ⟨h1, h2.ent fun _ y => (hp.append F).back y⟩
theorem tl_m {α : Type} {d : Nat} {val : α → Value} {post : α → List HP} (hd : o.dst = some d) (hn : d < n) (hq : OpN r P all o n ds env l val post) {R : Prop}
    (hR : R → ∀ x, TL r P base n ds all ro Q ((d, val x) :: env) (post x)) (h : R) : TL r P base n ds all (o :: ro) Q env l := tl_n hq hd hn (hR h)
theorem tl_m0 {α : Type} {val : α → Value} {post : α → List HP} (hd : o.dst = none) (hq : OpN r P all o n ds env l val post) {R : Prop}
    (hR : R → ∀ x, TL r P base n ds all ro Q env (post x)) (h : R) : TL r P base n ds all (o :: ro) Q env l := tl_n0 hq hd (hR h)
/-! ### Drawn regions -/
def quietOp (o : Oper) : Bool := match o.op with
  | .store .. | .alloc .. | .box .. | .makeSlice .. | .buildSlice .. | .makeMap .. | .mapUpdate .. => false
  | .call ⟨.builtin b, _, _⟩ => match b with | .len | .cap | .min | .max => true | _ => false
  | _ => true
theorem tc_quietB {id : Nat} {ops : Array Oper} (hx : (Region.lexB .any ops && ops.all quietOp) = true) (hB : drawB P ops n = true) (h : TQ r P n ds ops l ops.toList env (fun env' => TK base n ds (Q .normal) env' l)) : TC r P base n ds (.region id ops true) Q env l := by
  simp only [Bool.and_eq_true] at hx
  exact tc_quiet hB hx.1 h
theorem wa_hv {α : Type} {ops : Array Oper} {F : List HP} {val : α → Value} {post : α → List HP} {F' : α → List HP} {listed : Array Bool} (i : Nat) {fuel : Nat} (hi : ops[i]? = some o) (hr : Region.ready .any ops listed = [i])
    (hq : OpN r P ops o n ds env (lc ++ F) val post) (hp : ∀ x, Pick (post x) lc (F' x)) (h : ∀ x, WA r P base n ds ops Q lc fuel (listed.setIfInBounds i true) (putE o.dst (val x) env) (F' x)) : WA r P base n ds ops Q lc (fuel + 1) listed env F :=
  wa_one (post := F') hi hr rfl (hq.ent fun x _ y => (hp x).out y) h
theorem dr {id : Nat} {ops : Array Oper} (lc : List HP) {F : List HP} (h : WA r P base n ds ops Q lc ops.size (Array.replicate ops.size false) env F) (hp : Pick l lc F := by (repeat (first | (with_reducible exact Pick.nil _) | (apply Pick.cons; (focus ((repeat (first | (with_reducible exact Rem.here _ _) | (with_reducible apply Rem.there) | fail)); done))) | fail)); done) (hB : drawB P ops n = true := by kernel_rfl) : TC r P base n ds (.region id ops true) Q env l := tc_draw lc F hB (fun _ y => hp.out y) h
end
end Go.Sl

/- One step of a walk at a time, found by itself: the step. For whatever program. -/
namespace Go.Sl
section
variable {r : Option Nat} {P : Program} {base : World} {n : Nat} {ds : List Deferred} {Q : Exit → Act → World → Prop} {env env' : Env} {l l' lc : List HP} {all : Array Oper} {ro : List Oper} {o : Oper}
theorem tl_fact {p : Prop} (h : p → TL r P base n ds all ro Q env l) : TL r P base n ds all ro Q env (fact p :: l) := TK.fact h
theorem tq_nilN {K : Env → Prop} {R : Prop} (hR : R → K env) (h : R) : TQ r P n ds all l [] env K := tq_nil (hR h)
theorem wa_doneN {ops : Array Oper} {F : List HP} {listed : Array Bool} {fuel : Nat} (hr : Region.ready .any ops listed = []) {R : Prop} (hR : R → TK base n ds (Q .normal) env (lc ++ F)) (h : R) : WA r P base n ds ops Q lc fuel listed env F := wa_done hr (hR h)
def notDefer : Op → Bool
  | .defer _ => false
  | _ => true
theorem tq_skip {j dj d : Nat} {u t : Bool} {oj : Oper} {K : Env → Prop} (hg : o.guard = some (j, u)) (hj : all[j]? = some oj) (hdj : oj.dst = some dj) (hv : look env dj = some (.bool t)) (hu : (t == u) = false) (hdf : notDefer o.op = true) (hd : o.dst = some d)
    (h : TQ r P n ds all lc ro ((d, undef) :: env) K) : TQ r P n ds all lc (o :: ro) env K := by
  refine tq_cons (v := undef) (fun base F a w ha hs => ?_) hd h
  have hm : dj ∈ o.looksAt all := by
    unfold Oper.looksAt
    rw [hg]
    exact List.mem_append_right _ (by simp [hj, hdj])
  have hw : Region.wanted o (yielded all a.tmps) = false := wanted_of hg hj hdj (ha.val _ hm _ hv) ▸ hu
  refine ⟨fun c e => ?_, ?_⟩
  · rw [e] at hdf; cases hdf
  · rw [if_neg (by simp [hw])]
    exact ⟨rfl, hs⟩
theorem stC {g q : Prop} (h : q → g := by
  show _ → TC _ _ _ _ _ _ _ _ _
  first
  | exact tc_seq
  | exact tc_region
  | exact tc_ret
  | exact tc_block
  | exact tc_exit
  | exact tc_skip
  | exact tc_cond_t (t := true) rfl rfl
  | exact tc_cond_f (t := false) rfl rfl
  | exact tc_if rfl
  | ((fail_if_success (first | exact tc_ifb (t := true) rfl | exact tc_ifb (t := false) rfl)); exact tc_ifb rfl)
  | (apply tc_still; (focus (decide +kernel)))
  | (apply tc_quietB; (focus (decide +kernel)); (focus (kernel_rfl)))
  | fail) : q → g := h
theorem stK {g q : Prop} (h : q → g := by
  show _ → TK _ _ _ _ _ _
  first
  | exact tk_then_n
  | exact tk_nx
  | exact tk_then_r
  | exact tk_then_x
  | exact tk_blk_n
  | exact tk_blk_r
  | exact tk_blk_x
  | exact tk_blk_y rfl
  | exact TK.fact
  | fail) : q → g := h
theorem stL {g q : Prop} (h : q → g := by
  show _ → TL _ _ _ _ _ _ _ _ _ _
  first
  | exact tl_nil
  | exact tl_fact
  | exact tl_skip rfl rfl rfl rfl rfl rfl (Nat.lt_of_ble_eq rfl)
  | (apply tl_q; (focus (first | (apply opq_move; (focus ((first | exact want_none rfl | exact want_yes rfl rfl rfl rfl rfl | fail))); exact rfl) | (apply opq_assign; (focus ((first | exact want_none rfl | exact want_yes rfl rfl rfl rfl rfl | fail))); exact rfl) | (apply opq_nilCheck; (focus ((first | exact want_none rfl | exact want_yes rfl rfl rfl rfl rfl | fail))); exact rfl) | (apply opq_fieldAddr; (focus ((first | exact want_none rfl | exact want_yes rfl rfl rfl rfl rfl | fail))); exact rfl) | (apply opq_load; (focus ((first | exact want_none rfl | exact want_yes rfl rfl rfl rfl rfl | fail))); exact rfl; (focus ((first | (apply rd_list; (focus ((repeat (first | (with_reducible exact Rem.here _ _) | (with_reducible apply Rem.there) | fail)); done)); assumption) | (apply rd_listV; (focus ((repeat (first | (with_reducible exact Rem.here _ _) | (with_reducible apply Rem.there) | fail)); done)); assumption) | (apply rd_obj1; (focus ((repeat (first | (with_reducible exact Rem.here _ _) | (with_reducible apply Rem.there) | fail)); done)); exact rfl) | (apply rd_cobj1; (focus ((repeat (first | (with_reducible exact Rem.here _ _) | (with_reducible apply Rem.there) | fail)); done)); exact rfl) | (apply rd_ix; (focus ((repeat (first | (with_reducible exact Rem.here _ _) | (with_reducible apply Rem.there) | fail)); done)); (focus (infer_instance)); (focus (omega)); exact rfl) | (apply rd_ix0; (focus ((repeat (first | (with_reducible exact Rem.here _ _) | (with_reducible apply Rem.there) | fail)); done)); (focus (infer_instance)); (focus (omega)); exact rfl) | (apply rd_ixS; (focus ((repeat (first | (with_reducible exact Rem.here _ _) | (with_reducible apply Rem.there) | fail)); done)); (focus (infer_instance)); (focus (omega)); exact rfl) | (apply rd_ix0S; (focus ((repeat (first | (with_reducible exact Rem.here _ _) | (with_reducible apply Rem.there) | fail)); done)); (focus (infer_instance)); (focus (omega)); exact rfl) | fail)))) | (apply opq_pick_t; (focus ((first | exact want_none rfl | exact want_yes rfl rfl rfl rfl rfl | fail))); exact rfl; exact rfl) | (apply opq_pick_f; (focus ((first | exact want_none rfl | exact want_yes rfl rfl rfl rfl rfl | fail))); exact rfl; exact rfl) | (first | (apply opq_lss; (focus ((first | exact want_none rfl | exact want_yes rfl rfl rfl rfl rfl | fail))); exact rfl; exact rfl; (focus ((first | exact decide_eq_true (by omega) | exact decide_eq_false (by omega) | exact rfl | fail)))) | (apply opq_leq; (focus ((first | exact want_none rfl | exact want_yes rfl rfl rfl rfl rfl | fail))); exact rfl; exact rfl; (focus ((first | exact decide_eq_true (by omega) | exact decide_eq_false (by omega) | exact rfl | fail)))) | (apply opq_gtr; (focus ((first | exact want_none rfl | exact want_yes rfl rfl rfl rfl rfl | fail))); exact rfl; exact rfl; (focus ((first | exact decide_eq_true (by omega) | exact decide_eq_false (by omega) | exact rfl | fail)))) | (apply opq_geq; (focus ((first | exact want_none rfl | exact want_yes rfl rfl rfl rfl rfl | fail))); exact rfl; exact rfl; (focus ((first | exact decide_eq_true (by omega) | exact decide_eq_false (by omega) | exact rfl | fail)))) | (apply opq_eql; (focus ((first | exact want_none rfl | exact want_yes rfl rfl rfl rfl rfl | fail))); exact rfl; exact rfl; (focus ((first | exact decide_eq_true (by omega) | exact decide_eq_false (by omega) | exact rfl | fail)))) | (apply opq_neq; (focus ((first | exact want_none rfl | exact want_yes rfl rfl rfl rfl rfl | fail))); exact rfl; exact rfl; (focus ((first | exact decide_eq_true (by omega) | exact decide_eq_false (by omega) | exact rfl | fail)))) | fail) | (apply opq_eq_nil; (focus ((first | exact want_none rfl | exact want_yes rfl rfl rfl rfl rfl | fail))); exact rfl; exact rfl) | (apply opq_eq_nil'; (focus ((first | exact want_none rfl | exact want_yes rfl rfl rfl rfl rfl | fail))); exact rfl; exact rfl) | (apply opq_ne_nil; (focus ((first | exact want_none rfl | exact want_yes rfl rfl rfl rfl rfl | fail))); exact rfl; exact rfl) | (apply opq_ne_nil'; (focus ((first | exact want_none rfl | exact want_yes rfl rfl rfl rfl rfl | fail))); exact rfl; exact rfl) | (apply opq_as; (focus (apply opq_eq_nils; (focus ((first | exact want_none rfl | exact want_yes rfl rfl rfl rfl rfl | fail))); exact rfl; exact rfl)); exact rfl) | (apply opq_eq_nilf; (focus ((first | exact want_none rfl | exact want_yes rfl rfl rfl rfl rfl | fail))); exact rfl; exact rfl) | (apply opq_extract; (focus ((first | exact want_none rfl | exact want_yes rfl rfl rfl rfl rfl | fail))); exact rfl; exact rfl) | (apply opq_field; (focus ((first | exact want_none rfl | exact want_yes rfl rfl rfl rfl rfl | fail))); exact rfl; exact rfl) | (apply opq_loadAgg; (focus ((first | exact want_none rfl | exact want_yes rfl rfl rfl rfl rfl | fail))); exact rfl; (focus ((first | (apply rd_obj; (focus ((repeat (first | (with_reducible exact Rem.here _ _) | (with_reducible apply Rem.there) | fail)); done))) | (apply rd_cobj; (focus ((repeat (first | (with_reducible exact Rem.here _ _) | (with_reducible apply Rem.there) | fail)); done))) | (apply rd_row; (focus ((repeat (first | (with_reducible exact Rem.here _ _) | (with_reducible apply Rem.there) | fail)); done)); (focus (infer_instance)); (focus (omega)); exact rfl) | (apply rd_rowS; (focus ((repeat (first | (with_reducible exact Rem.here _ _) | (with_reducible apply Rem.there) | fail)); done)); (focus (infer_instance)); (focus (omega)); exact rfl) | fail))); exact rfl) | (apply opq_notD; (focus ((first | exact want_none rfl | exact want_yes rfl rfl rfl rfl rfl | fail))); exact rfl) | (apply opq_not; (focus ((first | exact want_none rfl | exact want_yes rfl rfl rfl rfl rfl | fail))); exact rfl) | (apply opq_len; (focus ((first | exact want_none rfl | exact want_yes rfl rfl rfl rfl rfl | fail))); exact rfl) | (apply opq_as; (focus (apply opq_add; (focus ((first | exact want_none rfl | exact want_yes rfl rfl rfl rfl rfl | fail))); exact rfl; exact rfl)); (focus (exact congrArg (Value.int _) (by first | exact IntWalk.i64_in _ (by omega) | exact IntWalk.u32_in _ (by omega) | exact IntWalk.u8_in _ (by omega) | exact IntWalk.u64_in _ (by omega) | exact IntWalk.u16_in _ (by omega) | exact IntWalk.i32_in _ (by omega) | fail)))) | (apply opq_as; (focus (apply opq_sub; (focus ((first | exact want_none rfl | exact want_yes rfl rfl rfl rfl rfl | fail))); exact rfl; exact rfl)); (focus (exact congrArg (Value.int _) (by first | exact IntWalk.i64_in _ (by omega) | exact IntWalk.u32_in _ (by omega) | exact IntWalk.u8_in _ (by omega) | exact IntWalk.u64_in _ (by omega) | exact IntWalk.u16_in _ (by omega) | exact IntWalk.i32_in _ (by omega) | fail)))) | (apply opq_as; (focus (apply opq_mul; (focus ((first | exact want_none rfl | exact want_yes rfl rfl rfl rfl rfl | fail))); exact rfl; exact rfl)); (focus (exact congrArg (Value.int _) (by first | exact IntWalk.i64_in _ (by omega) | exact IntWalk.u32_in _ (by omega) | exact IntWalk.u8_in _ (by omega) | exact IntWalk.u64_in _ (by omega) | exact IntWalk.u16_in _ (by omega) | exact IntWalk.i32_in _ (by omega) | fail)))) | (apply opq_as; (focus (apply opq_conv; (focus ((first | exact want_none rfl | exact want_yes rfl rfl rfl rfl rfl | fail))); exact rfl)); (focus (exact congrArg (Value.int _) (by first | exact IntWalk.i64_in _ (by omega) | exact IntWalk.u32_in _ (by omega) | exact IntWalk.u8_in _ (by omega) | exact IntWalk.u64_in _ (by omega) | exact IntWalk.u16_in _ (by omega) | exact IntWalk.i32_in _ (by omega) | fail)))) | (apply opq_add; (focus ((first | exact want_none rfl | exact want_yes rfl rfl rfl rfl rfl | fail))); exact rfl; exact rfl) | (apply opq_sub; (focus ((first | exact want_none rfl | exact want_yes rfl rfl rfl rfl rfl | fail))); exact rfl; exact rfl) | (apply opq_mul; (focus ((first | exact want_none rfl | exact want_yes rfl rfl rfl rfl rfl | fail))); exact rfl; exact rfl) | (apply opq_conv; (focus ((first | exact want_none rfl | exact want_yes rfl rfl rfl rfl rfl | fail))); exact rfl) | (apply opq_eqb; (focus ((first | exact want_none rfl | exact want_yes rfl rfl rfl rfl rfl | fail))); exact rfl; exact rfl) | (apply opq_neb; (focus ((first | exact want_none rfl | exact want_yes rfl rfl rfl rfl rfl | fail))); exact rfl; exact rfl) | (apply opq_ixAddrE; (focus ((first | exact want_none rfl | exact want_yes rfl rfl rfl rfl rfl | fail))); exact rfl; exact rfl; (focus (infer_instance)); (focus (omega))) | (apply opq_ixAddr; (focus ((first | exact want_none rfl | exact want_yes rfl rfl rfl rfl rfl | fail))); exact rfl; exact rfl; (focus ((repeat (first | (with_reducible exact Rem.here _ _) | (with_reducible apply Rem.there) | fail)); done)); (focus (infer_instance)); (focus (omega))) | (apply opq_ixAddrS; (focus ((first | exact want_none rfl | exact want_yes rfl rfl rfl rfl rfl | fail))); exact rfl; exact rfl; (focus ((repeat (first | (with_reducible exact Rem.here _ _) | (with_reducible apply Rem.there) | fail)); done)); (focus (infer_instance)); (focus (omega))) | (apply opq_index; (focus ((first | exact want_none rfl | exact want_yes rfl rfl rfl rfl rfl | fail))); exact rfl; exact rfl; (focus (omega)); (focus (omega)); exact rfl) | (apply opq_makeFunc; (focus ((first | exact want_none rfl | exact want_yes rfl rfl rfl rfl rfl | fail))); (focus ((repeat (first | exact Evs.nil | (apply Evs.cons; exact rfl) | fail)); done)); (focus ((repeat (first | exact Evs.nil | (apply Evs.cons; exact rfl) | fail)); done))) | (apply opq_build1; (focus ((first | exact want_none rfl | exact want_yes rfl rfl rfl rfl rfl | fail))); (focus ((repeat (first | exact Evs.nil | (apply Evs.cons; exact rfl) | fail)); done)); exact rfl; exact rfl; exact rfl; exact rfl) | (apply opq_buildA; (focus ((first | exact want_none rfl | exact want_yes rfl rfl rfl rfl rfl | fail))); (focus ((repeat (first | exact Evs.nil | (apply Evs.cons; exact rfl) | fail)); done)); exact rfl; exact rfl; exact rfl; exact rfl) | (apply opq_build0; (focus ((first | exact want_none rfl | exact want_yes rfl rfl rfl rfl rfl | fail)))) | fail)); exact rfl; exact Nat.lt_of_ble_eq rfl)
  | ((fail_if_success (first | exact tl_ifb (t := true) rfl rfl rfl rfl | exact tl_ifb (t := false) rfl rfl rfl rfl)); exact tl_if rfl rfl rfl rfl)
  | ((fail_if_success (first | exact tl_ifb (t := true) rfl rfl rfl rfl | exact tl_ifb (t := false) rfl rfl rfl rfl)); exact tl_ifb rfl rfl rfl rfl)
  | (apply tl_m; exact rfl; exact Nat.lt_of_ble_eq rfl; (focus (first | (apply opn_alloc; (focus ((first | exact want_none rfl | exact want_yes rfl rfl rfl rfl rfl | fail))); (focus (first | exact IsCells.one rfl | exact IsCells.agg _ rfl | fail))) | (apply opn_box; (focus ((first | exact want_none rfl | exact want_yes rfl rfl rfl rfl rfl | fail))); exact rfl; (focus (first | exact IsCells.one rfl | exact IsCells.agg _ rfl | fail))) | (apply opn_storeObj; (focus ((first | exact want_none rfl | exact want_yes rfl rfl rfl rfl rfl | fail))); exact rfl; exact rfl; (focus (first | exact IsCells.one rfl | exact IsCells.agg _ rfl | fail)); exact rfl; (focus ((repeat (first | (with_reducible exact Rep.here _) | (with_reducible apply Rep.there) | fail)); done)); exact rfl; (focus (simp only [setL, List.set_cons_zero, List.set_cons_succ, Nat.zero_add]; exact rfl))) | (apply opn_storeIx; (focus ((first | exact want_none rfl | exact want_yes rfl rfl rfl rfl rfl | fail))); exact rfl; exact rfl; (focus (first | exact IsCells.one rfl | exact IsCells.agg _ rfl | fail)); exact rfl; (focus ((repeat (first | (with_reducible exact Rem.here _ _) | (with_reducible apply Rem.there) | fail)); done)); (focus (infer_instance)); (focus (omega)); (focus ((repeat (first | (with_reducible exact Rep.here _) | (with_reducible apply Rep.there) | fail)); done))) | (apply opn_storeIx0; (focus ((first | exact want_none rfl | exact want_yes rfl rfl rfl rfl rfl | fail))); exact rfl; exact rfl; (focus (first | exact IsCells.one rfl | exact IsCells.agg _ rfl | fail)); exact rfl; (focus ((repeat (first | (with_reducible exact Rem.here _ _) | (with_reducible apply Rem.there) | fail)); done)); (focus (infer_instance)); (focus (omega)); (focus ((repeat (first | (with_reducible exact Rep.here _) | (with_reducible apply Rep.there) | fail)); done))) | (apply opn_buildSlice1; (focus ((first | exact want_none rfl | exact want_yes rfl rfl rfl rfl rfl | fail))); (focus ((repeat (first | exact Evs.nil | (apply Evs.cons; exact rfl) | fail)); done)); exact rfl; exact rfl; exact rfl; exact rfl) | (apply opn_appVV; (focus ((first | exact want_none rfl | exact want_yes rfl rfl rfl rfl rfl | fail))); exact rfl; exact rfl; (focus ((repeat (first | (with_reducible exact Rem.here _ _) | (with_reducible apply Rem.there) | fail)); done)); (focus ((repeat (first | (with_reducible exact Rem.here _ _) | (with_reducible apply Rem.there) | fail)); done)); (focus (infer_instance)); (focus (first | exact IsCells.one rfl | exact IsCells.agg _ rfl | fail)); exact rfl; (focus (omega)); (focus (omega))) | (apply opn_appVS; (focus ((first | exact want_none rfl | exact want_yes rfl rfl rfl rfl rfl | fail))); exact rfl; exact rfl; (focus ((repeat (first | (with_reducible exact Rem.here _ _) | (with_reducible apply Rem.there) | fail)); done)); (focus ((repeat (first | (with_reducible exact Rem.here _ _) | (with_reducible apply Rem.there) | fail)); done)); (focus (infer_instance)); (focus (first | exact IsCells.one rfl | exact IsCells.agg _ rfl | fail)); exact rfl; (focus (omega)); (focus (omega))) | (apply opn_appNV; (focus ((first | exact want_none rfl | exact want_yes rfl rfl rfl rfl rfl | fail))); exact rfl; exact rfl; (focus ((repeat (first | (with_reducible exact Rem.here _ _) | (with_reducible apply Rem.there) | fail)); done)); (focus (infer_instance)); (focus (first | exact IsCells.one rfl | exact IsCells.agg _ rfl | fail)); exact rfl; (focus (omega)); (focus (omega))) | (apply opn_appNS; (focus ((first | exact want_none rfl | exact want_yes rfl rfl rfl rfl rfl | fail))); exact rfl; exact rfl; (focus ((repeat (first | (with_reducible exact Rem.here _ _) | (with_reducible apply Rem.there) | fail)); done)); (focus (infer_instance)); (focus (first | exact IsCells.one rfl | exact IsCells.agg _ rfl | fail)); exact rfl; (focus (omega)); (focus (omega))) | (apply opn_make; (focus ((first | exact want_none rfl | exact want_yes rfl rfl rfl rfl rfl | fail))); exact rfl; exact rfl; exact rfl; exact rfl; (focus (infer_instance)); (focus (first | exact IsCells.one rfl | exact IsCells.agg _ rfl | fail)); exact rfl; (focus (omega)); (focus (omega)); (focus (omega)); exact rfl) | (apply opn_slLoS; (focus ((first | exact want_none rfl | exact want_yes rfl rfl rfl rfl rfl | fail))); exact rfl; exact rfl; (focus ((repeat (first | (with_reducible exact Rem.here _ _) | (with_reducible apply Rem.there) | fail)); done)); (focus (infer_instance)); (focus (omega))) | (apply opn_slHiS; (focus ((first | exact want_none rfl | exact want_yes rfl rfl rfl rfl rfl | fail))); exact rfl; exact rfl; (focus ((repeat (first | (with_reducible exact Rem.here _ _) | (with_reducible apply Rem.there) | fail)); done)); (focus (infer_instance)); (focus (omega))) | (apply opn_slLHS; (focus ((first | exact want_none rfl | exact want_yes rfl rfl rfl rfl rfl | fail))); exact rfl; exact rfl; exact rfl; (focus ((repeat (first | (with_reducible exact Rem.here _ _) | (with_reducible apply Rem.there) | fail)); done)); (focus (infer_instance)); (focus (infer_instance)); (focus (omega))) | (apply opn_callK; (focus ((first | exact want_none rfl | exact want_yes rfl rfl rfl rfl rfl | fail))); (focus ((repeat (first | exact Evs.nil | (apply Evs.cons; exact rfl) | fail)); done)); (intro hs; apply hs); (all_goals (try (focus ((repeat (first | (with_reducible exact PickF.nil _) | (apply PickF.keep; (focus ((repeat (first | (with_reducible exact Rem.here _ _) | (with_reducible apply Rem.there) | fail)); done)); (focus (infer_instance))) | (apply PickF.cons; (focus ((repeat (first | (with_reducible exact Rem.here _ _) | (with_reducible apply Rem.there) | fail)); done))) | (apply PickF.frz; (focus ((repeat (first | (with_reducible exact Rem.here _ _) | (with_reducible apply Rem.there) | fail)); done))) | apply PickF.ro0 | exact PickF.nil _ | fail)); done)))); (all_goals (first | assumption | (infer_instance) | omega | exact rfl | decide | fail))) | (apply opn_appVT; (focus ((first | exact want_none rfl | exact want_yes rfl rfl rfl rfl rfl | fail))); exact rfl; exact rfl; (focus ((repeat (first | (with_reducible exact Rem.here _ _) | (with_reducible apply Rem.there) | fail)); done)); (focus ((repeat (first | (with_reducible exact Rem.here _ _) | (with_reducible apply Rem.there) | fail)); done)); (focus (infer_instance)); (focus (first | exact IsCells.one rfl | exact IsCells.agg _ rfl | fail)); exact rfl; (focus (omega)); (focus (omega)); (focus (omega))) | (apply opn_appNT; (focus ((first | exact want_none rfl | exact want_yes rfl rfl rfl rfl rfl | fail))); exact rfl; exact rfl; (focus ((repeat (first | (with_reducible exact Rem.here _ _) | (with_reducible apply Rem.there) | fail)); done)); (focus (infer_instance)); (focus (first | exact IsCells.one rfl | exact IsCells.agg _ rfl | fail)); exact rfl; (focus (omega)); (focus (omega)); (focus (omega))) | (apply opn_appVD; (focus ((first | exact want_none rfl | exact want_yes rfl rfl rfl rfl rfl | fail))); exact rfl; exact rfl; (focus ((repeat (first | (with_reducible exact Rem.here _ _) | (with_reducible apply Rem.there) | fail)); done)); (focus ((repeat (first | (with_reducible exact Rem.here _ _) | (with_reducible apply Rem.there) | fail)); done)); (focus (infer_instance)); (focus (first | exact IsCells.one rfl | exact IsCells.agg _ rfl | fail)); exact rfl; (focus (omega)); (focus (omega)); (focus (omega))) | fail)); intro h; (try refine prod_all ?_); (try dsimp only [List.cons_append, List.nil_append]); first | exact fun _ => h | exact h | fail)
  | (apply tl_m0; exact rfl; (focus (first | (apply opn_alloc; (focus ((first | exact want_none rfl | exact want_yes rfl rfl rfl rfl rfl | fail))); (focus (first | exact IsCells.one rfl | exact IsCells.agg _ rfl | fail))) | (apply opn_box; (focus ((first | exact want_none rfl | exact want_yes rfl rfl rfl rfl rfl | fail))); exact rfl; (focus (first | exact IsCells.one rfl | exact IsCells.agg _ rfl | fail))) | (apply opn_storeObj; (focus ((first | exact want_none rfl | exact want_yes rfl rfl rfl rfl rfl | fail))); exact rfl; exact rfl; (focus (first | exact IsCells.one rfl | exact IsCells.agg _ rfl | fail)); exact rfl; (focus ((repeat (first | (with_reducible exact Rep.here _) | (with_reducible apply Rep.there) | fail)); done)); exact rfl; (focus (simp only [setL, List.set_cons_zero, List.set_cons_succ, Nat.zero_add]; exact rfl))) | (apply opn_storeIx; (focus ((first | exact want_none rfl | exact want_yes rfl rfl rfl rfl rfl | fail))); exact rfl; exact rfl; (focus (first | exact IsCells.one rfl | exact IsCells.agg _ rfl | fail)); exact rfl; (focus ((repeat (first | (with_reducible exact Rem.here _ _) | (with_reducible apply Rem.there) | fail)); done)); (focus (infer_instance)); (focus (omega)); (focus ((repeat (first | (with_reducible exact Rep.here _) | (with_reducible apply Rep.there) | fail)); done))) | (apply opn_storeIx0; (focus ((first | exact want_none rfl | exact want_yes rfl rfl rfl rfl rfl | fail))); exact rfl; exact rfl; (focus (first | exact IsCells.one rfl | exact IsCells.agg _ rfl | fail)); exact rfl; (focus ((repeat (first | (with_reducible exact Rem.here _ _) | (with_reducible apply Rem.there) | fail)); done)); (focus (infer_instance)); (focus (omega)); (focus ((repeat (first | (with_reducible exact Rep.here _) | (with_reducible apply Rep.there) | fail)); done))) | (apply opn_buildSlice1; (focus ((first | exact want_none rfl | exact want_yes rfl rfl rfl rfl rfl | fail))); (focus ((repeat (first | exact Evs.nil | (apply Evs.cons; exact rfl) | fail)); done)); exact rfl; exact rfl; exact rfl; exact rfl) | (apply opn_appVV; (focus ((first | exact want_none rfl | exact want_yes rfl rfl rfl rfl rfl | fail))); exact rfl; exact rfl; (focus ((repeat (first | (with_reducible exact Rem.here _ _) | (with_reducible apply Rem.there) | fail)); done)); (focus ((repeat (first | (with_reducible exact Rem.here _ _) | (with_reducible apply Rem.there) | fail)); done)); (focus (infer_instance)); (focus (first | exact IsCells.one rfl | exact IsCells.agg _ rfl | fail)); exact rfl; (focus (omega)); (focus (omega))) | (apply opn_appVS; (focus ((first | exact want_none rfl | exact want_yes rfl rfl rfl rfl rfl | fail))); exact rfl; exact rfl; (focus ((repeat (first | (with_reducible exact Rem.here _ _) | (with_reducible apply Rem.there) | fail)); done)); (focus ((repeat (first | (with_reducible exact Rem.here _ _) | (with_reducible apply Rem.there) | fail)); done)); (focus (infer_instance)); (focus (first | exact IsCells.one rfl | exact IsCells.agg _ rfl | fail)); exact rfl; (focus (omega)); (focus (omega))) | (apply opn_appNV; (focus ((first | exact want_none rfl | exact want_yes rfl rfl rfl rfl rfl | fail))); exact rfl; exact rfl; (focus ((repeat (first | (with_reducible exact Rem.here _ _) | (with_reducible apply Rem.there) | fail)); done)); (focus (infer_instance)); (focus (first | exact IsCells.one rfl | exact IsCells.agg _ rfl | fail)); exact rfl; (focus (omega)); (focus (omega))) | (apply opn_appNS; (focus ((first | exact want_none rfl | exact want_yes rfl rfl rfl rfl rfl | fail))); exact rfl; exact rfl; (focus ((repeat (first | (with_reducible exact Rem.here _ _) | (with_reducible apply Rem.there) | fail)); done)); (focus (infer_instance)); (focus (first | exact IsCells.one rfl | exact IsCells.agg _ rfl | fail)); exact rfl; (focus (omega)); (focus (omega))) | (apply opn_make; (focus ((first | exact want_none rfl | exact want_yes rfl rfl rfl rfl rfl | fail))); exact rfl; exact rfl; exact rfl; exact rfl; (focus (infer_instance)); (focus (first | exact IsCells.one rfl | exact IsCells.agg _ rfl | fail)); exact rfl; (focus (omega)); (focus (omega)); (focus (omega)); exact rfl) | (apply opn_slLoS; (focus ((first | exact want_none rfl | exact want_yes rfl rfl rfl rfl rfl | fail))); exact rfl; exact rfl; (focus ((repeat (first | (with_reducible exact Rem.here _ _) | (with_reducible apply Rem.there) | fail)); done)); (focus (infer_instance)); (focus (omega))) | (apply opn_slHiS; (focus ((first | exact want_none rfl | exact want_yes rfl rfl rfl rfl rfl | fail))); exact rfl; exact rfl; (focus ((repeat (first | (with_reducible exact Rem.here _ _) | (with_reducible apply Rem.there) | fail)); done)); (focus (infer_instance)); (focus (omega))) | (apply opn_slLHS; (focus ((first | exact want_none rfl | exact want_yes rfl rfl rfl rfl rfl | fail))); exact rfl; exact rfl; exact rfl; (focus ((repeat (first | (with_reducible exact Rem.here _ _) | (with_reducible apply Rem.there) | fail)); done)); (focus (infer_instance)); (focus (infer_instance)); (focus (omega))) | (apply opn_callK; (focus ((first | exact want_none rfl | exact want_yes rfl rfl rfl rfl rfl | fail))); (focus ((repeat (first | exact Evs.nil | (apply Evs.cons; exact rfl) | fail)); done)); (intro hs; apply hs); (all_goals (try (focus ((repeat (first | (with_reducible exact PickF.nil _) | (apply PickF.keep; (focus ((repeat (first | (with_reducible exact Rem.here _ _) | (with_reducible apply Rem.there) | fail)); done)); (focus (infer_instance))) | (apply PickF.cons; (focus ((repeat (first | (with_reducible exact Rem.here _ _) | (with_reducible apply Rem.there) | fail)); done))) | (apply PickF.frz; (focus ((repeat (first | (with_reducible exact Rem.here _ _) | (with_reducible apply Rem.there) | fail)); done))) | apply PickF.ro0 | exact PickF.nil _ | fail)); done)))); (all_goals (first | assumption | (infer_instance) | omega | exact rfl | decide | fail))) | (apply opn_appVT; (focus ((first | exact want_none rfl | exact want_yes rfl rfl rfl rfl rfl | fail))); exact rfl; exact rfl; (focus ((repeat (first | (with_reducible exact Rem.here _ _) | (with_reducible apply Rem.there) | fail)); done)); (focus ((repeat (first | (with_reducible exact Rem.here _ _) | (with_reducible apply Rem.there) | fail)); done)); (focus (infer_instance)); (focus (first | exact IsCells.one rfl | exact IsCells.agg _ rfl | fail)); exact rfl; (focus (omega)); (focus (omega)); (focus (omega))) | (apply opn_appNT; (focus ((first | exact want_none rfl | exact want_yes rfl rfl rfl rfl rfl | fail))); exact rfl; exact rfl; (focus ((repeat (first | (with_reducible exact Rem.here _ _) | (with_reducible apply Rem.there) | fail)); done)); (focus (infer_instance)); (focus (first | exact IsCells.one rfl | exact IsCells.agg _ rfl | fail)); exact rfl; (focus (omega)); (focus (omega)); (focus (omega))) | (apply opn_appVD; (focus ((first | exact want_none rfl | exact want_yes rfl rfl rfl rfl rfl | fail))); exact rfl; exact rfl; (focus ((repeat (first | (with_reducible exact Rem.here _ _) | (with_reducible apply Rem.there) | fail)); done)); (focus ((repeat (first | (with_reducible exact Rem.here _ _) | (with_reducible apply Rem.there) | fail)); done)); (focus (infer_instance)); (focus (first | exact IsCells.one rfl | exact IsCells.agg _ rfl | fail)); exact rfl; (focus (omega)); (focus (omega)); (focus (omega))) | fail)); intro h; (try refine prod_all ?_); (try dsimp only [List.cons_append, List.nil_append]); first | exact fun _ => h | exact h | fail)
  | fail) : q → g := h
theorem stQ {g q : Prop} (h : q → g := by
  first | (show _ → TQ _ _ _ _ _ _ _ _ _) | (show _ → WA _ _ _ _ _ _ _ _ _ _ _ _) | fail
  first
  | (apply tq_nilN; intro h; (try dsimp only [List.cons_append, List.nil_append, List.append_nil]); exact h)
  | exact tq_skip rfl rfl rfl rfl rfl rfl rfl
  | (apply tq_cons; (focus (first | (apply opq_move; (focus ((first | exact want_none rfl | exact want_yes rfl rfl rfl rfl rfl | fail))); exact rfl) | (apply opq_assign; (focus ((first | exact want_none rfl | exact want_yes rfl rfl rfl rfl rfl | fail))); exact rfl) | (apply opq_nilCheck; (focus ((first | exact want_none rfl | exact want_yes rfl rfl rfl rfl rfl | fail))); exact rfl) | (apply opq_fieldAddr; (focus ((first | exact want_none rfl | exact want_yes rfl rfl rfl rfl rfl | fail))); exact rfl) | (apply opq_load; (focus ((first | exact want_none rfl | exact want_yes rfl rfl rfl rfl rfl | fail))); exact rfl; (focus ((first | (apply rd_list; (focus ((repeat (first | (with_reducible exact Rem.here _ _) | (with_reducible apply Rem.there) | fail)); done)); assumption) | (apply rd_listV; (focus ((repeat (first | (with_reducible exact Rem.here _ _) | (with_reducible apply Rem.there) | fail)); done)); assumption) | (apply rd_obj1; (focus ((repeat (first | (with_reducible exact Rem.here _ _) | (with_reducible apply Rem.there) | fail)); done)); exact rfl) | (apply rd_cobj1; (focus ((repeat (first | (with_reducible exact Rem.here _ _) | (with_reducible apply Rem.there) | fail)); done)); exact rfl) | (apply rd_ix; (focus ((repeat (first | (with_reducible exact Rem.here _ _) | (with_reducible apply Rem.there) | fail)); done)); (focus (infer_instance)); (focus (omega)); exact rfl) | (apply rd_ix0; (focus ((repeat (first | (with_reducible exact Rem.here _ _) | (with_reducible apply Rem.there) | fail)); done)); (focus (infer_instance)); (focus (omega)); exact rfl) | (apply rd_ixS; (focus ((repeat (first | (with_reducible exact Rem.here _ _) | (with_reducible apply Rem.there) | fail)); done)); (focus (infer_instance)); (focus (omega)); exact rfl) | (apply rd_ix0S; (focus ((repeat (first | (with_reducible exact Rem.here _ _) | (with_reducible apply Rem.there) | fail)); done)); (focus (infer_instance)); (focus (omega)); exact rfl) | fail)))) | (apply opq_pick_t; (focus ((first | exact want_none rfl | exact want_yes rfl rfl rfl rfl rfl | fail))); exact rfl; exact rfl) | (apply opq_pick_f; (focus ((first | exact want_none rfl | exact want_yes rfl rfl rfl rfl rfl | fail))); exact rfl; exact rfl) | (first | (apply opq_lss; (focus ((first | exact want_none rfl | exact want_yes rfl rfl rfl rfl rfl | fail))); exact rfl; exact rfl; (focus ((first | exact decide_eq_true (by omega) | exact decide_eq_false (by omega) | exact rfl | fail)))) | (apply opq_leq; (focus ((first | exact want_none rfl | exact want_yes rfl rfl rfl rfl rfl | fail))); exact rfl; exact rfl; (focus ((first | exact decide_eq_true (by omega) | exact decide_eq_false (by omega) | exact rfl | fail)))) | (apply opq_gtr; (focus ((first | exact want_none rfl | exact want_yes rfl rfl rfl rfl rfl | fail))); exact rfl; exact rfl; (focus ((first | exact decide_eq_true (by omega) | exact decide_eq_false (by omega) | exact rfl | fail)))) | (apply opq_geq; (focus ((first | exact want_none rfl | exact want_yes rfl rfl rfl rfl rfl | fail))); exact rfl; exact rfl; (focus ((first | exact decide_eq_true (by omega) | exact decide_eq_false (by omega) | exact rfl | fail)))) | (apply opq_eql; (focus ((first | exact want_none rfl | exact want_yes rfl rfl rfl rfl rfl | fail))); exact rfl; exact rfl; (focus ((first | exact decide_eq_true (by omega) | exact decide_eq_false (by omega) | exact rfl | fail)))) | (apply opq_neq; (focus ((first | exact want_none rfl | exact want_yes rfl rfl rfl rfl rfl | fail))); exact rfl; exact rfl; (focus ((first | exact decide_eq_true (by omega) | exact decide_eq_false (by omega) | exact rfl | fail)))) | fail) | (apply opq_eq_nil; (focus ((first | exact want_none rfl | exact want_yes rfl rfl rfl rfl rfl | fail))); exact rfl; exact rfl) | (apply opq_eq_nil'; (focus ((first | exact want_none rfl | exact want_yes rfl rfl rfl rfl rfl | fail))); exact rfl; exact rfl) | (apply opq_ne_nil; (focus ((first | exact want_none rfl | exact want_yes rfl rfl rfl rfl rfl | fail))); exact rfl; exact rfl) | (apply opq_ne_nil'; (focus ((first | exact want_none rfl | exact want_yes rfl rfl rfl rfl rfl | fail))); exact rfl; exact rfl) | (apply opq_as; (focus (apply opq_eq_nils; (focus ((first | exact want_none rfl | exact want_yes rfl rfl rfl rfl rfl | fail))); exact rfl; exact rfl)); exact rfl) | (apply opq_eq_nilf; (focus ((first | exact want_none rfl | exact want_yes rfl rfl rfl rfl rfl | fail))); exact rfl; exact rfl) | (apply opq_extract; (focus ((first | exact want_none rfl | exact want_yes rfl rfl rfl rfl rfl | fail))); exact rfl; exact rfl) | (apply opq_field; (focus ((first | exact want_none rfl | exact want_yes rfl rfl rfl rfl rfl | fail))); exact rfl; exact rfl) | (apply opq_loadAgg; (focus ((first | exact want_none rfl | exact want_yes rfl rfl rfl rfl rfl | fail))); exact rfl; (focus ((first | (apply rd_obj; (focus ((repeat (first | (with_reducible exact Rem.here _ _) | (with_reducible apply Rem.there) | fail)); done))) | (apply rd_cobj; (focus ((repeat (first | (with_reducible exact Rem.here _ _) | (with_reducible apply Rem.there) | fail)); done))) | (apply rd_row; (focus ((repeat (first | (with_reducible exact Rem.here _ _) | (with_reducible apply Rem.there) | fail)); done)); (focus (infer_instance)); (focus (omega)); exact rfl) | (apply rd_rowS; (focus ((repeat (first | (with_reducible exact Rem.here _ _) | (with_reducible apply Rem.there) | fail)); done)); (focus (infer_instance)); (focus (omega)); exact rfl) | fail))); exact rfl) | (apply opq_notD; (focus ((first | exact want_none rfl | exact want_yes rfl rfl rfl rfl rfl | fail))); exact rfl) | (apply opq_not; (focus ((first | exact want_none rfl | exact want_yes rfl rfl rfl rfl rfl | fail))); exact rfl) | (apply opq_len; (focus ((first | exact want_none rfl | exact want_yes rfl rfl rfl rfl rfl | fail))); exact rfl) | (apply opq_as; (focus (apply opq_add; (focus ((first | exact want_none rfl | exact want_yes rfl rfl rfl rfl rfl | fail))); exact rfl; exact rfl)); (focus (exact congrArg (Value.int _) (by first | exact IntWalk.i64_in _ (by omega) | exact IntWalk.u32_in _ (by omega) | exact IntWalk.u8_in _ (by omega) | exact IntWalk.u64_in _ (by omega) | exact IntWalk.u16_in _ (by omega) | exact IntWalk.i32_in _ (by omega) | fail)))) | (apply opq_as; (focus (apply opq_sub; (focus ((first | exact want_none rfl | exact want_yes rfl rfl rfl rfl rfl | fail))); exact rfl; exact rfl)); (focus (exact congrArg (Value.int _) (by first | exact IntWalk.i64_in _ (by omega) | exact IntWalk.u32_in _ (by omega) | exact IntWalk.u8_in _ (by omega) | exact IntWalk.u64_in _ (by omega) | exact IntWalk.u16_in _ (by omega) | exact IntWalk.i32_in _ (by omega) | fail)))) | (apply opq_as; (focus (apply opq_mul; (focus ((first | exact want_none rfl | exact want_yes rfl rfl rfl rfl rfl | fail))); exact rfl; exact rfl)); (focus (exact congrArg (Value.int _) (by first | exact IntWalk.i64_in _ (by omega) | exact IntWalk.u32_in _ (by omega) | exact IntWalk.u8_in _ (by omega) | exact IntWalk.u64_in _ (by omega) | exact IntWalk.u16_in _ (by omega) | exact IntWalk.i32_in _ (by omega) | fail)))) | (apply opq_as; (focus (apply opq_conv; (focus ((first | exact want_none rfl | exact want_yes rfl rfl rfl rfl rfl | fail))); exact rfl)); (focus (exact congrArg (Value.int _) (by first | exact IntWalk.i64_in _ (by omega) | exact IntWalk.u32_in _ (by omega) | exact IntWalk.u8_in _ (by omega) | exact IntWalk.u64_in _ (by omega) | exact IntWalk.u16_in _ (by omega) | exact IntWalk.i32_in _ (by omega) | fail)))) | (apply opq_add; (focus ((first | exact want_none rfl | exact want_yes rfl rfl rfl rfl rfl | fail))); exact rfl; exact rfl) | (apply opq_sub; (focus ((first | exact want_none rfl | exact want_yes rfl rfl rfl rfl rfl | fail))); exact rfl; exact rfl) | (apply opq_mul; (focus ((first | exact want_none rfl | exact want_yes rfl rfl rfl rfl rfl | fail))); exact rfl; exact rfl) | (apply opq_conv; (focus ((first | exact want_none rfl | exact want_yes rfl rfl rfl rfl rfl | fail))); exact rfl) | (apply opq_eqb; (focus ((first | exact want_none rfl | exact want_yes rfl rfl rfl rfl rfl | fail))); exact rfl; exact rfl) | (apply opq_neb; (focus ((first | exact want_none rfl | exact want_yes rfl rfl rfl rfl rfl | fail))); exact rfl; exact rfl) | (apply opq_ixAddrE; (focus ((first | exact want_none rfl | exact want_yes rfl rfl rfl rfl rfl | fail))); exact rfl; exact rfl; (focus (infer_instance)); (focus (omega))) | (apply opq_ixAddr; (focus ((first | exact want_none rfl | exact want_yes rfl rfl rfl rfl rfl | fail))); exact rfl; exact rfl; (focus ((repeat (first | (with_reducible exact Rem.here _ _) | (with_reducible apply Rem.there) | fail)); done)); (focus (infer_instance)); (focus (omega))) | (apply opq_ixAddrS; (focus ((first | exact want_none rfl | exact want_yes rfl rfl rfl rfl rfl | fail))); exact rfl; exact rfl; (focus ((repeat (first | (with_reducible exact Rem.here _ _) | (with_reducible apply Rem.there) | fail)); done)); (focus (infer_instance)); (focus (omega))) | (apply opq_index; (focus ((first | exact want_none rfl | exact want_yes rfl rfl rfl rfl rfl | fail))); exact rfl; exact rfl; (focus (omega)); (focus (omega)); exact rfl) | (apply opq_makeFunc; (focus ((first | exact want_none rfl | exact want_yes rfl rfl rfl rfl rfl | fail))); (focus ((repeat (first | exact Evs.nil | (apply Evs.cons; exact rfl) | fail)); done)); (focus ((repeat (first | exact Evs.nil | (apply Evs.cons; exact rfl) | fail)); done))) | (apply opq_build1; (focus ((first | exact want_none rfl | exact want_yes rfl rfl rfl rfl rfl | fail))); (focus ((repeat (first | exact Evs.nil | (apply Evs.cons; exact rfl) | fail)); done)); exact rfl; exact rfl; exact rfl; exact rfl) | (apply opq_buildA; (focus ((first | exact want_none rfl | exact want_yes rfl rfl rfl rfl rfl | fail))); (focus ((repeat (first | exact Evs.nil | (apply Evs.cons; exact rfl) | fail)); done)); exact rfl; exact rfl; exact rfl; exact rfl) | (apply opq_build0; (focus ((first | exact want_none rfl | exact want_yes rfl rfl rfl rfl rfl | fail)))) | fail)); exact rfl)
  | (apply tq_cons; (focus (first | (apply opq_slLo; (focus ((first | exact want_none rfl | exact want_yes rfl rfl rfl rfl rfl | fail))); exact rfl; exact rfl; (focus (infer_instance)); (focus (omega))) | (apply opq_slHi; (focus ((first | exact want_none rfl | exact want_yes rfl rfl rfl rfl rfl | fail))); exact rfl; exact rfl; (focus ((repeat (first | (with_reducible exact Rem.here _ _) | (with_reducible apply Rem.there) | fail)); done)); (focus (infer_instance)); (focus (omega))) | fail)); exact rfl)
  | (apply tq_cons; (focus (apply opq_callK; (focus ((first | exact want_none rfl | exact want_yes rfl rfl rfl rfl rfl | fail))); (focus ((repeat (first | exact Evs.nil | (apply Evs.cons; exact rfl) | fail)); done)); (intro hs; apply hs); (all_goals (try (focus ((repeat (first | (with_reducible exact PickS.nil _) | (apply PickS.fact; (rotate_left); (focus (first | assumption | omega | decide | exact rfl | fail))) | (apply PickS.keep; (focus ((repeat (first | (with_reducible exact Rem.here _ _) | (with_reducible apply Rem.there) | fail)); done)); (focus (infer_instance))) | (apply PickS.cons; (focus ((repeat (first | (with_reducible exact Rem.here _ _) | (with_reducible apply Rem.there) | fail)); done))) | apply PickS.ro0 | exact PickS.nil _ | fail)); done)))); (all_goals (first | assumption | (infer_instance) | omega | exact rfl | decide | fail)))); exact rfl)
  | (apply wa_doneN; (focus (decide +kernel)); intro h; (try dsimp only [List.cons_append, List.nil_append, List.append_nil]); exact h)
  | fail) : q → g := h
theorem st {g q : Prop} (x : q) (h : q → g := by first | exact stL | exact stC | exact stK | exact stQ | fail) : g := h x
end
section
variable {r : Option Nat} {P : Program} {base : World} {n : Nat} {ds : List Deferred} {Q : Exit → Act → World → Prop} {env env' : Env} {l l' lc : List HP} {all : Array Oper} {ro : List Oper} {o : Oper}
/-! ### Entailments, ends, loops -/
theorem Ent.keep {l r l' : List HP} {x : HP} (h : Rem l x r) (hx : Pers x) (k : Ent l l') : Ent l (x :: l') := fun _ y => lst_cons_mono (fun _ h => h) (fun _ h => k _ h) (h.keep y)
theorem Ent.roNil {sz : Nat} {l l' : List HP} (h : Ent l l') : Ent l (RoS sz none 0 0 [] :: l') := fun _ x => lst_roS_nil (h _ x)
theorem en {l l' : List HP} (h : Ent l l' := by (try simp only [List.cons_append, List.nil_append]); (repeat (first | (with_reducible exact Ent.refl _) | (with_reducible exact Ent.nil _) | (apply Ent.fact; (focus (first | assumption | omega | decide | exact rfl | fail))) | (apply Ent.keep; (focus ((repeat (first | (with_reducible exact Rem.here _ _) | (with_reducible apply Rem.there) | fail)); done)); (focus (infer_instance))) | (apply Ent.cons; (focus ((repeat (first | (with_reducible exact Rem.here _ _) | (with_reducible apply Rem.there) | fail)); done))) | exact Ent.refl _ | exact Ent.nil _ | apply Ent.vecNil | apply Ent.roNil | fail)); done) : Ent l l' := h
theorem en2 {a b c : List HP} (h : Ent b c) (k : Ent a b := by (try simp only [List.cons_append, List.nil_append]); (repeat (first | (with_reducible exact Ent.refl _) | (with_reducible exact Ent.nil _) | (apply Ent.fact; (focus (first | assumption | omega | decide | exact rfl | fail))) | (apply Ent.keep; (focus ((repeat (first | (with_reducible exact Rem.here _ _) | (with_reducible apply Rem.there) | fail)); done)); (focus (infer_instance))) | (apply Ent.cons; (focus ((repeat (first | (with_reducible exact Rem.here _ _) | (with_reducible apply Rem.there) | fail)); done))) | exact Ent.refl _ | exact Ent.nil _ | apply Ent.vecNil | apply Ent.roNil | fail)); done) : Ent a c := k.trans h
section
variable {F : HP} {fn : Func} {α : Type} {val : α → Value} {post : α → List HP} {t t2 t3 : Nat} {v1 v2 v3 : Value}
theorem rt0 (x : α) (hx : (.tuple #[] : Value) = val x) (he : Ent l (post x ++ [F]) := by (try simp only [List.cons_append, List.nil_append]); (repeat (first | (with_reducible exact Ent.refl _) | (with_reducible exact Ent.nil _) | (apply Ent.fact; (focus (first | assumption | omega | decide | exact rfl | fail))) | (apply Ent.keep; (focus ((repeat (first | (with_reducible exact Rem.here _ _) | (with_reducible apply Rem.there) | fail)); done)); (focus (infer_instance))) | (apply Ent.cons; (focus ((repeat (first | (with_reducible exact Rem.here _ _) | (with_reducible apply Rem.there) | fail)); done))) | exact Ent.refl _ | exact Ent.nil _ | apply Ent.vecNil | apply Ent.roNil | fail)); done) (hres : fn.results = #[] := by rfl) : TK base n [] (fnPost P base fn val post F .ret) env l := tk_ret0 hres x hx he
theorem re0 (x : α) (hx : (.tuple #[] : Value) = val x) (he : Ent l (post x ++ [F]) := by (try simp only [List.cons_append, List.nil_append]); (repeat (first | (with_reducible exact Ent.refl _) | (with_reducible exact Ent.nil _) | (apply Ent.fact; (focus (first | assumption | omega | decide | exact rfl | fail))) | (apply Ent.keep; (focus ((repeat (first | (with_reducible exact Rem.here _ _) | (with_reducible apply Rem.there) | fail)); done)); (focus (infer_instance))) | (apply Ent.cons; (focus ((repeat (first | (with_reducible exact Rem.here _ _) | (with_reducible apply Rem.there) | fail)); done))) | exact Ent.refl _ | exact Ent.nil _ | apply Ent.vecNil | apply Ent.roNil | fail)); done) (hres : fn.results = #[] := by rfl) : TK base n [] (fnPost P base fn val post F .normal) env l := tk_end0 hres x hx he
theorem rt1 (x : α) (hx : v1 = val x) (he : Ent l (post x ++ [F]) := by (try simp only [List.cons_append, List.nil_append]); (repeat (first | (with_reducible exact Ent.refl _) | (with_reducible exact Ent.nil _) | (apply Ent.fact; (focus (first | assumption | omega | decide | exact rfl | fail))) | (apply Ent.keep; (focus ((repeat (first | (with_reducible exact Rem.here _ _) | (with_reducible apply Rem.there) | fail)); done)); (focus (infer_instance))) | (apply Ent.cons; (focus ((repeat (first | (with_reducible exact Rem.here _ _) | (with_reducible apply Rem.there) | fail)); done))) | exact Ent.refl _ | exact Ent.nil _ | apply Ent.vecNil | apply Ent.roNil | fail)); done) (hres : fn.results = #[.tmp t] := by rfl) (h1 : look env t = some v1 := by rfl) : TK base n [] (fnPost P base fn val post F .ret) env l := tk_ret1 hres (.tmp h1) x hx he
theorem rz1 {k : IntKind} {i j : Int} (x : α) (he : Ent l (post x ++ [F]) := by (try simp only [List.cons_append, List.nil_append]); (repeat (first | (with_reducible exact Ent.refl _) | (with_reducible exact Ent.nil _) | (apply Ent.fact; (focus (first | assumption | omega | decide | exact rfl | fail))) | (apply Ent.keep; (focus ((repeat (first | (with_reducible exact Rem.here _ _) | (with_reducible apply Rem.there) | fail)); done)); (focus (infer_instance))) | (apply Ent.cons; (focus ((repeat (first | (with_reducible exact Rem.here _ _) | (with_reducible apply Rem.there) | fail)); done))) | exact Ent.refl _ | exact Ent.nil _ | apply Ent.vecNil | apply Ent.roNil | fail)); done) (hres : fn.results = #[.tmp t] := by rfl) (h1 : look env t = some (.int k i) := by rfl) (hx : val x = .int k j := by rfl) (hij : i = j := by omega) : TK base n [] (fnPost P base fn val post F .ret) env l := tk_ret1 hres (.tmp h1) x (by rw [hx, hij]) he
theorem ra1 {T T' b size : Nat} {vs : List Value} {rest : List HP} [IAgg P T size] (x : α) (hx : .agg vs.toArray = val x) (he : Ent l (post x ++ [F]) := by (try simp only [List.cons_append, List.nil_append]); (repeat (first | (with_reducible exact Ent.refl _) | (with_reducible exact Ent.nil _) | (apply Ent.fact; (focus (first | assumption | omega | decide | exact rfl | fail))) | (apply Ent.keep; (focus ((repeat (first | (with_reducible exact Rem.here _ _) | (with_reducible apply Rem.there) | fail)); done)); (focus (infer_instance))) | (apply Ent.cons; (focus ((repeat (first | (with_reducible exact Rem.here _ _) | (with_reducible apply Rem.there) | fail)); done))) | exact Ent.refl _ | exact Ent.nil _ | apply Ent.vecNil | apply Ent.roNil | fail)); done) (hres : fn.results = #[.cell t T] := by rfl) (hp : look env t = some (.pointer (some ⟨b, 0, none⟩)) := by rfl) (hr : Rem l (obj b T' vs) rest := by (repeat (first | (with_reducible exact Rem.here _ _) | (with_reducible apply Rem.there) | fail)); done) (hl : vs.length = size := by rfl) : TK base n [] (fnPost P base fn val post F .ret) env l := tk_ret1a hres hp hr hl x hx he
theorem ra2 {T T' b size : Nat} {vs : List Value} {rest : List HP} [IAgg P T size] (x : α) (hx : .tuple #[.agg vs.toArray, v2] = val x) (he : Ent l (post x ++ [F]) := by (try simp only [List.cons_append, List.nil_append]); (repeat (first | (with_reducible exact Ent.refl _) | (with_reducible exact Ent.nil _) | (apply Ent.fact; (focus (first | assumption | omega | decide | exact rfl | fail))) | (apply Ent.keep; (focus ((repeat (first | (with_reducible exact Rem.here _ _) | (with_reducible apply Rem.there) | fail)); done)); (focus (infer_instance))) | (apply Ent.cons; (focus ((repeat (first | (with_reducible exact Rem.here _ _) | (with_reducible apply Rem.there) | fail)); done))) | exact Ent.refl _ | exact Ent.nil _ | apply Ent.vecNil | apply Ent.roNil | fail)); done) (hres : fn.results = #[.cell t T, .tmp t2] := by rfl) (hp : look env t = some (.pointer (some ⟨b, 0, none⟩)) := by rfl) (hr : Rem l (obj b T' vs) rest := by (repeat (first | (with_reducible exact Rem.here _ _) | (with_reducible apply Rem.there) | fail)); done) (hl : vs.length = size := by rfl) (h2 : look env t2 = some v2 := by rfl) : TK base n [] (fnPost P base fn val post F .ret) env l := tk_ret2a hres hp hr hl h2 x hx he
theorem rt2 (x : α) (hx : .tuple #[v1, v2] = val x) (he : Ent l (post x ++ [F]) := by (try simp only [List.cons_append, List.nil_append]); (repeat (first | (with_reducible exact Ent.refl _) | (with_reducible exact Ent.nil _) | (apply Ent.fact; (focus (first | assumption | omega | decide | exact rfl | fail))) | (apply Ent.keep; (focus ((repeat (first | (with_reducible exact Rem.here _ _) | (with_reducible apply Rem.there) | fail)); done)); (focus (infer_instance))) | (apply Ent.cons; (focus ((repeat (first | (with_reducible exact Rem.here _ _) | (with_reducible apply Rem.there) | fail)); done))) | exact Ent.refl _ | exact Ent.nil _ | apply Ent.vecNil | apply Ent.roNil | fail)); done) (hres : fn.results = #[.tmp t, .tmp t2] := by rfl) (h1 : look env t = some v1 := by rfl) (h2 : look env t2 = some v2 := by rfl) : TK base n [] (fnPost P base fn val post F .ret) env l := tk_ret2 hres (.tmp h1) (.tmp h2) x hx he
end
inductive Kept : List Nat → Env → Env → Prop
  | nil (cs : List Nat) : Kept cs [] []
  | skip {cs : List Nat} {k : Nat} {v : Value} {e e' : Env} (h : cs.elem k = true) (t : Kept cs e e') : Kept cs ((k, v) :: e) e'
  | keep {cs : List Nat} {k : Nat} {v : Value} {e e' : Env} (h : cs.elem k = false) (t : Kept (k :: cs) e e') : Kept cs ((k, v) :: e) ((k, v) :: e')
theorem Kept.sub {cs : List Nat} {e e' : Env} (h : Kept cs e e') : ∀ t v, look e' t = some v → cs.elem t = false ∧ look e t = some v := by
  induction h with
  | nil => intro t v h; cases h
  | @skip cs k v e e' h _ ih =>
    intro t u hu
    obtain ⟨h1, h2⟩ := ih t u hu
    refine ⟨h1, ?_⟩
    rw [look_cons, if_neg (fun e => by subst e; rw [h] at h1; cases h1)]; exact h2
  | @keep cs k v e e' h _ ih =>
    intro t u hu
    rw [look_cons] at hu ⊢
    by_cases hk : k = t
    · subst hk
      rw [if_pos rfl] at hu ⊢
      exact ⟨h, hu⟩
    · rw [if_neg hk] at hu ⊢
      obtain ⟨h1, h2⟩ := ih t u hu
      refine ⟨?_, h2⟩
      rw [List.elem_cons] at h1
      cases hc : (t == k)
      · rw [hc] at h1; exact h1
      · exact absurd (eq_of_beq hc).symm hk
inductive Lps (all : List Nat) (env : Env) : List Nat → Env → Prop
  | chg {k : Nat} {v : Value} {ks : List Nat} {e : Env} (h : look env k = some v) (t : Lps all env ks e) : Lps all env (k :: ks) ((k, v) :: e)
  | rest {e : Env} (t : Kept all env e) : Lps all env [] e
theorem Lps.sub {cs ks : List Nat} {e : Env} (h : Lps cs env ks e) : ∀ t v, look e t = some v → look env t = some v := by
  induction h with
  | @chg k v ks e h _ ih =>
    intro t u hu
    rw [look_cons] at hu
    by_cases hk : k = t
    · subst hk; rw [if_pos rfl] at hu; rw [h]; exact hu
    · rw [if_neg hk] at hu; exact ih t u hu
  | rest h => exact fun t v hv => (h.sub t v hv).2
def Again {ι : Type} (base : World) (n : Nat) (ds : List Deferred) (K : Act → World → Prop) (m : ι → Nat) (I : ι → Env) (L : ι → List HP) (i : ι) : Prop := ∀ env l j, m j < m i → Sub env (I j) → Ent l (L j) → TK base n ds K env l
theorem again {ι : Type} {K : Act → World → Prop} {m : ι → Nat} {I : ι → Env} {L : ι → List HP} {i : ι} (hA : Again base n ds K m I L i) (j : ι) (hm : m j < m i := by (try dsimp only); omega) (hs : Sub env (I j) := by (repeat (first | exact Sub.nil | (apply Sub.cons; exact rfl))); done) (he : Ent l (L j) := by (try simp only [List.cons_append, List.nil_append]); (repeat (first | (with_reducible exact Ent.refl _) | (with_reducible exact Ent.nil _) | (apply Ent.fact; (focus (first | assumption | omega | decide | exact rfl | fail))) | (apply Ent.keep; (focus ((repeat (first | (with_reducible exact Rem.here _ _) | (with_reducible apply Rem.there) | fail)); done)); (focus (infer_instance))) | (apply Ent.cons; (focus ((repeat (first | (with_reducible exact Rem.here _ _) | (with_reducible apply Rem.there) | fail)); done))) | exact Ent.refl _ | exact Ent.nil _ | apply Ent.vecNil | apply Ent.roNil | fail)); done) : TK base n ds K env l := hA _ _ j hm hs he
theorem tc_lp {ι : Type} {c : Code} (ks : List Nat) (I : Env → ι → Env) (L : ι → List HP) (m : ι → Nat) (i0 : ι) {keep : Env} (round : ∀ (K : Act → World → Prop) (i : ι), Again base n ds K m (I keep) L i → TC r P base n ds c (Th K Q) (I keep i) (L i))
    (hs : Lps ks env ks (I keep i0) := by (repeat (first | (apply Lps.chg; exact rfl) | fail)); apply Lps.rest; (repeat (first | exact Kept.nil _ | (apply Kept.skip; exact rfl) | (apply Kept.keep; exact rfl) | fail)); done) (hl : Ent l (L i0) := by (try simp only [List.cons_append, List.nil_append]); (repeat (first | (with_reducible exact Ent.refl _) | (with_reducible exact Ent.nil _) | (apply Ent.fact; (focus (first | assumption | omega | decide | exact rfl | fail))) | (apply Ent.keep; (focus ((repeat (first | (with_reducible exact Rem.here _ _) | (with_reducible apply Rem.there) | fail)); done)); (focus (infer_instance))) | (apply Ent.cons; (focus ((repeat (first | (with_reducible exact Rem.here _ _) | (with_reducible apply Rem.there) | fail)); done))) | exact Ent.refl _ | exact Ent.nil _ | apply Ent.vecNil | apply Ent.roNil | fail)); done) : TC r P base n ds (.loop c) Q env l := fun _a _w ha hw =>
  wpIn_loop_ix (fun i a w => AS n ds (I keep i) a ∧ St base (L i) w) m
    (fun i _ _ h => round _ i (fun _ _ j hj s e _ _ ha' hw' => ⟨j, hj, ha'.sub s, hw'.ent e⟩) _ _ h.1 h.2) i0 ⟨ha.subs hs.sub, hw.ent hl⟩
/-! ### Drawn regions -/
theorem tail {id : Nat} {lo : List Oper} (k : Nat) (h : TQ r P n ds lo.toArray l (lo.take k) env (fun env' => TL r P base n ds lo.toArray (lo.drop k) Q env' l)) (hB : drawB P lo.toArray n = true := by kernel_rfl) (hx : Region.lexTailB .any lo.toArray k = true := by decide +kernel) : TC r P base n ds (.region id lo.toArray true) Q env l := tc_tail k hB hx h
section
variable {ops : Array Oper} {F : List HP} {listed : Array Bool} {fuel fuel0 : Nat} {los : List Oper}
theorem tks (is : List Nat) (fuel : Nat) (h : TQ r P n ds ops lc los env (fun env' => WA r P base n ds ops Q lc fuel (setAll is listed) env' F)) (hB : drawB P ops n = true := by kernel_rfl) (he : OpsAt ops is los := by (repeat (first | exact OpsAt.nil | (apply OpsAt.cons; exact rfl))); done) (hf : fuel0 = los.length + fuel := by exact rfl) (hx : takesB ops is listed = true := by decide +kernel) : WA r P base n ds ops Q lc fuel0 listed env F := wa_takes is fuel hB he hf hx h
theorem hv {α : Type} {val : α → Value} {post F' : α → List HP} {d : Nat} (i : Nat) (h : ∀ x, WA r P base n ds ops Q lc fuel (listed.setIfInBounds i true) ((d, val x) :: env) (F' x)) (hi : ops[i]? = some o := by rfl) (hd : o.dst = some d := by rfl) (hr : Region.ready .any ops listed = [i] := by decide +kernel)
    (hq : OpN r P ops o n ds env (lc ++ F) val post := by (try simp only [List.cons_append, List.nil_append]); (first | (apply opn_alloc; (focus ((first | exact want_none rfl | exact want_yes rfl rfl rfl rfl rfl | fail))); (focus (first | exact IsCells.one rfl | exact IsCells.agg _ rfl | fail))) | (apply opn_box; (focus ((first | exact want_none rfl | exact want_yes rfl rfl rfl rfl rfl | fail))); exact rfl; (focus (first | exact IsCells.one rfl | exact IsCells.agg _ rfl | fail))) | (apply opn_storeObj; (focus ((first | exact want_none rfl | exact want_yes rfl rfl rfl rfl rfl | fail))); exact rfl; exact rfl; (focus (first | exact IsCells.one rfl | exact IsCells.agg _ rfl | fail)); exact rfl; (focus ((repeat (first | (with_reducible exact Rep.here _) | (with_reducible apply Rep.there) | fail)); done)); exact rfl; (focus (simp only [setL, List.set_cons_zero, List.set_cons_succ, Nat.zero_add]; exact rfl))) | (apply opn_storeIx; (focus ((first | exact want_none rfl | exact want_yes rfl rfl rfl rfl rfl | fail))); exact rfl; exact rfl; (focus (first | exact IsCells.one rfl | exact IsCells.agg _ rfl | fail)); exact rfl; (focus ((repeat (first | (with_reducible exact Rem.here _ _) | (with_reducible apply Rem.there) | fail)); done)); (focus (infer_instance)); (focus (omega)); (focus ((repeat (first | (with_reducible exact Rep.here _) | (with_reducible apply Rep.there) | fail)); done))) | (apply opn_storeIx0; (focus ((first | exact want_none rfl | exact want_yes rfl rfl rfl rfl rfl | fail))); exact rfl; exact rfl; (focus (first | exact IsCells.one rfl | exact IsCells.agg _ rfl | fail)); exact rfl; (focus ((repeat (first | (with_reducible exact Rem.here _ _) | (with_reducible apply Rem.there) | fail)); done)); (focus (infer_instance)); (focus (omega)); (focus ((repeat (first | (with_reducible exact Rep.here _) | (with_reducible apply Rep.there) | fail)); done))) | (apply opn_buildSlice1; (focus ((first | exact want_none rfl | exact want_yes rfl rfl rfl rfl rfl | fail))); (focus ((repeat (first | exact Evs.nil | (apply Evs.cons; exact rfl) | fail)); done)); exact rfl; exact rfl; exact rfl; exact rfl) | (apply opn_appVV; (focus ((first | exact want_none rfl | exact want_yes rfl rfl rfl rfl rfl | fail))); exact rfl; exact rfl; (focus ((repeat (first | (with_reducible exact Rem.here _ _) | (with_reducible apply Rem.there) | fail)); done)); (focus ((repeat (first | (with_reducible exact Rem.here _ _) | (with_reducible apply Rem.there) | fail)); done)); (focus (infer_instance)); (focus (first | exact IsCells.one rfl | exact IsCells.agg _ rfl | fail)); exact rfl; (focus (omega)); (focus (omega))) | (apply opn_appVS; (focus ((first | exact want_none rfl | exact want_yes rfl rfl rfl rfl rfl | fail))); exact rfl; exact rfl; (focus ((repeat (first | (with_reducible exact Rem.here _ _) | (with_reducible apply Rem.there) | fail)); done)); (focus ((repeat (first | (with_reducible exact Rem.here _ _) | (with_reducible apply Rem.there) | fail)); done)); (focus (infer_instance)); (focus (first | exact IsCells.one rfl | exact IsCells.agg _ rfl | fail)); exact rfl; (focus (omega)); (focus (omega))) | (apply opn_appNV; (focus ((first | exact want_none rfl | exact want_yes rfl rfl rfl rfl rfl | fail))); exact rfl; exact rfl; (focus ((repeat (first | (with_reducible exact Rem.here _ _) | (with_reducible apply Rem.there) | fail)); done)); (focus (infer_instance)); (focus (first | exact IsCells.one rfl | exact IsCells.agg _ rfl | fail)); exact rfl; (focus (omega)); (focus (omega))) | (apply opn_appNS; (focus ((first | exact want_none rfl | exact want_yes rfl rfl rfl rfl rfl | fail))); exact rfl; exact rfl; (focus ((repeat (first | (with_reducible exact Rem.here _ _) | (with_reducible apply Rem.there) | fail)); done)); (focus (infer_instance)); (focus (first | exact IsCells.one rfl | exact IsCells.agg _ rfl | fail)); exact rfl; (focus (omega)); (focus (omega))) | (apply opn_make; (focus ((first | exact want_none rfl | exact want_yes rfl rfl rfl rfl rfl | fail))); exact rfl; exact rfl; exact rfl; exact rfl; (focus (infer_instance)); (focus (first | exact IsCells.one rfl | exact IsCells.agg _ rfl | fail)); exact rfl; (focus (omega)); (focus (omega)); (focus (omega)); exact rfl) | (apply opn_slLoS; (focus ((first | exact want_none rfl | exact want_yes rfl rfl rfl rfl rfl | fail))); exact rfl; exact rfl; (focus ((repeat (first | (with_reducible exact Rem.here _ _) | (with_reducible apply Rem.there) | fail)); done)); (focus (infer_instance)); (focus (omega))) | (apply opn_slHiS; (focus ((first | exact want_none rfl | exact want_yes rfl rfl rfl rfl rfl | fail))); exact rfl; exact rfl; (focus ((repeat (first | (with_reducible exact Rem.here _ _) | (with_reducible apply Rem.there) | fail)); done)); (focus (infer_instance)); (focus (omega))) | (apply opn_slLHS; (focus ((first | exact want_none rfl | exact want_yes rfl rfl rfl rfl rfl | fail))); exact rfl; exact rfl; exact rfl; (focus ((repeat (first | (with_reducible exact Rem.here _ _) | (with_reducible apply Rem.there) | fail)); done)); (focus (infer_instance)); (focus (infer_instance)); (focus (omega))) | (apply opn_callK; (focus ((first | exact want_none rfl | exact want_yes rfl rfl rfl rfl rfl | fail))); (focus ((repeat (first | exact Evs.nil | (apply Evs.cons; exact rfl) | fail)); done)); (intro hs; apply hs); (all_goals (try (focus ((repeat (first | (with_reducible exact PickF.nil _) | (apply PickF.keep; (focus ((repeat (first | (with_reducible exact Rem.here _ _) | (with_reducible apply Rem.there) | fail)); done)); (focus (infer_instance))) | (apply PickF.cons; (focus ((repeat (first | (with_reducible exact Rem.here _ _) | (with_reducible apply Rem.there) | fail)); done))) | (apply PickF.frz; (focus ((repeat (first | (with_reducible exact Rem.here _ _) | (with_reducible apply Rem.there) | fail)); done))) | apply PickF.ro0 | exact PickF.nil _ | fail)); done)))); (all_goals (first | assumption | (infer_instance) | omega | exact rfl | decide | fail))) | (apply opn_appVT; (focus ((first | exact want_none rfl | exact want_yes rfl rfl rfl rfl rfl | fail))); exact rfl; exact rfl; (focus ((repeat (first | (with_reducible exact Rem.here _ _) | (with_reducible apply Rem.there) | fail)); done)); (focus ((repeat (first | (with_reducible exact Rem.here _ _) | (with_reducible apply Rem.there) | fail)); done)); (focus (infer_instance)); (focus (first | exact IsCells.one rfl | exact IsCells.agg _ rfl | fail)); exact rfl; (focus (omega)); (focus (omega)); (focus (omega))) | (apply opn_appNT; (focus ((first | exact want_none rfl | exact want_yes rfl rfl rfl rfl rfl | fail))); exact rfl; exact rfl; (focus ((repeat (first | (with_reducible exact Rem.here _ _) | (with_reducible apply Rem.there) | fail)); done)); (focus (infer_instance)); (focus (first | exact IsCells.one rfl | exact IsCells.agg _ rfl | fail)); exact rfl; (focus (omega)); (focus (omega)); (focus (omega))) | (apply opn_appVD; (focus ((first | exact want_none rfl | exact want_yes rfl rfl rfl rfl rfl | fail))); exact rfl; exact rfl; (focus ((repeat (first | (with_reducible exact Rem.here _ _) | (with_reducible apply Rem.there) | fail)); done)); (focus ((repeat (first | (with_reducible exact Rem.here _ _) | (with_reducible apply Rem.there) | fail)); done)); (focus (infer_instance)); (focus (first | exact IsCells.one rfl | exact IsCells.agg _ rfl | fail)); exact rfl; (focus (omega)); (focus (omega)); (focus (omega))) | fail)) (hp : ∀ x, Pick (post x) lc (F' x) := by intro x; (try simp only [List.cons_append, List.nil_append]); ((repeat (first | (with_reducible exact Pick.nil _) | (apply Pick.cons; (focus ((repeat (first | (with_reducible exact Rem.here _ _) | (with_reducible apply Rem.there) | fail)); done))) | fail)); done)) : WA r P base n ds ops Q lc (fuel + 1) listed env F :=
  wa_hv i hi hr hq hp fun x => by rw [hd]; exact h x
theorem hv0 {α : Type} {val : α → Value} {post F' : α → List HP} (i : Nat) (h : ∀ x, WA r P base n ds ops Q lc fuel (listed.setIfInBounds i true) env (F' x)) (hi : ops[i]? = some o := by rfl) (hd : o.dst = none := by rfl) (hr : Region.ready .any ops listed = [i] := by decide +kernel)
    (hq : OpN r P ops o n ds env (lc ++ F) val post := by (try simp only [List.cons_append, List.nil_append]); (first | (apply opn_alloc; (focus ((first | exact want_none rfl | exact want_yes rfl rfl rfl rfl rfl | fail))); (focus (first | exact IsCells.one rfl | exact IsCells.agg _ rfl | fail))) | (apply opn_box; (focus ((first | exact want_none rfl | exact want_yes rfl rfl rfl rfl rfl | fail))); exact rfl; (focus (first | exact IsCells.one rfl | exact IsCells.agg _ rfl | fail))) | (apply opn_storeObj; (focus ((first | exact want_none rfl | exact want_yes rfl rfl rfl rfl rfl | fail))); exact rfl; exact rfl; (focus (first | exact IsCells.one rfl | exact IsCells.agg _ rfl | fail)); exact rfl; (focus ((repeat (first | (with_reducible exact Rep.here _) | (with_reducible apply Rep.there) | fail)); done)); exact rfl; (focus (simp only [setL, List.set_cons_zero, List.set_cons_succ, Nat.zero_add]; exact rfl))) | (apply opn_storeIx; (focus ((first | exact want_none rfl | exact want_yes rfl rfl rfl rfl rfl | fail))); exact rfl; exact rfl; (focus (first | exact IsCells.one rfl | exact IsCells.agg _ rfl | fail)); exact rfl; (focus ((repeat (first | (with_reducible exact Rem.here _ _) | (with_reducible apply Rem.there) | fail)); done)); (focus (infer_instance)); (focus (omega)); (focus ((repeat (first | (with_reducible exact Rep.here _) | (with_reducible apply Rep.there) | fail)); done))) | (apply opn_storeIx0; (focus ((first | exact want_none rfl | exact want_yes rfl rfl rfl rfl rfl | fail))); exact rfl; exact rfl; (focus (first | exact IsCells.one rfl | exact IsCells.agg _ rfl | fail)); exact rfl; (focus ((repeat (first | (with_reducible exact Rem.here _ _) | (with_reducible apply Rem.there) | fail)); done)); (focus (infer_instance)); (focus (omega)); (focus ((repeat (first | (with_reducible exact Rep.here _) | (with_reducible apply Rep.there) | fail)); done))) | (apply opn_buildSlice1; (focus ((first | exact want_none rfl | exact want_yes rfl rfl rfl rfl rfl | fail))); (focus ((repeat (first | exact Evs.nil | (apply Evs.cons; exact rfl) | fail)); done)); exact rfl; exact rfl; exact rfl; exact rfl) | (apply opn_appVV; (focus ((first | exact want_none rfl | exact want_yes rfl rfl rfl rfl rfl | fail))); exact rfl; exact rfl; (focus ((repeat (first | (with_reducible exact Rem.here _ _) | (with_reducible apply Rem.there) | fail)); done)); (focus ((repeat (first | (with_reducible exact Rem.here _ _) | (with_reducible apply Rem.there) | fail)); done)); (focus (infer_instance)); (focus (first | exact IsCells.one rfl | exact IsCells.agg _ rfl | fail)); exact rfl; (focus (omega)); (focus (omega))) | (apply opn_appVS; (focus ((first | exact want_none rfl | exact want_yes rfl rfl rfl rfl rfl | fail))); exact rfl; exact rfl; (focus ((repeat (first | (with_reducible exact Rem.here _ _) | (with_reducible apply Rem.there) | fail)); done)); (focus ((repeat (first | (with_reducible exact Rem.here _ _) | (with_reducible apply Rem.there) | fail)); done)); (focus (infer_instance)); (focus (first | exact IsCells.one rfl | exact IsCells.agg _ rfl | fail)); exact rfl; (focus (omega)); (focus (omega))) | (apply opn_appNV; (focus ((first | exact want_none rfl | exact want_yes rfl rfl rfl rfl rfl | fail))); exact rfl; exact rfl; (focus ((repeat (first | (with_reducible exact Rem.here _ _) | (with_reducible apply Rem.there) | fail)); done)); (focus (infer_instance)); (focus (first | exact IsCells.one rfl | exact IsCells.agg _ rfl | fail)); exact rfl; (focus (omega)); (focus (omega))) | (apply opn_appNS; (focus ((first | exact want_none rfl | exact want_yes rfl rfl rfl rfl rfl | fail))); exact rfl; exact rfl; (focus ((repeat (first | (with_reducible exact Rem.here _ _) | (with_reducible apply Rem.there) | fail)); done)); (focus (infer_instance)); (focus (first | exact IsCells.one rfl | exact IsCells.agg _ rfl | fail)); exact rfl; (focus (omega)); (focus (omega))) | (apply opn_make; (focus ((first | exact want_none rfl | exact want_yes rfl rfl rfl rfl rfl | fail))); exact rfl; exact rfl; exact rfl; exact rfl; (focus (infer_instance)); (focus (first | exact IsCells.one rfl | exact IsCells.agg _ rfl | fail)); exact rfl; (focus (omega)); (focus (omega)); (focus (omega)); exact rfl) | (apply opn_slLoS; (focus ((first | exact want_none rfl | exact want_yes rfl rfl rfl rfl rfl | fail))); exact rfl; exact rfl; (focus ((repeat (first | (with_reducible exact Rem.here _ _) | (with_reducible apply Rem.there) | fail)); done)); (focus (infer_instance)); (focus (omega))) | (apply opn_slHiS; (focus ((first | exact want_none rfl | exact want_yes rfl rfl rfl rfl rfl | fail))); exact rfl; exact rfl; (focus ((repeat (first | (with_reducible exact Rem.here _ _) | (with_reducible apply Rem.there) | fail)); done)); (focus (infer_instance)); (focus (omega))) | (apply opn_slLHS; (focus ((first | exact want_none rfl | exact want_yes rfl rfl rfl rfl rfl | fail))); exact rfl; exact rfl; exact rfl; (focus ((repeat (first | (with_reducible exact Rem.here _ _) | (with_reducible apply Rem.there) | fail)); done)); (focus (infer_instance)); (focus (infer_instance)); (focus (omega))) | (apply opn_callK; (focus ((first | exact want_none rfl | exact want_yes rfl rfl rfl rfl rfl | fail))); (focus ((repeat (first | exact Evs.nil | (apply Evs.cons; exact rfl) | fail)); done)); (intro hs; apply hs); (all_goals (try (focus ((repeat (first | (with_reducible exact PickF.nil _) | (apply PickF.keep; (focus ((repeat (first | (with_reducible exact Rem.here _ _) | (with_reducible apply Rem.there) | fail)); done)); (focus (infer_instance))) | (apply PickF.cons; (focus ((repeat (first | (with_reducible exact Rem.here _ _) | (with_reducible apply Rem.there) | fail)); done))) | (apply PickF.frz; (focus ((repeat (first | (with_reducible exact Rem.here _ _) | (with_reducible apply Rem.there) | fail)); done))) | apply PickF.ro0 | exact PickF.nil _ | fail)); done)))); (all_goals (first | assumption | (infer_instance) | omega | exact rfl | decide | fail))) | (apply opn_appVT; (focus ((first | exact want_none rfl | exact want_yes rfl rfl rfl rfl rfl | fail))); exact rfl; exact rfl; (focus ((repeat (first | (with_reducible exact Rem.here _ _) | (with_reducible apply Rem.there) | fail)); done)); (focus ((repeat (first | (with_reducible exact Rem.here _ _) | (with_reducible apply Rem.there) | fail)); done)); (focus (infer_instance)); (focus (first | exact IsCells.one rfl | exact IsCells.agg _ rfl | fail)); exact rfl; (focus (omega)); (focus (omega)); (focus (omega))) | (apply opn_appNT; (focus ((first | exact want_none rfl | exact want_yes rfl rfl rfl rfl rfl | fail))); exact rfl; exact rfl; (focus ((repeat (first | (with_reducible exact Rem.here _ _) | (with_reducible apply Rem.there) | fail)); done)); (focus (infer_instance)); (focus (first | exact IsCells.one rfl | exact IsCells.agg _ rfl | fail)); exact rfl; (focus (omega)); (focus (omega)); (focus (omega))) | (apply opn_appVD; (focus ((first | exact want_none rfl | exact want_yes rfl rfl rfl rfl rfl | fail))); exact rfl; exact rfl; (focus ((repeat (first | (with_reducible exact Rem.here _ _) | (with_reducible apply Rem.there) | fail)); done)); (focus ((repeat (first | (with_reducible exact Rem.here _ _) | (with_reducible apply Rem.there) | fail)); done)); (focus (infer_instance)); (focus (first | exact IsCells.one rfl | exact IsCells.agg _ rfl | fail)); exact rfl; (focus (omega)); (focus (omega)); (focus (omega))) | fail)) (hp : ∀ x, Pick (post x) lc (F' x) := by intro x; (try simp only [List.cons_append, List.nil_append]); ((repeat (first | (with_reducible exact Pick.nil _) | (apply Pick.cons; (focus ((repeat (first | (with_reducible exact Rem.here _ _) | (with_reducible apply Rem.there) | fail)); done))) | fail)); done)) : WA r P base n ds ops Q lc (fuel + 1) listed env F :=
  wa_hv i hi hr hq hp fun x => by rw [hd]; exact h x
theorem hv2 {α β : Type} {val1 : α → Value} {post1 F1 : α → List HP} {val2 : β → Value} {post2 F2 : β → List HP} {d1 d2 : Nat} {o1 o2 : Oper} (i j : Nat) (h1 : ∀ x, WA r P base n ds ops Q lc fuel (listed.setIfInBounds i true) ((d1, val1 x) :: env) (F1 x)) (h2 : ∀ x, WA r P base n ds ops Q lc fuel (listed.setIfInBounds j true) ((d2, val2 x) :: env) (F2 x))
    (hi : ops[i]? = some o1 := by rfl) (hj : ops[j]? = some o2 := by rfl) (hd1 : o1.dst = some d1 := by rfl) (hd2 : o2.dst = some d2 := by rfl) (hr : Region.ready .any ops listed = [i, j] := by decide +kernel)
    (hq1 : OpN r P ops o1 n ds env (lc ++ F) val1 post1 := by (try simp only [List.cons_append, List.nil_append]); (first | (apply opn_alloc; (focus ((first | exact want_none rfl | exact want_yes rfl rfl rfl rfl rfl | fail))); (focus (first | exact IsCells.one rfl | exact IsCells.agg _ rfl | fail))) | (apply opn_box; (focus ((first | exact want_none rfl | exact want_yes rfl rfl rfl rfl rfl | fail))); exact rfl; (focus (first | exact IsCells.one rfl | exact IsCells.agg _ rfl | fail))) | (apply opn_storeObj; (focus ((first | exact want_none rfl | exact want_yes rfl rfl rfl rfl rfl | fail))); exact rfl; exact rfl; (focus (first | exact IsCells.one rfl | exact IsCells.agg _ rfl | fail)); exact rfl; (focus ((repeat (first | (with_reducible exact Rep.here _) | (with_reducible apply Rep.there) | fail)); done)); exact rfl; (focus (simp only [setL, List.set_cons_zero, List.set_cons_succ, Nat.zero_add]; exact rfl))) | (apply opn_storeIx; (focus ((first | exact want_none rfl | exact want_yes rfl rfl rfl rfl rfl | fail))); exact rfl; exact rfl; (focus (first | exact IsCells.one rfl | exact IsCells.agg _ rfl | fail)); exact rfl; (focus ((repeat (first | (with_reducible exact Rem.here _ _) | (with_reducible apply Rem.there) | fail)); done)); (focus (infer_instance)); (focus (omega)); (focus ((repeat (first | (with_reducible exact Rep.here _) | (with_reducible apply Rep.there) | fail)); done))) | (apply opn_storeIx0; (focus ((first | exact want_none rfl | exact want_yes rfl rfl rfl rfl rfl | fail))); exact rfl; exact rfl; (focus (first | exact IsCells.one rfl | exact IsCells.agg _ rfl | fail)); exact rfl; (focus ((repeat (first | (with_reducible exact Rem.here _ _) | (with_reducible apply Rem.there) | fail)); done)); (focus (infer_instance)); (focus (omega)); (focus ((repeat (first | (with_reducible exact Rep.here _) | (with_reducible apply Rep.there) | fail)); done))) | (apply opn_buildSlice1; (focus ((first | exact want_none rfl | exact want_yes rfl rfl rfl rfl rfl | fail))); (focus ((repeat (first | exact Evs.nil | (apply Evs.cons; exact rfl) | fail)); done)); exact rfl; exact rfl; exact rfl; exact rfl) | (apply opn_appVV; (focus ((first | exact want_none rfl | exact want_yes rfl rfl rfl rfl rfl | fail))); exact rfl; exact rfl; (focus ((repeat (first | (with_reducible exact Rem.here _ _) | (with_reducible apply Rem.there) | fail)); done)); (focus ((repeat (first | (with_reducible exact Rem.here _ _) | (with_reducible apply Rem.there) | fail)); done)); (focus (infer_instance)); (focus (first | exact IsCells.one rfl | exact IsCells.agg _ rfl | fail)); exact rfl; (focus (omega)); (focus (omega))) | (apply opn_appVS; (focus ((first | exact want_none rfl | exact want_yes rfl rfl rfl rfl rfl | fail))); exact rfl; exact rfl; (focus ((repeat (first | (with_reducible exact Rem.here _ _) | (with_reducible apply Rem.there) | fail)); done)); (focus ((repeat (first | (with_reducible exact Rem.here _ _) | (with_reducible apply Rem.there) | fail)); done)); (focus (infer_instance)); (focus (first | exact IsCells.one rfl | exact IsCells.agg _ rfl | fail)); exact rfl; (focus (omega)); (focus (omega))) | (apply opn_appNV; (focus ((first | exact want_none rfl | exact want_yes rfl rfl rfl rfl rfl | fail))); exact rfl; exact rfl; (focus ((repeat (first | (with_reducible exact Rem.here _ _) | (with_reducible apply Rem.there) | fail)); done)); (focus (infer_instance)); (focus (first | exact IsCells.one rfl | exact IsCells.agg _ rfl | fail)); exact rfl; (focus (omega)); (focus (omega))) | (apply opn_appNS; (focus ((first | exact want_none rfl | exact want_yes rfl rfl rfl rfl rfl | fail))); exact rfl; exact rfl; (focus ((repeat (first | (with_reducible exact Rem.here _ _) | (with_reducible apply Rem.there) | fail)); done)); (focus (infer_instance)); (focus (first | exact IsCells.one rfl | exact IsCells.agg _ rfl | fail)); exact rfl; (focus (omega)); (focus (omega))) | (apply opn_make; (focus ((first | exact want_none rfl | exact want_yes rfl rfl rfl rfl rfl | fail))); exact rfl; exact rfl; exact rfl; exact rfl; (focus (infer_instance)); (focus (first | exact IsCells.one rfl | exact IsCells.agg _ rfl | fail)); exact rfl; (focus (omega)); (focus (omega)); (focus (omega)); exact rfl) | (apply opn_slLoS; (focus ((first | exact want_none rfl | exact want_yes rfl rfl rfl rfl rfl | fail))); exact rfl; exact rfl; (focus ((repeat (first | (with_reducible exact Rem.here _ _) | (with_reducible apply Rem.there) | fail)); done)); (focus (infer_instance)); (focus (omega))) | (apply opn_slHiS; (focus ((first | exact want_none rfl | exact want_yes rfl rfl rfl rfl rfl | fail))); exact rfl; exact rfl; (focus ((repeat (first | (with_reducible exact Rem.here _ _) | (with_reducible apply Rem.there) | fail)); done)); (focus (infer_instance)); (focus (omega))) | (apply opn_slLHS; (focus ((first | exact want_none rfl | exact want_yes rfl rfl rfl rfl rfl | fail))); exact rfl; exact rfl; exact rfl; (focus ((repeat (first | (with_reducible exact Rem.here _ _) | (with_reducible apply Rem.there) | fail)); done)); (focus (infer_instance)); (focus (infer_instance)); (focus (omega))) | (apply opn_callK; (focus ((first | exact want_none rfl | exact want_yes rfl rfl rfl rfl rfl | fail))); (focus ((repeat (first | exact Evs.nil | (apply Evs.cons; exact rfl) | fail)); done)); (intro hs; apply hs); (all_goals (try (focus ((repeat (first | (with_reducible exact PickF.nil _) | (apply PickF.keep; (focus ((repeat (first | (with_reducible exact Rem.here _ _) | (with_reducible apply Rem.there) | fail)); done)); (focus (infer_instance))) | (apply PickF.cons; (focus ((repeat (first | (with_reducible exact Rem.here _ _) | (with_reducible apply Rem.there) | fail)); done))) | (apply PickF.frz; (focus ((repeat (first | (with_reducible exact Rem.here _ _) | (with_reducible apply Rem.there) | fail)); done))) | apply PickF.ro0 | exact PickF.nil _ | fail)); done)))); (all_goals (first | assumption | (infer_instance) | omega | exact rfl | decide | fail))) | (apply opn_appVT; (focus ((first | exact want_none rfl | exact want_yes rfl rfl rfl rfl rfl | fail))); exact rfl; exact rfl; (focus ((repeat (first | (with_reducible exact Rem.here _ _) | (with_reducible apply Rem.there) | fail)); done)); (focus ((repeat (first | (with_reducible exact Rem.here _ _) | (with_reducible apply Rem.there) | fail)); done)); (focus (infer_instance)); (focus (first | exact IsCells.one rfl | exact IsCells.agg _ rfl | fail)); exact rfl; (focus (omega)); (focus (omega)); (focus (omega))) | (apply opn_appNT; (focus ((first | exact want_none rfl | exact want_yes rfl rfl rfl rfl rfl | fail))); exact rfl; exact rfl; (focus ((repeat (first | (with_reducible exact Rem.here _ _) | (with_reducible apply Rem.there) | fail)); done)); (focus (infer_instance)); (focus (first | exact IsCells.one rfl | exact IsCells.agg _ rfl | fail)); exact rfl; (focus (omega)); (focus (omega)); (focus (omega))) | (apply opn_appVD; (focus ((first | exact want_none rfl | exact want_yes rfl rfl rfl rfl rfl | fail))); exact rfl; exact rfl; (focus ((repeat (first | (with_reducible exact Rem.here _ _) | (with_reducible apply Rem.there) | fail)); done)); (focus ((repeat (first | (with_reducible exact Rem.here _ _) | (with_reducible apply Rem.there) | fail)); done)); (focus (infer_instance)); (focus (first | exact IsCells.one rfl | exact IsCells.agg _ rfl | fail)); exact rfl; (focus (omega)); (focus (omega)); (focus (omega))) | fail)) (hp1 : ∀ x, Pick (post1 x) lc (F1 x) := by intro x; (try simp only [List.cons_append, List.nil_append]); ((repeat (first | (with_reducible exact Pick.nil _) | (apply Pick.cons; (focus ((repeat (first | (with_reducible exact Rem.here _ _) | (with_reducible apply Rem.there) | fail)); done))) | fail)); done))
    (hq2 : OpN r P ops o2 n ds env (lc ++ F) val2 post2 := by (try simp only [List.cons_append, List.nil_append]); (first | (apply opn_alloc; (focus ((first | exact want_none rfl | exact want_yes rfl rfl rfl rfl rfl | fail))); (focus (first | exact IsCells.one rfl | exact IsCells.agg _ rfl | fail))) | (apply opn_box; (focus ((first | exact want_none rfl | exact want_yes rfl rfl rfl rfl rfl | fail))); exact rfl; (focus (first | exact IsCells.one rfl | exact IsCells.agg _ rfl | fail))) | (apply opn_storeObj; (focus ((first | exact want_none rfl | exact want_yes rfl rfl rfl rfl rfl | fail))); exact rfl; exact rfl; (focus (first | exact IsCells.one rfl | exact IsCells.agg _ rfl | fail)); exact rfl; (focus ((repeat (first | (with_reducible exact Rep.here _) | (with_reducible apply Rep.there) | fail)); done)); exact rfl; (focus (simp only [setL, List.set_cons_zero, List.set_cons_succ, Nat.zero_add]; exact rfl))) | (apply opn_storeIx; (focus ((first | exact want_none rfl | exact want_yes rfl rfl rfl rfl rfl | fail))); exact rfl; exact rfl; (focus (first | exact IsCells.one rfl | exact IsCells.agg _ rfl | fail)); exact rfl; (focus ((repeat (first | (with_reducible exact Rem.here _ _) | (with_reducible apply Rem.there) | fail)); done)); (focus (infer_instance)); (focus (omega)); (focus ((repeat (first | (with_reducible exact Rep.here _) | (with_reducible apply Rep.there) | fail)); done))) | (apply opn_storeIx0; (focus ((first | exact want_none rfl | exact want_yes rfl rfl rfl rfl rfl | fail))); exact rfl; exact rfl; (focus (first | exact IsCells.one rfl | exact IsCells.agg _ rfl | fail)); exact rfl; (focus ((repeat (first | (with_reducible exact Rem.here _ _) | (with_reducible apply Rem.there) | fail)); done)); (focus (infer_instance)); (focus (omega)); (focus ((repeat (first | (with_reducible exact Rep.here _) | (with_reducible apply Rep.there) | fail)); done))) | (apply opn_buildSlice1; (focus ((first | exact want_none rfl | exact want_yes rfl rfl rfl rfl rfl | fail))); (focus ((repeat (first | exact Evs.nil | (apply Evs.cons; exact rfl) | fail)); done)); exact rfl; exact rfl; exact rfl; exact rfl) | (apply opn_appVV; (focus ((first | exact want_none rfl | exact want_yes rfl rfl rfl rfl rfl | fail))); exact rfl; exact rfl; (focus ((repeat (first | (with_reducible exact Rem.here _ _) | (with_reducible apply Rem.there) | fail)); done)); (focus ((repeat (first | (with_reducible exact Rem.here _ _) | (with_reducible apply Rem.there) | fail)); done)); (focus (infer_instance)); (focus (first | exact IsCells.one rfl | exact IsCells.agg _ rfl | fail)); exact rfl; (focus (omega)); (focus (omega))) | (apply opn_appVS; (focus ((first | exact want_none rfl | exact want_yes rfl rfl rfl rfl rfl | fail))); exact rfl; exact rfl; (focus ((repeat (first | (with_reducible exact Rem.here _ _) | (with_reducible apply Rem.there) | fail)); done)); (focus ((repeat (first | (with_reducible exact Rem.here _ _) | (with_reducible apply Rem.there) | fail)); done)); (focus (infer_instance)); (focus (first | exact IsCells.one rfl | exact IsCells.agg _ rfl | fail)); exact rfl; (focus (omega)); (focus (omega))) | (apply opn_appNV; (focus ((first | exact want_none rfl | exact want_yes rfl rfl rfl rfl rfl | fail))); exact rfl; exact rfl; (focus ((repeat (first | (with_reducible exact Rem.here _ _) | (with_reducible apply Rem.there) | fail)); done)); (focus (infer_instance)); (focus (first | exact IsCells.one rfl | exact IsCells.agg _ rfl | fail)); exact rfl; (focus (omega)); (focus (omega))) | (apply opn_appNS; (focus ((first | exact want_none rfl | exact want_yes rfl rfl rfl rfl rfl | fail))); exact rfl; exact rfl; (focus ((repeat (first | (with_reducible exact Rem.here _ _) | (with_reducible apply Rem.there) | fail)); done)); (focus (infer_instance)); (focus (first | exact IsCells.one rfl | exact IsCells.agg _ rfl | fail)); exact rfl; (focus (omega)); (focus (omega))) | (apply opn_make; (focus ((first | exact want_none rfl | exact want_yes rfl rfl rfl rfl rfl | fail))); exact rfl; exact rfl; exact rfl; exact rfl; (focus (infer_instance)); (focus (first | exact IsCells.one rfl | exact IsCells.agg _ rfl | fail)); exact rfl; (focus (omega)); (focus (omega)); (focus (omega)); exact rfl) | (apply opn_slLoS; (focus ((first | exact want_none rfl | exact want_yes rfl rfl rfl rfl rfl | fail))); exact rfl; exact rfl; (focus ((repeat (first | (with_reducible exact Rem.here _ _) | (with_reducible apply Rem.there) | fail)); done)); (focus (infer_instance)); (focus (omega))) | (apply opn_slHiS; (focus ((first | exact want_none rfl | exact want_yes rfl rfl rfl rfl rfl | fail))); exact rfl; exact rfl; (focus ((repeat (first | (with_reducible exact Rem.here _ _) | (with_reducible apply Rem.there) | fail)); done)); (focus (infer_instance)); (focus (omega))) | (apply opn_slLHS; (focus ((first | exact want_none rfl | exact want_yes rfl rfl rfl rfl rfl | fail))); exact rfl; exact rfl; exact rfl; (focus ((repeat (first | (with_reducible exact Rem.here _ _) | (with_reducible apply Rem.there) | fail)); done)); (focus (infer_instance)); (focus (infer_instance)); (focus (omega))) | (apply opn_callK; (focus ((first | exact want_none rfl | exact want_yes rfl rfl rfl rfl rfl | fail))); (focus ((repeat (first | exact Evs.nil | (apply Evs.cons; exact rfl) | fail)); done)); (intro hs; apply hs); (all_goals (try (focus ((repeat (first | (with_reducible exact PickF.nil _) | (apply PickF.keep; (focus ((repeat (first | (with_reducible exact Rem.here _ _) | (with_reducible apply Rem.there) | fail)); done)); (focus (infer_instance))) | (apply PickF.cons; (focus ((repeat (first | (with_reducible exact Rem.here _ _) | (with_reducible apply Rem.there) | fail)); done))) | (apply PickF.frz; (focus ((repeat (first | (with_reducible exact Rem.here _ _) | (with_reducible apply Rem.there) | fail)); done))) | apply PickF.ro0 | exact PickF.nil _ | fail)); done)))); (all_goals (first | assumption | (infer_instance) | omega | exact rfl | decide | fail))) | (apply opn_appVT; (focus ((first | exact want_none rfl | exact want_yes rfl rfl rfl rfl rfl | fail))); exact rfl; exact rfl; (focus ((repeat (first | (with_reducible exact Rem.here _ _) | (with_reducible apply Rem.there) | fail)); done)); (focus ((repeat (first | (with_reducible exact Rem.here _ _) | (with_reducible apply Rem.there) | fail)); done)); (focus (infer_instance)); (focus (first | exact IsCells.one rfl | exact IsCells.agg _ rfl | fail)); exact rfl; (focus (omega)); (focus (omega)); (focus (omega))) | (apply opn_appNT; (focus ((first | exact want_none rfl | exact want_yes rfl rfl rfl rfl rfl | fail))); exact rfl; exact rfl; (focus ((repeat (first | (with_reducible exact Rem.here _ _) | (with_reducible apply Rem.there) | fail)); done)); (focus (infer_instance)); (focus (first | exact IsCells.one rfl | exact IsCells.agg _ rfl | fail)); exact rfl; (focus (omega)); (focus (omega)); (focus (omega))) | (apply opn_appVD; (focus ((first | exact want_none rfl | exact want_yes rfl rfl rfl rfl rfl | fail))); exact rfl; exact rfl; (focus ((repeat (first | (with_reducible exact Rem.here _ _) | (with_reducible apply Rem.there) | fail)); done)); (focus ((repeat (first | (with_reducible exact Rem.here _ _) | (with_reducible apply Rem.there) | fail)); done)); (focus (infer_instance)); (focus (first | exact IsCells.one rfl | exact IsCells.agg _ rfl | fail)); exact rfl; (focus (omega)); (focus (omega)); (focus (omega))) | fail)) (hp2 : ∀ x, Pick (post2 x) lc (F2 x) := by intro x; (try simp only [List.cons_append, List.nil_append]); ((repeat (first | (with_reducible exact Pick.nil _) | (apply Pick.cons; (focus ((repeat (first | (with_reducible exact Rem.here _ _) | (with_reducible apply Rem.there) | fail)); done))) | fail)); done)) : WA r P base n ds ops Q lc (fuel + 1) listed env F := by
  refine ⟨fun h => (by rw [hr] at h; cases h), fun k hk o ho => ?_⟩
  rw [hr] at hk
  rcases List.mem_cons.1 hk with e | hk
  · subst e
    obtain rfl : o = o1 := Option.some.inj (ho.symm.trans hi)
    intro a w ha hs
    refine (hq1 base a w ha hs).mono r P fun u w' ⟨x, e, hs'⟩ => ⟨F1 x, hs'.ent fun _ y => (hp1 x).out y, ?_⟩
    rw [e, hd1]; exact h1 x
  · obtain rfl : k = j := by simpa using hk
    obtain rfl : o = o2 := Option.some.inj (ho.symm.trans hj)
    intro a w ha hs
    refine (hq2 base a w ha hs).mono r P fun u w' ⟨x, e, hs'⟩ => ⟨F2 x, hs'.ent fun _ y => (hp2 x).out y, ?_⟩
    rw [e, hd2]; exact h2 x
theorem lst_unswap {p q : List HP} {h : Hp} (x : sep (lst p) (lst q) h) : lst (q ++ p) h := by
  obtain ⟨a, b, hd, rfl, ha, hb⟩ := x
  refine lst_flat ⟨b, a, hd.symm, joinH_comm hd, hb, ?_⟩
  exact ha
theorem drx {id : Nat} {ops : Array Oper} (F : List HP) {lc : List HP} (h : WA r P base n ds ops Q lc ops.size (Array.replicate ops.size false) env F) (hp : Pick l F lc := by (repeat (first | (with_reducible exact Pick.nil _) | (apply Pick.cons; (focus ((repeat (first | (with_reducible exact Rem.here _ _) | (with_reducible apply Rem.there) | fail)); done))) | fail)); done) (hB : drawB P ops n = true := by kernel_rfl) : TC r P base n ds (.region id ops true) Q env l := tc_draw lc F hB (fun _ y => by
  obtain ⟨a, b, hd, e, ha, hb⟩ := lst_unflat (hp.out y)
  refine lst_unswap ?_
  exact ⟨a, b, hd, e, ha, hb⟩) h
theorem call {α : Type} {f : FuncId} {xs : List Operand} {ats : Array TypeId} {vs : List Value} {pre rest : List HP} {val : α → Value} {post : α → List HP} {dst : Option Tmp} {ty : TypeId} {pos : String} {af : Array Edge} {g : Option (Nat × Bool)} {d : Nat} {R : Prop} [CF P f] (hs : SpecH P f vs.toArray pre val post) (h : R)
    (hw : Want all ⟨dst, .call ⟨.value (.func f), xs.toArray, ats⟩, ty, pos, af, g⟩ env := by (first | exact want_none rfl | exact want_yes rfl rfl rfl rfl rfl | fail)) (hxs : Evs env xs vs := by (repeat (first | exact Evs.nil | (apply Evs.cons; exact rfl) | fail)); done) (hp : PickF l pre rest := by (repeat (first | (with_reducible exact PickF.nil _) | (apply PickF.keep; (focus ((repeat (first | (with_reducible exact Rem.here _ _) | (with_reducible apply Rem.there) | fail)); done)); (focus (infer_instance))) | (apply PickF.cons; (focus ((repeat (first | (with_reducible exact Rem.here _ _) | (with_reducible apply Rem.there) | fail)); done))) | (apply PickF.frz; (focus ((repeat (first | (with_reducible exact Rem.here _ _) | (with_reducible apply Rem.there) | fail)); done))) | apply PickF.ro0 | exact PickF.nil _ | fail)); done) (hd : dst = some d := by rfl) (hn : d < n := by exact Nat.lt_of_ble_eq rfl)
    (hR : R → ∀ x, TL r P base n ds all ro Q ((d, val x) :: env) (post x ++ rest) := by intro h; (try refine prod_all ?_); (try dsimp only [List.cons_append, List.nil_append]); first | exact fun _ => h | exact h | fail) : TL r P base n ds all (⟨dst, .call ⟨.value (.func f), xs.toArray, ats⟩, ty, pos, af, g⟩ :: ro) Q env l :=
  tl_n (opn_callH hs hw hxs hp) hd hn (hR h)
def CutK {ι : Type} (base : World) (n : Nat) (ds : List Deferred) (K : Act → World → Prop) (E : ι → Env) (L : ι → List HP) : Prop := ∀ i env l, Sub env (E i) → Ent l (L i) → TK base n ds K env l
theorem cut {ι : Type} {c : Code} (E : ι → Env) (L : ι → List HP) (hc : ∀ K, CutK base n ds K E L → TC r P base n ds c (Th K Q) env l) (hk : ∀ i, TK base n ds (Q .normal) (E i) (L i)) : TC r P base n ds c Q env l := tc_cut E L hc hk
theorem fin {ι : Type} {K : Act → World → Prop} {E : ι → Env} {L : ι → List HP} (h : CutK base n ds K E L) (i : ι) (hs : Sub env (E i) := by (repeat (first | exact Sub.nil | (apply Sub.cons; exact rfl))); done) (he : Ent l (L i) := by (try simp only [List.cons_append, List.nil_append]); (repeat (first | (with_reducible exact Ent.refl _) | (with_reducible exact Ent.nil _) | (apply Ent.fact; (focus (first | assumption | omega | decide | exact rfl | fail))) | (apply Ent.keep; (focus ((repeat (first | (with_reducible exact Rem.here _ _) | (with_reducible apply Rem.there) | fail)); done)); (focus (infer_instance))) | (apply Ent.cons; (focus ((repeat (first | (with_reducible exact Rem.here _ _) | (with_reducible apply Rem.there) | fail)); done))) | exact Ent.refl _ | exact Ent.nil _ | apply Ent.vecNil | apply Ent.roNil | fail)); done) : TK base n ds K env l := h i _ _ hs he
theorem shr {K : Act → World → Prop} {b T : Nat} {cs : List Value} {r' : List HP} (b0 : Nat) (h : TK base n ds K env (cobj b T cs :: r')) (_hb : b = b0 := by rfl) (hr : Rem l (obj b T cs) r' := by (repeat (first | (with_reducible exact Rem.here _ _) | (with_reducible apply Rem.there) | fail)); done) : TK base n ds K env l := TK.share hr h
theorem frz {K : Act → World → Prop} {E sz m cap : Nat} {a : Option Addr} {cs : List Value} {r' : List HP} (a0 : Option Addr) (h : TK base n ds K env (RoS sz a m cap cs :: r')) (_ha : a = a0 := by rfl) (hr : Rem l (Vec E sz a m cap cs) r' := by (repeat (first | (with_reducible exact Rem.here _ _) | (with_reducible apply Rem.there) | fail)); done) : TK base n ds K env l := TK.freeze hr h
end
end
end Go.Sl
