/- One step of a walk at a time, found by itself. For whatever program. -/
import Derived.Test.YtgmccdicncocdaaSlRet
namespace Go.Sl

/-! ### Cells by index -/
/-- The cells 'cs' are 'n' rows of 'sz' cells: 'f' of the number. -/
class Idx (cs : List Value) (sz n : outParam Nat) (f : outParam (Nat → List Value)) : Prop where
  out : ∀ i, i < n → (f i).length = sz ∧ ∀ j v, (f i)[j]? = some v → cs[i * sz + j]? = some v
/-- What the cells are once those from place 'j' of row 'i' on have been set to 'vs'. -/
class SetC (cs : List Value) (i j : Nat) (vs : List Value) (sz n : outParam Nat) (cs' : outParam (List Value)) : Prop where
  out : i < n → setL cs (i * sz + j) vs = cs' ∧ i * sz + j + vs.length ≤ cs.length
/-- A number that is a natural one. -/
class NatI (x : Int) (i : outParam Nat) : Prop where
  out : x = (i : Int)
instance (priority := high) natI_cast (i : Nat) : NatI (i : Int) i := ⟨rfl⟩
instance natI_add (x y : Int) (i j : Nat) [h : NatI x i] [k : NatI y j] : NatI (x + y) (i + j) := ⟨by rw [h.out, k.out]; rfl⟩
/-- A number as a place. -/
class AsNat (x : Int) (i : outParam Nat) : Prop where
  out : 0 ≤ x → x.toNat = i
instance (priority := high) asNat_cast (i : Nat) : AsNat (i : Int) i := ⟨fun _ => Int.toNat_natCast i⟩
instance (priority := high) asNat_sub (i : Nat) : AsNat ((i : Int) - 1) (i - 1) := ⟨fun _ => by omega⟩
instance asNat_plus (x y : Int) (i j : Nat) [h : NatI x i] [k : NatI y j] : AsNat (x + y) (i + j) := ⟨fun _ => by rw [h.out, k.out]; omega⟩
instance (priority := high) asNat_add (i j : Nat) : AsNat ((i : Int) + (j : Int)) (i + j) := ⟨fun _ => by omega⟩
instance : NatI 0 0 := ⟨rfl⟩
instance : AsNat 0 0 := ⟨fun _ => rfl⟩
instance : NatI 1 1 := ⟨rfl⟩
instance : AsNat 1 1 := ⟨fun _ => rfl⟩
instance : NatI 2 2 := ⟨rfl⟩
instance : AsNat 2 2 := ⟨fun _ => rfl⟩
instance : NatI 3 3 := ⟨rfl⟩
instance : AsNat 3 3 := ⟨fun _ => rfl⟩
instance : NatI 4 4 := ⟨rfl⟩
instance : AsNat 4 4 := ⟨fun _ => rfl⟩
instance : NatI 5 5 := ⟨rfl⟩
instance : AsNat 5 5 := ⟨fun _ => rfl⟩
instance : NatI 6 6 := ⟨rfl⟩
instance : AsNat 6 6 := ⟨fun _ => rfl⟩
instance : NatI 7 7 := ⟨rfl⟩
instance : AsNat 7 7 := ⟨fun _ => rfl⟩
instance : NatI 8 8 := ⟨rfl⟩
instance : AsNat 8 8 := ⟨fun _ => rfl⟩
instance : NatI 9 9 := ⟨rfl⟩
instance : AsNat 9 9 := ⟨fun _ => rfl⟩
instance : NatI 10 10 := ⟨rfl⟩
instance : AsNat 10 10 := ⟨fun _ => rfl⟩
instance : NatI 11 11 := ⟨rfl⟩
instance : AsNat 11 11 := ⟨fun _ => rfl⟩
instance : NatI 12 12 := ⟨rfl⟩
instance : AsNat 12 12 := ⟨fun _ => rfl⟩
instance : NatI 13 13 := ⟨rfl⟩
instance : AsNat 13 13 := ⟨fun _ => rfl⟩
instance : NatI 14 14 := ⟨rfl⟩
instance : AsNat 14 14 := ⟨fun _ => rfl⟩
instance : NatI 15 15 := ⟨rfl⟩
instance : AsNat 15 15 := ⟨fun _ => rfl⟩
instance : NatI 16 16 := ⟨rfl⟩
instance : AsNat 16 16 := ⟨fun _ => rfl⟩
instance : NatI 17 17 := ⟨rfl⟩
instance : AsNat 17 17 := ⟨fun _ => rfl⟩
instance : NatI 18 18 := ⟨rfl⟩
instance : AsNat 18 18 := ⟨fun _ => rfl⟩
instance : NatI 19 19 := ⟨rfl⟩
instance : AsNat 19 19 := ⟨fun _ => rfl⟩
instance : NatI 20 20 := ⟨rfl⟩
instance : AsNat 20 20 := ⟨fun _ => rfl⟩
instance : NatI 21 21 := ⟨rfl⟩
instance : AsNat 21 21 := ⟨fun _ => rfl⟩
instance : NatI 22 22 := ⟨rfl⟩
instance : AsNat 22 22 := ⟨fun _ => rfl⟩
instance : NatI 23 23 := ⟨rfl⟩
instance : AsNat 23 23 := ⟨fun _ => rfl⟩
instance : NatI 24 24 := ⟨rfl⟩
instance : AsNat 24 24 := ⟨fun _ => rfl⟩
instance : NatI 25 25 := ⟨rfl⟩
instance : AsNat 25 25 := ⟨fun _ => rfl⟩
instance : NatI 26 26 := ⟨rfl⟩
instance : AsNat 26 26 := ⟨fun _ => rfl⟩
instance : NatI 27 27 := ⟨rfl⟩
instance : AsNat 27 27 := ⟨fun _ => rfl⟩
instance : NatI 28 28 := ⟨rfl⟩
instance : AsNat 28 28 := ⟨fun _ => rfl⟩
instance : NatI 29 29 := ⟨rfl⟩
instance : AsNat 29 29 := ⟨fun _ => rfl⟩
instance : NatI 30 30 := ⟨rfl⟩
instance : AsNat 30 30 := ⟨fun _ => rfl⟩
instance : NatI 31 31 := ⟨rfl⟩
instance : AsNat 31 31 := ⟨fun _ => rfl⟩
instance : NatI 32 32 := ⟨rfl⟩
instance : AsNat 32 32 := ⟨fun _ => rfl⟩
instance : NatI 33 33 := ⟨rfl⟩
instance : AsNat 33 33 := ⟨fun _ => rfl⟩
instance : NatI 34 34 := ⟨rfl⟩
instance : AsNat 34 34 := ⟨fun _ => rfl⟩
instance : NatI 35 35 := ⟨rfl⟩
instance : AsNat 35 35 := ⟨fun _ => rfl⟩
instance : NatI 36 36 := ⟨rfl⟩
instance : AsNat 36 36 := ⟨fun _ => rfl⟩
instance : NatI 37 37 := ⟨rfl⟩
instance : AsNat 37 37 := ⟨fun _ => rfl⟩
instance : NatI 38 38 := ⟨rfl⟩
instance : AsNat 38 38 := ⟨fun _ => rfl⟩
instance : NatI 39 39 := ⟨rfl⟩
instance : AsNat 39 39 := ⟨fun _ => rfl⟩
instance : NatI 40 40 := ⟨rfl⟩
instance : AsNat 40 40 := ⟨fun _ => rfl⟩
instance : NatI 41 41 := ⟨rfl⟩
instance : AsNat 41 41 := ⟨fun _ => rfl⟩
instance : NatI 42 42 := ⟨rfl⟩
instance : AsNat 42 42 := ⟨fun _ => rfl⟩
instance : NatI 43 43 := ⟨rfl⟩
instance : AsNat 43 43 := ⟨fun _ => rfl⟩
instance : NatI 44 44 := ⟨rfl⟩
instance : AsNat 44 44 := ⟨fun _ => rfl⟩
instance : NatI 45 45 := ⟨rfl⟩
instance : AsNat 45 45 := ⟨fun _ => rfl⟩
instance : NatI 46 46 := ⟨rfl⟩
instance : AsNat 46 46 := ⟨fun _ => rfl⟩
instance : NatI 47 47 := ⟨rfl⟩
instance : AsNat 47 47 := ⟨fun _ => rfl⟩
instance : NatI 48 48 := ⟨rfl⟩
instance : AsNat 48 48 := ⟨fun _ => rfl⟩
instance : NatI 49 49 := ⟨rfl⟩
instance : AsNat 49 49 := ⟨fun _ => rfl⟩
instance : NatI 50 50 := ⟨rfl⟩
instance : AsNat 50 50 := ⟨fun _ => rfl⟩
instance : NatI 51 51 := ⟨rfl⟩
instance : AsNat 51 51 := ⟨fun _ => rfl⟩
instance : NatI 52 52 := ⟨rfl⟩
instance : AsNat 52 52 := ⟨fun _ => rfl⟩
instance : NatI 53 53 := ⟨rfl⟩
instance : AsNat 53 53 := ⟨fun _ => rfl⟩
instance : NatI 54 54 := ⟨rfl⟩
instance : AsNat 54 54 := ⟨fun _ => rfl⟩
instance : NatI 55 55 := ⟨rfl⟩
instance : AsNat 55 55 := ⟨fun _ => rfl⟩
instance : NatI 56 56 := ⟨rfl⟩
instance : AsNat 56 56 := ⟨fun _ => rfl⟩
instance : NatI 57 57 := ⟨rfl⟩
instance : AsNat 57 57 := ⟨fun _ => rfl⟩
instance : NatI 58 58 := ⟨rfl⟩
instance : AsNat 58 58 := ⟨fun _ => rfl⟩
instance : NatI 59 59 := ⟨rfl⟩
instance : AsNat 59 59 := ⟨fun _ => rfl⟩
instance : NatI 60 60 := ⟨rfl⟩
instance : AsNat 60 60 := ⟨fun _ => rfl⟩
instance : NatI 61 61 := ⟨rfl⟩
instance : AsNat 61 61 := ⟨fun _ => rfl⟩
instance : NatI 62 62 := ⟨rfl⟩
instance : AsNat 62 62 := ⟨fun _ => rfl⟩
instance : NatI 63 63 := ⟨rfl⟩
instance : AsNat 63 63 := ⟨fun _ => rfl⟩
instance : NatI 64 64 := ⟨rfl⟩
instance : AsNat 64 64 := ⟨fun _ => rfl⟩
instance : NatI 65 65 := ⟨rfl⟩
instance : AsNat 65 65 := ⟨fun _ => rfl⟩
instance : NatI 66 66 := ⟨rfl⟩
instance : AsNat 66 66 := ⟨fun _ => rfl⟩
instance : NatI 67 67 := ⟨rfl⟩
instance : AsNat 67 67 := ⟨fun _ => rfl⟩
instance : NatI 68 68 := ⟨rfl⟩
instance : AsNat 68 68 := ⟨fun _ => rfl⟩
instance : NatI 69 69 := ⟨rfl⟩
instance : AsNat 69 69 := ⟨fun _ => rfl⟩
instance : NatI 70 70 := ⟨rfl⟩
instance : AsNat 70 70 := ⟨fun _ => rfl⟩
instance : NatI 71 71 := ⟨rfl⟩
instance : AsNat 71 71 := ⟨fun _ => rfl⟩
instance : NatI 72 72 := ⟨rfl⟩
instance : AsNat 72 72 := ⟨fun _ => rfl⟩
instance : NatI 73 73 := ⟨rfl⟩
instance : AsNat 73 73 := ⟨fun _ => rfl⟩
instance : NatI 74 74 := ⟨rfl⟩
instance : AsNat 74 74 := ⟨fun _ => rfl⟩
instance : NatI 75 75 := ⟨rfl⟩
instance : AsNat 75 75 := ⟨fun _ => rfl⟩
instance : NatI 76 76 := ⟨rfl⟩
instance : AsNat 76 76 := ⟨fun _ => rfl⟩
instance : NatI 77 77 := ⟨rfl⟩
instance : AsNat 77 77 := ⟨fun _ => rfl⟩
instance : NatI 78 78 := ⟨rfl⟩
instance : AsNat 78 78 := ⟨fun _ => rfl⟩
instance : NatI 79 79 := ⟨rfl⟩
instance : AsNat 79 79 := ⟨fun _ => rfl⟩
instance : NatI 80 80 := ⟨rfl⟩
instance : AsNat 80 80 := ⟨fun _ => rfl⟩
instance : NatI 81 81 := ⟨rfl⟩
instance : AsNat 81 81 := ⟨fun _ => rfl⟩
instance : NatI 82 82 := ⟨rfl⟩
instance : AsNat 82 82 := ⟨fun _ => rfl⟩
instance : NatI 83 83 := ⟨rfl⟩
instance : AsNat 83 83 := ⟨fun _ => rfl⟩
instance : NatI 84 84 := ⟨rfl⟩
instance : AsNat 84 84 := ⟨fun _ => rfl⟩
instance : NatI 85 85 := ⟨rfl⟩
instance : AsNat 85 85 := ⟨fun _ => rfl⟩
instance : NatI 86 86 := ⟨rfl⟩
instance : AsNat 86 86 := ⟨fun _ => rfl⟩
instance : NatI 87 87 := ⟨rfl⟩
instance : AsNat 87 87 := ⟨fun _ => rfl⟩
instance : NatI 88 88 := ⟨rfl⟩
instance : AsNat 88 88 := ⟨fun _ => rfl⟩
instance : NatI 89 89 := ⟨rfl⟩
instance : AsNat 89 89 := ⟨fun _ => rfl⟩
instance : NatI 90 90 := ⟨rfl⟩
instance : AsNat 90 90 := ⟨fun _ => rfl⟩
instance : NatI 91 91 := ⟨rfl⟩
instance : AsNat 91 91 := ⟨fun _ => rfl⟩
instance : NatI 92 92 := ⟨rfl⟩
instance : AsNat 92 92 := ⟨fun _ => rfl⟩
instance : NatI 93 93 := ⟨rfl⟩
instance : AsNat 93 93 := ⟨fun _ => rfl⟩
instance : NatI 94 94 := ⟨rfl⟩
instance : AsNat 94 94 := ⟨fun _ => rfl⟩
instance : NatI 95 95 := ⟨rfl⟩
instance : AsNat 95 95 := ⟨fun _ => rfl⟩
instance : NatI 96 96 := ⟨rfl⟩
instance : AsNat 96 96 := ⟨fun _ => rfl⟩
instance : NatI 97 97 := ⟨rfl⟩
instance : AsNat 97 97 := ⟨fun _ => rfl⟩
instance : NatI 98 98 := ⟨rfl⟩
instance : AsNat 98 98 := ⟨fun _ => rfl⟩
instance : NatI 99 99 := ⟨rfl⟩
instance : AsNat 99 99 := ⟨fun _ => rfl⟩
instance : NatI 100 100 := ⟨rfl⟩
instance : AsNat 100 100 := ⟨fun _ => rfl⟩
instance : NatI 101 101 := ⟨rfl⟩
instance : AsNat 101 101 := ⟨fun _ => rfl⟩
instance : NatI 102 102 := ⟨rfl⟩
instance : AsNat 102 102 := ⟨fun _ => rfl⟩
instance : NatI 103 103 := ⟨rfl⟩
instance : AsNat 103 103 := ⟨fun _ => rfl⟩
instance : NatI 104 104 := ⟨rfl⟩
instance : AsNat 104 104 := ⟨fun _ => rfl⟩
instance : NatI 105 105 := ⟨rfl⟩
instance : AsNat 105 105 := ⟨fun _ => rfl⟩
instance : NatI 106 106 := ⟨rfl⟩
instance : AsNat 106 106 := ⟨fun _ => rfl⟩
instance : NatI 107 107 := ⟨rfl⟩
instance : AsNat 107 107 := ⟨fun _ => rfl⟩
instance : NatI 108 108 := ⟨rfl⟩
instance : AsNat 108 108 := ⟨fun _ => rfl⟩
instance : NatI 109 109 := ⟨rfl⟩
instance : AsNat 109 109 := ⟨fun _ => rfl⟩
instance : NatI 110 110 := ⟨rfl⟩
instance : AsNat 110 110 := ⟨fun _ => rfl⟩
instance : NatI 111 111 := ⟨rfl⟩
instance : AsNat 111 111 := ⟨fun _ => rfl⟩
instance : NatI 112 112 := ⟨rfl⟩
instance : AsNat 112 112 := ⟨fun _ => rfl⟩
instance : NatI 113 113 := ⟨rfl⟩
instance : AsNat 113 113 := ⟨fun _ => rfl⟩
instance : NatI 114 114 := ⟨rfl⟩
instance : AsNat 114 114 := ⟨fun _ => rfl⟩
instance : NatI 115 115 := ⟨rfl⟩
instance : AsNat 115 115 := ⟨fun _ => rfl⟩
instance : NatI 116 116 := ⟨rfl⟩
instance : AsNat 116 116 := ⟨fun _ => rfl⟩
instance : NatI 117 117 := ⟨rfl⟩
instance : AsNat 117 117 := ⟨fun _ => rfl⟩
instance : NatI 118 118 := ⟨rfl⟩
instance : AsNat 118 118 := ⟨fun _ => rfl⟩
instance : NatI 119 119 := ⟨rfl⟩
instance : AsNat 119 119 := ⟨fun _ => rfl⟩
instance : NatI 120 120 := ⟨rfl⟩
instance : AsNat 120 120 := ⟨fun _ => rfl⟩
instance : NatI 121 121 := ⟨rfl⟩
instance : AsNat 121 121 := ⟨fun _ => rfl⟩
instance : NatI 122 122 := ⟨rfl⟩
instance : AsNat 122 122 := ⟨fun _ => rfl⟩
instance : NatI 123 123 := ⟨rfl⟩
instance : AsNat 123 123 := ⟨fun _ => rfl⟩
instance : NatI 124 124 := ⟨rfl⟩
instance : AsNat 124 124 := ⟨fun _ => rfl⟩
instance : NatI 125 125 := ⟨rfl⟩
instance : AsNat 125 125 := ⟨fun _ => rfl⟩
instance : NatI 126 126 := ⟨rfl⟩
instance : AsNat 126 126 := ⟨fun _ => rfl⟩
instance : NatI 127 127 := ⟨rfl⟩
instance : AsNat 127 127 := ⟨fun _ => rfl⟩
instance : NatI 128 128 := ⟨rfl⟩
instance : AsNat 128 128 := ⟨fun _ => rfl⟩
instance : NatI 129 129 := ⟨rfl⟩
instance : AsNat 129 129 := ⟨fun _ => rfl⟩
instance (priority := low) asNat_any (x : Int) : AsNat x x.toNat := ⟨fun _ => rfl⟩
/-- Where a slice's cells lie. -/
def blkOf : Option Addr → Nat
  | some a => a.block
  | none => 0
def offOf : Option Addr → Nat
  | some a => a.off
  | none => 0
section
variable {l r' : List HP} {E m cap sz n i j : Nat} {a : Option Addr} {cs vs : List Value} {v : Value} {f : Nat → List Value}
theorem rd_vecA {off : Nat} (h : Rem l (Vec E sz a m cap cs) r') (hv : ∀ j v, vs[j]? = some v → cs[off + j]? = some v) : Rd l ⟨blkOf a, 0 + off, none⟩ vs := fun x hx => ⟨rfl, fun j v hj => by
  have h1 := hv j v hj
  rcases lst_vec (h.out hx) with ⟨_, _, _, e⟩ | ⟨b, junk, rfl, _, _, _, hb⟩
  · rw [e] at h1; cases h1
  · refine ⟨_, _, _, true, lst_blk hb, ?_⟩
    have h2 : off + j < cs.length := (List.getElem?_eq_some_iff.1 h1).1
    simp only [Nat.zero_add, List.getElem?_toArray]
    rw [List.getElem?_append_left h2]; exact h1⟩
theorem rd_roA {off : Nat} (h : Rem l (RoS sz a m cap cs) r') (hv : ∀ j v, vs[j]? = some v → cs[off + j]? = some v) : Rd l ⟨blkOf a, offOf a + off, none⟩ vs := fun x hx => ⟨rfl, fun j v hj => by
  have h1 := hv j v hj
  obtain ⟨p, q, _, rfl, hp, _⟩ := h.out hx
  rcases hp with ⟨_, _, e, _⟩ | ⟨b', o', c, T, fr, rfl, _, _, hc, hp⟩
  · rw [e] at h1; cases h1
  · subst hp
    exact ⟨c, T, fr, false, joinH_left (by simp [blkOf]), by simp only [offOf]; rw [Nat.add_assoc]; exact hc _ v h1⟩⟩
theorem at_one (hx : Idx cs sz n f) (hi : i < n) (hv : (f i)[j]? = some v) : ∀ j' v', [v][j']? = some v' → cs[(i * sz + j) + j']? = some v' := fun j' v' h => by
  cases j' with
  | zero => simp at h; subst h; exact (hx.out i hi).2 j v hv
  | succ k => simp at h
theorem rd_ix (h : Rem l (Vec E sz a m cap cs) r') (hx : Idx cs sz n f) (hi : i < n) (hv : (f i)[j]? = some v) : Rd l ⟨blkOf a, 0 + i * sz + j, none⟩ [v] := by
  rw [Nat.add_assoc]; exact rd_vecA h (at_one hx hi hv)
theorem rd_ix0 (h : Rem l (Vec E sz a m cap cs) r') (hx : Idx cs sz n f) (hi : i < n) (hv : (f i)[0]? = some v) : Rd l ⟨blkOf a, 0 + i * sz, none⟩ [v] := rd_vecA h (at_one hx hi hv)
theorem rd_row (h : Rem l (Vec E sz a m cap cs) r') (hx : Idx cs sz n f) (hi : i < n) (hv : f i = vs) : Rd l ⟨blkOf a, 0 + i * sz, none⟩ vs := rd_vecA h fun j v hj => (hx.out i hi).2 j v (by rw [hv]; exact hj)
theorem rd_ixS (h : Rem l (RoS sz a m cap cs) r') (hx : Idx cs sz n f) (hi : i < n) (hv : (f i)[j]? = some v) : Rd l ⟨blkOf a, offOf a + i * sz + j, none⟩ [v] := by
  rw [Nat.add_assoc]; exact rd_roA h (at_one hx hi hv)
theorem rd_ix0S (h : Rem l (RoS sz a m cap cs) r') (hx : Idx cs sz n f) (hi : i < n) (hv : (f i)[0]? = some v) : Rd l ⟨blkOf a, offOf a + i * sz, none⟩ [v] := rd_roA h (at_one hx hi hv)
theorem rd_rowS (h : Rem l (RoS sz a m cap cs) r') (hx : Idx cs sz n f) (hi : i < n) (hv : f i = vs) : Rd l ⟨blkOf a, offOf a + i * sz, none⟩ vs := rd_roA h fun j v hj => (hx.out i hi).2 j v (by rw [hv]; exact hj)
theorem at_list (hv : cs[i]? = some v) : ∀ j' v', [v][j']? = some v' → cs[i * 1 + j']? = some v' := fun j' v' h => by
  cases j' with
  | zero => simp at h; subst h; simpa using hv
  | succ k => simp at h
/-- Cells at a place that is known. -/
theorem rd_list (h : Rem l (RoS 1 a m cap cs) r') (hv : cs[i]? = some v) : Rd l ⟨blkOf a, offOf a + i * 1, none⟩ [v] := rd_roA h (at_list hv)
theorem rd_listV (h : Rem l (Vec E 1 a m cap cs) r') (hv : cs[i]? = some v) : Rd l ⟨blkOf a, 0 + i * 1, none⟩ [v] := rd_vecA h (at_list hv)
end
/-- A block of cells that no one writes any more. -/
def cobj (b : Nat) (T : TypeId) (cs : List Value) : HP := ro b (.cells cs.toArray T (0, 0))
instance (b : Nat) (T : TypeId) (cs : List Value) : Pers (cobj b T cs) := pers_ro b _
section
variable {l r' : List HP} {b T off : Nat} {cs : List Value} {v : Value}
theorem rd_cobj (h : Rem l (cobj b T cs) r') : Rd l ⟨b, 0, none⟩ cs := fun x hx => ⟨rfl, fun j v hj => ⟨cs.toArray, T, (0, 0), false, lst_ro (h.out hx), by simpa using hj⟩⟩
theorem rd_cobj1 (h : Rem l (cobj b T cs) r') (hv : cs[off]? = some v) : Rd l ⟨b, off, none⟩ [v] := fun x hx => ⟨rfl, fun j u hj => ⟨cs.toArray, T, (0, 0), false, lst_ro (h.out hx), by
  cases j with
  | zero => simp at hj; subst hj; simpa using hv
  | succ j => simp at hj⟩⟩
theorem TK.share {base : World} {n : Nat} {ds : List Deferred} {K : Act → World → Prop} {env : Env} (hr : Rem l (obj b T cs) r') (h : TK base n ds K env (cobj b T cs :: r')) : TK base n ds K env l := fun a w ha hw => h a w ha (hw.share hr)
end
instance (priority := low) setC_list (vs : List Value) (i : Nat) (v : Value) : SetC vs i 0 [v] 1 vs.length (vs.set i v) := ⟨fun h => ⟨by simp [setL], by simp; omega⟩⟩
/-- Lists of things of 'sz' cells each. -/
class Width {α : Type} (f : α → List Value) (sz : outParam Nat) : Prop where
  out : ∀ a, (f a).length = sz
def cellsOf {α : Type} (f : α → List Value) (l : List α) : List Value := l.flatMap f
section
variable {α : Type} {f : α → List Value} {sz : Nat}
theorem cellsOf_length [h : Width f sz] : ∀ l : List α, (cellsOf f l).length = l.length * sz
  | [] => by simp [cellsOf]
  | a :: l => by simp only [cellsOf, List.flatMap_cons, List.length_append, List.length_cons, Nat.add_mul, Nat.one_mul]; rw [h.out a, Nat.add_comm]; congr 1; exact cellsOf_length l
theorem cellsOf_append (l k : List α) : cellsOf f (l ++ k) = cellsOf f l ++ cellsOf f k := by simp [cellsOf]
theorem cellsOf_get [h : Width f sz] : ∀ (l : List α) (i j : Nat) (hi : i < l.length), j < sz → (cellsOf f l)[i * sz + j]? = (f l[i])[j]?
  | a :: l, 0, j, _, hj => by simp [cellsOf, List.getElem?_append_left (show j < (f a).length by rw [h.out]; exact hj)]
  | a :: l, i + 1, j, hi, hj => by
    simp only [cellsOf, List.flatMap_cons, List.getElem_cons_succ]
    rw [List.getElem?_append_right (by rw [h.out, Nat.add_mul]; omega), h.out, show (i + 1) * sz + j - sz = i * sz + j by rw [Nat.add_mul]; omega]
    exact cellsOf_get l i j (by simpa using hi) hj
instance idx_cellsOf [Inhabited α] [h : Width f sz] (l : List α) : Idx (cellsOf f l) sz l.length (fun i => f (l.getD i default)) := ⟨fun i hi => ⟨h.out _, fun j v hv => by
  have hj : j < sz := by rw [← h.out (l.getD i default)]; exact (List.getElem?_eq_some_iff.1 hv).1
  rw [cellsOf_get l i j hi hj]
  rw [List.getD_eq_getElem?_getD, List.getElem?_eq_getElem hi] at hv
  exact hv⟩⟩
theorem cellsOf_set [h : Width f sz] : ∀ (l : List α) (i : Nat) (a : α), i < l.length → setL (cellsOf f l) (i * sz) (f a) = cellsOf f (l.set i a)
  | b :: l, 0, a, _ => by
    have := setL_over (f a) [] (f b) (l.flatMap f) (by rw [h.out, h.out])
    simpa [cellsOf] using this
  | b :: l, i + 1, a, hi => by
    have hi' : i < l.length := by simpa using hi
    have ih := cellsOf_set l i a hi'
    have hlen := cellsOf_length (f := f) l
    have e1 : (l.take i).length = i := by simp; omega
    have hsplit : ∀ (k : List α) (c : α), k.length = i → ∀ m : List α, setL (cellsOf f (b :: (k ++ c :: m))) ((i + 1) * sz) (f a) = cellsOf f (b :: (k ++ a :: m)) := fun k c hk m => by
      have := setL_over (f a) (f b ++ k.flatMap f) (f c) (m.flatMap f) (by rw [h.out, h.out])
      have hl : (f b ++ k.flatMap f).length = (i + 1) * sz := by
        have := cellsOf_length (f := f) k
        rw [List.length_append, h.out]; unfold cellsOf at this; rw [this, hk, Nat.add_mul]; omega
      rw [hl] at this
      simpa [cellsOf] using this
    have h1 := hsplit (l.take i) l[i] e1 (l.drop (i + 1))
    rw [List.getElem_cons_drop, List.take_append_drop] at h1
    rw [h1, List.set_cons_succ]
    congr 2
    rw [List.set_eq_take_append_cons_drop, if_pos hi']
instance setC_cellsOf [h : Width f sz] (l : List α) (i : Nat) (a : α) : SetC (cellsOf f l) i 0 (f a) sz l.length (cellsOf f (l.set i a)) := ⟨fun hi => ⟨by rw [Nat.add_zero]; exact cellsOf_set l i a hi, by
  rw [cellsOf_length, h.out, Nat.add_zero]
  calc i * sz + sz = (i + 1) * sz := by rw [Nat.add_mul, Nat.one_mul]
    _ ≤ l.length * sz := Nat.mul_le_mul_right _ hi⟩⟩
end
/-- Numbers of one kind, each a cell. -/
abbrev intC (k : IntKind) : Int → List Value := fun n => [.int k n]
abbrev natC (k : IntKind) : Nat → List Value := fun n => [.int k (n : Nat)]
instance width_one {α : Type} (g : α → Value) : Width (fun a => [g a]) 1 := ⟨fun _ => rfl⟩
theorem prod_all {α β : Type} {p : α × β → Prop} (h : ∀ a b, p (a, b)) : ∀ x, p x := fun x => h x.1 x.2
section
variable {r : Option Nat} {P : Program} {base : World} {n : Nat} {ds : List Deferred} {Q : Exit → Act → World → Prop} {env env' : Env} {l l' lc : List HP} {all : Array Oper} {ro : List Oper}
variable {z : Value} {dst : Option Tmp} {ty : TypeId} {pos : String} {af : Array Edge} {g : Option (Nat × Bool)}
theorem opq_ixAddr {t e : TypeId} {x y : Operand} {a : Option Addr} {E cap' len cap size bytes q : Nat} {k : IntKind} {i : Int} {z : Value} {cs : List Value} {r' : List HP} (hw : Want all ⟨dst, .indexAddr t x y, ty, pos, af, g⟩ env) (hx : ev env x = some (.slice a len cap)) (hy : ev env y = some (.int k i))
    [hu : UL P t (.slice e)] [hi : TI P e z size bytes] (hr : Rem lc (Vec E size a len cap' cs) r') (hq : AsNat i q) (h0 : 0 ≤ i ∧ i < len) :
    OpQ r P all ⟨dst, .indexAddr t x y, ty, pos, af, g⟩ n ds env lc (.pointer (some ⟨blkOf a, 0 + q * size, none⟩)) := fun base F ac w ha hs => by
  rcases hs.vec (hr.append F) with ⟨_, e, _⟩ | ⟨b, _, rfl, _⟩
  · omega
  · rw [← hq.out h0.1]; exact opq_indexAddr hw hx hy h0.1 h0.2 base F ac w ha hs
theorem opq_ixAddrE {t e : TypeId} {x y : Operand} {b len cap size bytes q : Nat} {k : IntKind} {i : Int} {z : Value} (hw : Want all ⟨dst, .indexAddr t x y, ty, pos, af, g⟩ env) (hx : ev env x = some (.slice (some ⟨b, 0, none⟩) len cap)) (hy : ev env y = some (.int k i))
    [hu : UL P t (.slice e)] [hi : TI P e z size bytes] (hq : AsNat i q) (h0 : 0 ≤ i ∧ i < len) :
    OpQ r P all ⟨dst, .indexAddr t x y, ty, pos, af, g⟩ n ds env lc (.pointer (some ⟨blkOf (some ⟨b, 0, none⟩), 0 + q * size, none⟩)) := by
  rw [← hq.out h0.1]; exact opq_indexAddr hw hx hy h0.1 h0.2
theorem opq_ixAddrS {t e : TypeId} {x y : Operand} {a : Option Addr} {cap' len cap size bytes q : Nat} {k : IntKind} {i : Int} {z : Value} {cs : List Value} {r' : List HP} (hw : Want all ⟨dst, .indexAddr t x y, ty, pos, af, g⟩ env) (hx : ev env x = some (.slice a len cap)) (hy : ev env y = some (.int k i))
    [hu : UL P t (.slice e)] [hi : TI P e z size bytes] (hr : Rem lc (RoS size a len cap' cs) r') (hq : AsNat i q) (h0 : 0 ≤ i ∧ i < len) :
    OpQ r P all ⟨dst, .indexAddr t x y, ty, pos, af, g⟩ n ds env lc (.pointer (some ⟨blkOf a, offOf a + q * size, none⟩)) := fun base F ac w ha hs => by
  obtain ⟨hp, hf, hl⟩ := hs.heap
  rcases (lst_roS ((hr.append F).out hl)).2 with ⟨_, e⟩ | ⟨b, o, rfl⟩
  · omega
  · rw [← hq.out h0.1]; exact opq_indexAddr hw hx hy h0.1 h0.2 base F ac w ha hs
/-! ### Comparisons -/
theorem opq_lss {t : TypeId} {x y : Operand} {yt : TypeId} {k : IntKind} {a b : Int} {q : Bool} (hw : Want all ⟨dst, .binOp .lss t x y yt, ty, pos, af, g⟩ env) (hx : ev env x = some (.int k a)) (hy : ev env y = some (.int k b)) (hq : decide (a < b) = q) : OpQ r P all ⟨dst, .binOp .lss t x y yt, ty, pos, af, g⟩ n ds env lc (.bool q) := opq_cmp_is hw rfl hx hy hq
theorem opq_leq {t : TypeId} {x y : Operand} {yt : TypeId} {k : IntKind} {a b : Int} {q : Bool} (hw : Want all ⟨dst, .binOp .leq t x y yt, ty, pos, af, g⟩ env) (hx : ev env x = some (.int k a)) (hy : ev env y = some (.int k b)) (hq : decide (a ≤ b) = q) : OpQ r P all ⟨dst, .binOp .leq t x y yt, ty, pos, af, g⟩ n ds env lc (.bool q) := opq_cmp_is hw rfl hx hy hq
theorem opq_gtr {t : TypeId} {x y : Operand} {yt : TypeId} {k : IntKind} {a b : Int} {q : Bool} (hw : Want all ⟨dst, .binOp .gtr t x y yt, ty, pos, af, g⟩ env) (hx : ev env x = some (.int k a)) (hy : ev env y = some (.int k b)) (hq : decide (b < a) = q) : OpQ r P all ⟨dst, .binOp .gtr t x y yt, ty, pos, af, g⟩ n ds env lc (.bool q) := opq_cmp_is hw rfl hx hy hq
theorem opq_geq {t : TypeId} {x y : Operand} {yt : TypeId} {k : IntKind} {a b : Int} {q : Bool} (hw : Want all ⟨dst, .binOp .geq t x y yt, ty, pos, af, g⟩ env) (hx : ev env x = some (.int k a)) (hy : ev env y = some (.int k b)) (hq : decide (b ≤ a) = q) : OpQ r P all ⟨dst, .binOp .geq t x y yt, ty, pos, af, g⟩ n ds env lc (.bool q) := opq_cmp_is hw rfl hx hy hq
theorem opq_eql {t : TypeId} {x y : Operand} {yt : TypeId} {k : IntKind} {a b : Int} {q : Bool} (hw : Want all ⟨dst, .binOp .eql t x y yt, ty, pos, af, g⟩ env) (hx : ev env x = some (.int k a)) (hy : ev env y = some (.int k b)) (hq : decide (a = b) = q) : OpQ r P all ⟨dst, .binOp .eql t x y yt, ty, pos, af, g⟩ n ds env lc (.bool q) := opq_cmp_is hw rfl hx hy (by rw [← hq]; rfl)
theorem opq_neq {t : TypeId} {x y : Operand} {yt : TypeId} {k : IntKind} {a b : Int} {q : Bool} (hw : Want all ⟨dst, .binOp .neq t x y yt, ty, pos, af, g⟩ env) (hx : ev env x = some (.int k a)) (hy : ev env y = some (.int k b)) (hq : decide (a ≠ b) = q) : OpQ r P all ⟨dst, .binOp .neq t x y yt, ty, pos, af, g⟩ n ds env lc (.bool q) := opq_cmp_is hw rfl hx hy (by rw [← hq]; simp only [cmpI, bne, ne_eq, decide_not]; rfl)
theorem opq_notD {t : TypeId} {x : Operand} {p : Prop} [Decidable p] (hw : Want all ⟨dst, .unOp .not t x, ty, pos, af, g⟩ env) (hx : ev env x = some (.bool (decide p))) : OpQ r P all ⟨dst, .unOp .not t x, ty, pos, af, g⟩ n ds env lc (.bool (decide (¬ p))) := by
  rw [show decide (¬ p) = !decide p from decide_not]; exact opq_not hw hx
theorem tc_if {c : Operand} {x y : Code} {p : Prop} [Decidable p] (hc : ev env c = some (.bool (decide p))) (h : (p → TC r P base n ds x Q env l) ∧ (¬ p → TC r P base n ds y Q env l)) : TC r P base n ds (.cond c x y) Q env l :=
  tc_cond hc (fun e => h.1 (of_decide_eq_true e)) (fun e => h.2 (of_decide_eq_false e))
theorem tc_ifb {c : Operand} {x y : Code} {t : Bool} (hc : ev env c = some (.bool t)) (h : (t = true → TC r P base n ds x Q env l) ∧ (t = false → TC r P base n ds y Q env l)) : TC r P base n ds (.cond c x y) Q env l := tc_cond hc h.1 h.2
theorem tl_if {o : Oper} {d j : Nat} {u : Bool} {p : Prop} [Decidable p] {oj : Oper} (hg : o.guard = some (j, u)) (hj : all[j]? = some oj) (hdj : oj.dst = some d) (hd : look env d = some (.bool (decide p)))
    (h : (p → TL r P base n ds all (o :: ro) Q ((d, .bool true) :: env) l) ∧ (¬ p → TL r P base n ds all (o :: ro) Q ((d, .bool false) :: env) l)) : TL r P base n ds all (o :: ro) Q env l :=
  tl_gcase hg hj hdj hd (fun e => h.1 (of_decide_eq_true e)) (fun e => h.2 (of_decide_eq_false e))
theorem tl_ifb {o : Oper} {d j : Nat} {u t : Bool} {oj : Oper} (hg : o.guard = some (j, u)) (hj : all[j]? = some oj) (hdj : oj.dst = some d) (hd : look env d = some (.bool t))
    (h : (t = true → TL r P base n ds all (o :: ro) Q ((d, .bool true) :: env) l) ∧ (t = false → TL r P base n ds all (o :: ro) Q ((d, .bool false) :: env) l)) : TL r P base n ds all (o :: ro) Q env l :=
  tl_gcase hg hj hdj hd h.1 h.2
/-! ### Stores by index -/
theorem opn_storeIx {t : TypeId} {x y : Operand} {a : Option Addr} {i j E sz k cap size bytes m : Nat} {cs cs' vs : List Value} {v : Value} {r' : List HP} (hw : Want all ⟨dst, .store t x y, ty, pos, af, g⟩ env) (hx : ev env x = some (.pointer (some ⟨blkOf a, 0 + i * sz + j, none⟩))) (hy : ev env y = some v) (hv : IsCells v vs) [hsz : TI P t z size bytes] (hvs : vs.length = size)
    (hm : Rem l (Vec E sz a k cap cs) r') (hc : SetC cs i j vs sz m cs') (hi : i < m ∧ 0 < k) (hr : Rep (Vec E sz a k cap cs) (Vec E sz a k cap cs') l l') : OpN r P all ⟨dst, .store t x y, ty, pos, af, g⟩ n ds env l (fun _ : Unit => undef) (fun _ => l') := fun base ac w ha hs => by
  rcases hs.vec hm with ⟨_, e, _⟩ | ⟨b, _, rfl, _⟩
  · omega
  · exact opn_storeVec' hw hx hy hv hvs hr (by rw [Nat.zero_add]; exact (hc.out hi.1).2) (by rw [Nat.zero_add]; exact (hc.out hi.1).1) base ac w ha hs
theorem opn_storeIx0 {t : TypeId} {x y : Operand} {a : Option Addr} {i E sz k cap size bytes m : Nat} {cs cs' vs : List Value} {v : Value} {r' : List HP} (hw : Want all ⟨dst, .store t x y, ty, pos, af, g⟩ env) (hx : ev env x = some (.pointer (some ⟨blkOf a, 0 + i * sz, none⟩))) (hy : ev env y = some v) (hv : IsCells v vs) [hsz : TI P t z size bytes] (hvs : vs.length = size)
    (hm : Rem l (Vec E sz a k cap cs) r') (hc : SetC cs i 0 vs sz m cs') (hi : i < m ∧ 0 < k) (hr : Rep (Vec E sz a k cap cs) (Vec E sz a k cap cs') l l') : OpN r P all ⟨dst, .store t x y, ty, pos, af, g⟩ n ds env l (fun _ : Unit => undef) (fun _ => l') := fun base ac w ha hs => by
  rcases hs.vec hm with ⟨_, e, _⟩ | ⟨b, _, rfl, _⟩
  · omega
  · exact opn_storeVec' hw hx hy hv hvs hr (by rw [Nat.zero_add]; exact (hc.out hi.1).2) (by rw [Nat.zero_add]; exact (hc.out hi.1).1) base ac w ha hs
/-! ### Calls -/
/-- A contract that is known of a function. -/
class Known (P : Program) (f : FuncId) (S : outParam Prop) : Prop where
  out : S
/-- 'l' is the list 'p' and the list 'r'; facts are owed; what may be held any number of times stays. -/
inductive PickS : List HP → List HP → List HP → Prop
  | nil (l : List HP) : PickS l [] l
  | fact {l p r : List HP} {q : Prop} (h : PickS l p r) (hq : q) : PickS l (fact q :: p) r
  | keep {l l' p r : List HP} {x : HP} (h : Rem l x l') (hx : Pers x) (h' : PickS l p r) : PickS l (x :: p) r
  | cons {l l' p r : List HP} {x : HP} (h : Rem l x l') (h' : PickS l' p r) : PickS l (x :: p) r
  | ro0 {l p r : List HP} {sz : Nat} (h' : PickS l p r) : PickS l (RoS sz none 0 0 [] :: p) r
theorem PickS.out {l p r : List HP} (h : PickS l p r) : ∀ {hp : Hp}, lst l hp → lst (p ++ r) hp := by
  induction h with
  | nil => exact fun h => h
  | fact _ hq ih => exact fun h => lst_fact_mk hq (ih h)
  | keep hr hx _ ih => exact fun h => lst_cons_mono (fun _ h => h) (fun _ h => ih h) (hr.keep h)
  | cons hr _ ih => exact fun h => lst_cons_mono (fun _ h => h) (fun _ h => ih h) (hr.out h)
  | ro0 _ ih => exact fun h => lst_roS_nil (ih h)
/-- A contract from another, of more or other assertions. -/
theorem SpecH.pre {α : Type} {P : Program} {f : FuncId} {args : Array Value} {pre l rest : List HP} {val : α → Value} {post : α → List HP} (h : SpecH P f args pre val post) (hp : PickS l pre rest) : SpecH P f args l val (fun x => post x ++ rest) := fun base F w hw => by
  have h1 : St base (pre ++ [lst (rest ++ [F])]) w := by
    refine hw.ent fun y hy => ?_
    obtain ⟨a, b, hd, rfl, ha, hb⟩ := lst_unflat hy
    have h2 : lst (lst (pre ++ rest) :: [F]) (joinH a b) := ⟨a, b, hd, rfl, hp.out ha, hb⟩
    have h3 := lst_flat h2
    rw [List.append_assoc] at h3
    exact ent_fold _ _ _ h3
  refine CallsIn.mono (h base _ w h1) ?_
  rintro e w' ⟨x, rfl, hw'⟩
  exact ⟨x, rfl, by rw [List.append_assoc]; exact hw'.ent (ent_unfold _ _)⟩
theorem s_call {α : Type} {f : FuncId} {S : Prop} {xs : List Operand} {ats : Array TypeId} {vs : List Value} {pre rest : List HP} {val : α → Value} {post : α → List HP} {d : Nat} [CF P f] [k : Known P f S]
    (hw : Want all ⟨dst, .call ⟨.value (.func f), xs.toArray, ats⟩, ty, pos, af, g⟩ env) (hxs : Evs env xs vs) (hd : dst = some d) (hn : d < n) (hs : S → SpecH P f vs.toArray pre val post) (hp : PickS l pre rest)
    (h : ∀ x, TL r P base n ds all ro Q ((d, val x) :: env) (post x ++ rest)) : TL r P base n ds all (⟨dst, .call ⟨.value (.func f), xs.toArray, ats⟩, ty, pos, af, g⟩ :: ro) Q env l :=
  tl_n (opn_call hw hxs ((hs k.out).pre hp) (Pick.whole l)) hd hn fun x => by simpa using h x
theorem s_call0 {α : Type} {f : FuncId} {S : Prop} {xs : List Operand} {ats : Array TypeId} {vs : List Value} {pre rest : List HP} {val : α → Value} {post : α → List HP} [CF P f] [k : Known P f S]
    (hw : Want all ⟨dst, .call ⟨.value (.func f), xs.toArray, ats⟩, ty, pos, af, g⟩ env) (hxs : Evs env xs vs) (hd : dst = none) (hs : S → SpecH P f vs.toArray pre val post) (hp : PickS l pre rest)
    (h : ∀ x, TL r P base n ds all ro Q env (post x ++ rest)) : TL r P base n ds all (⟨dst, .call ⟨.value (.func f), xs.toArray, ats⟩, ty, pos, af, g⟩ :: ro) Q env l :=
  tl_n0 (opn_call hw hxs ((hs k.out).pre hp) (Pick.whole l)) hd fun x => by simpa using h x
end
end Go.Sl
