/- A field of linked lists as the program holds it: nodes by number, each with the ones before and after it and one more than its list. Plain facts, no program. -/
import Derived.Test.YtgmccdicncocdaaSlGo2
namespace Go.Lk
open Go.Sl

structure LS where
  N : Nat
  M : Nat
  pv : Nat → Nat
  nx : Nat → Nat
  of : Nat → Nat
  ln : Nat → Nat

def upd (f : Nat → Nat) (i v : Nat) : Nat → Nat := fun k => if k = i then v else f k
theorem upd_same (f : Nat → Nat) (i v : Nat) : upd f i v i = v := by simp [upd]
theorem upd_ne {f : Nat → Nat} {i v k : Nat} (h : k ≠ i) : upd f i v k = f k := by simp [upd, h]

def trip (pv nx of : Nat → Nat) (i : Nat) : List Value := [.int .u32 (pv i), .int .u32 (nx i), .int .u32 (of i)]
def encF (K : Nat) (pv nx of : Nat → Nat) : List Value := rows K (trip pv nx of)
def encL (M : Nat) (ln : Nat → Nat) : List Value := rows M fun h => [.int .i64 (ln h)]
section
variable {K : Nat} {pv nx of ln : Nat → Nat} {i : Nat}
theorem trip_length (i : Nat) : (trip pv nx of i).length = 3 := rfl
theorem encF_length : (encF K pv nx of).length = K * 3 := rows_length trip_length K
theorem encF_get0 (h : i < K) : (encF K pv nx of)[0 + Int.toNat (i : Int) * 3 + 0]? = some (.int .u32 (pv i)) := by
  rw [Int.toNat_natCast, Nat.zero_add]; exact rows_get (sz := 3) trip_length (by omega) h
theorem encF_get1 (h : i < K) : (encF K pv nx of)[0 + Int.toNat (i : Int) * 3 + 1]? = some (.int .u32 (nx i)) := by
  rw [Int.toNat_natCast, Nat.zero_add]; exact rows_get (sz := 3) trip_length (by omega) h
theorem encF_get2 (h : i < K) : (encF K pv nx of)[0 + Int.toNat (i : Int) * 3 + 2]? = some (.int .u32 (of i)) := by
  rw [Int.toNat_natCast, Nat.zero_add]; exact rows_get (sz := 3) trip_length (by omega) h
theorem encF_row (h : i < K) : ∀ j v, [(.int .u32 (pv i) : Value), .int .u32 (nx i), .int .u32 (of i)][j]? = some v → (encF K pv nx of)[0 + Int.toNat (i : Int) * 3 + j]? = some v := by
  intro j v hj
  have hj3 : j < 3 := by have := (List.getElem?_eq_some_iff.1 hj).1; simpa using this
  rw [Int.toNat_natCast, Nat.zero_add]
  exact (rows_get (sz := 3) trip_length hj3 h).trans hj
theorem encF_all {a b c : Nat} (h : i < K) : setL (encF K pv nx of) (0 + Int.toNat (i : Int) * 3) [.int .u32 (a : Nat), .int .u32 (b : Nat), .int .u32 (c : Nat)] = encF K (upd pv i a) (upd nx i b) (upd of i c) := by
  rw [Int.toNat_natCast, Nat.zero_add]
  unfold encF
  rw [rows_setL (sz := 3) trip_length (by rfl) h]
  refine rows_congr fun k _ => ?_
  by_cases hk : k = i <;> simp [trip, upd, hk]
theorem encF_zero (h : i < K) : setL (encF K pv nx of) (0 + Int.toNat (i : Int) * 3) [.int .u32 0, .int .u32 0, .int .u32 0] = encF K (upd pv i 0) (upd nx i 0) (upd of i 0) := encF_all (a := 0) (b := 0) (c := 0) h
theorem encF_set0 {a : Nat} (h : i < K) : setL (encF K pv nx of) (0 + Int.toNat (i : Int) * 3 + 0) [.int .u32 (a : Nat)] = encF K (upd pv i a) nx of := by
  rw [Int.toNat_natCast, Nat.zero_add]
  unfold encF
  simp only [setL]
  rw [rows_set (sz := 3) trip_length (by omega) _ h]
  refine rows_congr fun k _ => ?_
  by_cases hk : k = i <;> simp [trip, upd, hk]
theorem encF_set1 {a : Nat} (h : i < K) : setL (encF K pv nx of) (0 + Int.toNat (i : Int) * 3 + 1) [.int .u32 (a : Nat)] = encF K pv (upd nx i a) of := by
  rw [Int.toNat_natCast, Nat.zero_add]
  unfold encF
  simp only [setL]
  rw [rows_set (sz := 3) trip_length (by omega) _ h]
  refine rows_congr fun k _ => ?_
  by_cases hk : k = i <;> simp [trip, upd, hk]
theorem encL_length : (encL K ln).length = K := by have := rows_length (sz := 1) (f := fun h => [.int .i64 (ln h)]) (fun _ => rfl) K; simpa [encL] using this
theorem encL_get {q : Int} (h : q = (i : Int)) (hi : i < K) : (encL K ln)[0 + Int.toNat q * 1]? = some (.int .i64 (ln i)) := by
  subst h
  rw [Int.toNat_natCast, Nat.zero_add]; exact rows_get (sz := 1) (f := fun h => [.int .i64 (ln h)]) (fun _ => rfl) (j := 0) (by omega) hi
theorem encF_get2u {x : Nat} (h : i < K) : (encF K pv nx (upd of i x))[0 + Int.toNat (i : Int) * 3 + 2]? = some (.int .u32 x) := by
  rw [encF_get2 h, upd_same]
theorem encL_get1 {a : Nat} (h1 : 1 ≤ a) (h2 : a ≤ K) : (encL K ln)[0 + Int.toNat ((a : Int) - 1) * 1]? = some (.int .i64 (ln (a - 1))) := encL_get (i := a - 1) (by omega) (by omega)
theorem encL_get0 (h2 : i < K) : (encL K ln)[0 + Int.toNat (i : Int) * 1]? = some (.int .i64 (ln i)) := encL_get rfl h2
theorem encL_set {q : Int} {x : Int} {a : Nat} (h : q = (i : Int)) (hx : x = (a : Int)) (hi : i < K) : setL (encL K ln) (0 + Int.toNat q * 1) [.int .i64 x] = encL K (upd ln i a) := by
  subst h; subst hx
  rw [Int.toNat_natCast, Nat.zero_add]
  unfold encL
  simp only [setL]
  rw [show i * 1 = i * 1 + 0 from rfl, rows_set (sz := 1) (fun _ => rfl) (by omega) _ hi]
  refine rows_congr fun k _ => ?_
  by_cases hk : k = i <;> simp [upd, hk]
theorem encL_inc {a : Nat} (h1 : 1 ≤ a) (h2 : a ≤ K) : setL (encL K ln) (0 + Int.toNat ((a : Int) - 1) * 1) [.int .i64 ((ln (a - 1) : Nat) + 1 : Int)] = encL K (upd ln (a - 1) (ln (a - 1) + 1)) := encL_set (i := a - 1) (by omega) (by omega) (by omega)
theorem encL_dec {a : Nat} (h1 : 1 ≤ a) (h2 : a ≤ K) (h3 : 1 ≤ ln (a - 1)) : setL (encL K ln) (0 + Int.toNat ((a : Int) - 1) * 1) [.int .i64 ((ln (a - 1) : Nat) - 1 : Int)] = encL K (upd ln (a - 1) (ln (a - 1) - 1)) := encL_set (i := a - 1) (by omega) (by omega) (by omega)
end

instance (K : Nat) (pv nx of : Nat → Nat) : Idx (encF K pv nx of) 3 K (fun i => [.int .u32 (pv i), .int .u32 (nx i), .int .u32 (of i)]) := ⟨fun i hi => ⟨rfl, fun j v hj => by
  have hj3 : j < 3 := (List.getElem?_eq_some_iff.1 hj).1
  exact (rows_get (sz := 3) trip_length hj3 hi).trans hj⟩⟩
instance (M : Nat) (ln : Nat → Nat) : Idx (encL M ln) 1 M (fun h => [.int .i64 (ln h)]) := ⟨fun i hi => ⟨rfl, fun j v hj => by
  have hj3 : j < 1 := (List.getElem?_eq_some_iff.1 hj).1
  exact (rows_get (sz := 1) (f := fun h => [.int .i64 (ln h)]) (fun _ => rfl) hj3 hi).trans hj⟩⟩
section
variable {K M : Nat} {pv nx of ln : Nat → Nat} {i : Nat}
theorem e0 (i : Nat) : Int.toNat (i : Int) = i := Int.toNat_natCast i
instance (a : Nat) : SetC (encF K pv nx of) i 0 [.int .u32 (a : Nat)] 3 K (encF K (upd pv i a) nx of) := ⟨fun h => ⟨by have := encF_set0 (pv := pv) (nx := nx) (of := of) (a := a) h; rw [e0, Nat.zero_add] at this; exact this, by rw [encF_length]; simp; omega⟩⟩
instance (a : Nat) : SetC (encF K pv nx of) i 1 [.int .u32 (a : Nat)] 3 K (encF K pv (upd nx i a) of) := ⟨fun h => ⟨by have := encF_set1 (pv := pv) (nx := nx) (of := of) (a := a) h; rw [e0, Nat.zero_add] at this; exact this, by rw [encF_length]; simp; omega⟩⟩
instance (a b c : Nat) : SetC (encF K pv nx of) i 0 [.int .u32 (a : Nat), .int .u32 (b : Nat), .int .u32 (c : Nat)] 3 K (encF K (upd pv i a) (upd nx i b) (upd of i c)) := ⟨fun h => ⟨by have := encF_all (pv := pv) (nx := nx) (of := of) (a := a) (b := b) (c := c) h; rw [e0, Nat.zero_add] at this; exact this, by rw [encF_length]; simp; omega⟩⟩
instance (a b c : Nat) : SetC (encF K pv nx of) i 0 [.int .u32 (a : Nat), .int .u32 (b : Nat), .int .u32 ((c : Nat) + 1)] 3 K (encF K (upd pv i a) (upd nx i b) (upd of i (c + 1))) := ⟨fun h => ⟨by have := encF_all (pv := pv) (nx := nx) (of := of) (a := a) (b := b) (c := c + 1) h; rw [e0, Nat.zero_add] at this; exact this, by rw [encF_length]; simp; omega⟩⟩
instance : SetC (encF K pv nx of) i 0 [.int .u32 0, .int .u32 0, .int .u32 0] 3 K (encF K (upd pv i 0) (upd nx i 0) (upd of i 0)) := ⟨fun h => ⟨by have := encF_zero (pv := pv) (nx := nx) (of := of) h; rw [e0, Nat.zero_add] at this; exact this, by rw [encF_length]; simp; omega⟩⟩
instance (c : Nat) : SetC (encL M ln) i 0 [.int .i64 (c : Nat)] 1 M (encL M (upd ln i c)) := ⟨fun h => ⟨by have := encL_set (ln := ln) (a := c) (x := (c : Int)) rfl rfl h; rw [e0, Nat.zero_add] at this; exact this, by rw [encL_length]; simp; omega⟩⟩
instance (c : Nat) : SetC (encL M ln) i 0 [.int .i64 ((c : Nat) + 1)] 1 M (encL M (upd ln i (c + 1))) := ⟨fun h => ⟨by have := encL_set (ln := ln) (a := c + 1) (x := (c : Int) + 1) rfl (by omega) h; rw [e0, Nat.zero_add] at this; exact this, by rw [encL_length]; simp; omega⟩⟩
end
/-- The field lies in memory at 'p': three blocks that are its own. -/
def LinksAt (p : Nat) (s : LS) : HP := fun h => ∃ af cf al cl, lst [obj p 69 [.slice af (s.N + s.M) cf, .int .i64 s.N, .slice al s.M cl], Vec 77 3 af (s.N + s.M) cf (encF (s.N + s.M) s.pv s.nx s.of), Vec 3 1 al s.M cl (encL s.M s.ln)] h
theorem LinksAt.open {p : Nat} {s : LS} {l : List HP} {h : Hp} (x : lst (LinksAt p s :: l) h) : ∃ q : (Option Addr × Nat) × (Option Addr × Nat), lst (obj p 69 [.slice q.1.1 (s.N + s.M) q.1.2, .int .i64 s.N, .slice q.2.1 s.M q.2.2] :: Vec 77 3 q.1.1 (s.N + s.M) q.1.2 (encF (s.N + s.M) s.pv s.nx s.of) :: Vec 3 1 q.2.1 s.M q.2.2 (encL s.M s.ln) :: l) h := by
  obtain ⟨a, b, hd, rfl, ⟨af, cf, al, cl, h1⟩, hb⟩ := x
  exact ⟨((af, cf), (al, cl)), lst_flat (xs := [_, _, _]) ⟨a, b, hd, rfl, h1, hb⟩⟩
theorem LinksAt.shut {p : Nat} {s : LS} {af al : Option Addr} {cf cl : Nat} {l : List HP} : Ent (obj p 69 [.slice af (s.N + s.M) cf, .int .i64 s.N, .slice al s.M cl] :: Vec 77 3 af (s.N + s.M) cf (encF (s.N + s.M) s.pv s.nx s.of) :: Vec 3 1 al s.M cl (encL s.M s.ln) :: l) (LinksAt p s :: l) := fun _h x =>
  lst_cons_mono (fun _ y => ⟨af, cf, al, cl, y⟩) (fun _ y => y) (lst_unflat (xs := [_, _, _]) x)
/-- The error of a list's number. -/
def listE (M : Nat) (h : Int) : Int := if h < 0 ∨ (M : Int) ≤ h then 2 else 0
/-- The error of a node's number. -/
def nodeE (N : Nat) (n : Nat) : Int := if N ≤ n then 2 else 0
/-- The error of a node that should be in a list. -/
def inE (s : LS) (n : Nat) : Int := if s.N ≤ n then 2 else if s.of n = 0 then 9 else 0
section
variable {r : Option Nat} {P : Program} {base : World} {n : Nat} {ds : List Deferred} {Q : Exit → Act → World → Prop} {env : Env} {l : List HP} {all : Array Oper} {c : Code} {ro : List Oper} {K : Act → World → Prop} {p : Nat} {s : LS}
theorem LinksAt.openK (h1 : 0 < s.N + s.M) (h2 : 0 < s.M) (h : ∀ b cf b2 cl : Nat, TK base n ds K env (obj p 69 [.slice (some ⟨b, 0, none⟩) (s.N + s.M) cf, .int .i64 s.N, .slice (some ⟨b2, 0, none⟩) s.M cl] :: Vec 77 3 (some ⟨b, 0, none⟩) (s.N + s.M) cf (encF (s.N + s.M) s.pv s.nx s.of) :: Vec 3 1 (some ⟨b2, 0, none⟩) s.M cl (encL s.M s.ln) :: l)) : TK base n ds K env (LinksAt p s :: l) := by
  refine TK.open (f := fun q : (Option Addr × Nat) × (Option Addr × Nat) => obj p 69 [.slice q.1.1 (s.N + s.M) q.1.2, .int .i64 s.N, .slice q.2.1 s.M q.2.2] :: Vec 77 3 q.1.1 (s.N + s.M) q.1.2 (encF (s.N + s.M) s.pv s.nx s.of) :: Vec 3 1 q.2.1 s.M q.2.2 (encL s.M s.ln) :: l) (fun h x => LinksAt.open x) ?_
  rintro ⟨⟨af, cf⟩, ⟨al, cl⟩⟩
  dsimp only
  refine TK.vecAt (.there _ (.here _ _)) h1 ?_
  rintro ⟨b, rfl⟩
  refine TK.vecAt (.there _ (.there _ (.here _ _))) h2 ?_
  rintro ⟨b2, rfl⟩
  exact h b cf b2 cl
theorem LinksAt.openC (h1 : 0 < s.N + s.M) (h2 : 0 < s.M) (h : ∀ b cf b2 cl : Nat, TC r P base n ds c Q env (obj p 69 [.slice (some ⟨b, 0, none⟩) (s.N + s.M) cf, .int .i64 s.N, .slice (some ⟨b2, 0, none⟩) s.M cl] :: Vec 77 3 (some ⟨b, 0, none⟩) (s.N + s.M) cf (encF (s.N + s.M) s.pv s.nx s.of) :: Vec 3 1 (some ⟨b2, 0, none⟩) s.M cl (encL s.M s.ln) :: l)) : TC r P base n ds c Q env (LinksAt p s :: l) := LinksAt.openK h1 h2 h
theorem LinksAt.openL (h1 : 0 < s.N + s.M) (h2 : 0 < s.M) (h : ∀ b cf b2 cl : Nat, TL r P base n ds all ro Q env (obj p 69 [.slice (some ⟨b, 0, none⟩) (s.N + s.M) cf, .int .i64 s.N, .slice (some ⟨b2, 0, none⟩) s.M cl] :: Vec 77 3 (some ⟨b, 0, none⟩) (s.N + s.M) cf (encF (s.N + s.M) s.pv s.nx s.of) :: Vec 3 1 (some ⟨b2, 0, none⟩) s.M cl (encL s.M s.ln) :: l)) : TL r P base n ds all ro Q env (LinksAt p s :: l) := LinksAt.openK h1 h2 h
end
/-- What keeps every number in its bounds. -/
structure GoodL (s : LS) : Prop where
  n1 : 1 ≤ s.N
  n2 : s.N ≤ 4194304
  m1 : 1 ≤ s.M
  m2 : s.M ≤ 4096
  pv : ∀ i, i < s.N + s.M → s.pv i < s.N + s.M
  nx : ∀ i, i < s.N + s.M → s.nx i < s.N + s.M
  of : ∀ i, i < s.N + s.M → s.of i ≤ s.M
  ofp : ∀ i, i < s.N + s.M → s.of i ≠ 0 → 1 ≤ s.of (s.pv i) ∧ 1 ≤ s.of (s.nx i)
  ring : ∀ h, h < s.M → s.of (s.N + h) = h + 1
  ln : ∀ h, s.ln h ≤ 4194304
abbrev putS (s : LS) (n o : Nat) : LS := { s with pv := upd (upd s.pv n (s.pv o)) o n, nx := upd (upd s.nx n o) (s.pv o) n, of := upd s.of n (s.of o), ln := upd s.ln (s.of o - 1) (s.ln (s.of o - 1) + 1) }
def addE (s : LS) (h : Int) (n : Nat) : Int := if h < 0 ∨ (s.M : Int) ≤ h ∨ s.N ≤ n then 2 else if s.of n ≠ 0 then 11 else 0
def addS (s : LS) (h : Int) (n : Nat) (front : Bool) : LS := if addE s h n = 0 then putS s n (if front then s.nx (s.N + h.toNat) else s.N + h.toNat) else s
abbrev remS (s : LS) (n : Nat) : LS := { s with pv := upd (upd s.pv (s.nx n) (s.pv n)) n 0, nx := upd (upd s.nx (s.pv n) (s.nx n)) n 0, of := upd s.of n 0, ln := upd s.ln (s.of n - 1) (s.ln (s.of n - 1) - 1) }
/-- From 'cur' on, node after node, till the list's own node. -/
def follows (nx : Nat → Nat) (own : Nat) : Nat → List Nat → Prop
  | cur, [] => cur = own
  | cur, n :: ns => cur = n ∧ n ≠ own ∧ follows nx own (nx n) ns
def u32s (ns : List Nat) : List Value := ns.map fun n => .int .u32 (n : Nat)
theorem u32s_append (a b : List Nat) : u32s (a ++ b) = u32s a ++ u32s b := by simp [u32s]
theorem u32s_length (a : List Nat) : (u32s a).length = a.length := by simp [u32s]
instance (a : List Nat) : Idx (u32s a) 1 a.length (fun i => [.int .u32 (a.getD i 0 : Nat)]) := ⟨fun i hi => ⟨rfl, fun j v hj => by
  have hj3 : j < 1 := (List.getElem?_eq_some_iff.1 hj).1
  obtain rfl : j = 0 := by omega
  simp [u32s, hi] at hj ⊢; exact hj⟩⟩
instance (K : Nat) (pv nx of : Nat → Nat) : PlC (encF K pv nx of) := by unfold encF trip; infer_instance
instance (M : Nat) (ln : Nat → Nat) : PlC (encL M ln) := by unfold encL; infer_instance
instance (a : List Nat) : PlC (u32s a) := ⟨fun v hv => by
  simp only [u32s, List.mem_map] at hv
  obtain ⟨n, _, rfl⟩ := hv
  rfl⟩
instance (a : List Nat) (i x : Nat) : SetC (u32s a) i 0 [.int .u32 (x : Nat)] 1 a.length (u32s (a.set i x)) := ⟨fun h => ⟨by simp [u32s, setL, List.map_set], by simp [u32s]; omega⟩⟩
/-- Cells that are numbers. -/
class AsU (cs : List Value) (xs : outParam (List Nat)) : Prop where
  out : cs = u32s xs
instance (xs : List Nat) : AsU (u32s xs) xs := ⟨rfl⟩
instance : AsU [] [] := ⟨rfl⟩
instance (x : Int) (n : Nat) (cs : List Value) (xs : List Nat) [h : NatI x n] [k : AsU cs xs] : AsU (.int .u32 x :: cs) (n :: xs) := ⟨by rw [h.out, k.out]; rfl⟩
theorem u32s_plain (a : List Nat) : ∀ v ∈ u32s a, plain v = true := by
  intro v hv
  simp only [u32s, List.mem_map] at hv
  obtain ⟨n, _, rfl⟩ := hv
  rfl
theorem u32s_get {a : List Nat} {i : Nat} (h : i < a.length) : (u32s a)[0 + Int.toNat (i : Int) * 1]? = some (.int .u32 (a[i] : Nat)) := by
  simp [u32s, h]
/-- A new field, 'k' of whose lists have been laid. -/
def newS (N M k : Nat) : LS := { N, M, pv := fun i => if N ≤ i ∧ i < N + k then i else 0, nx := fun i => if N ≤ i ∧ i < N + k then i else 0, of := fun i => if N ≤ i ∧ i < N + k then i - N + 1 else 0, ln := fun _ => 0 }
theorem encF_init (K : Nat) : (List.replicate K [(.int .u32 0 : Value), .int .u32 0, .int .u32 0]).flatten = encF K (fun _ => 0) (fun _ => 0) (fun _ => 0) := by
  rw [rows_replicate]; rfl
theorem encL_init (M : Nat) : (List.replicate M [(.int .i64 0 : Value)]).flatten = encL M (fun _ => 0) := by
  rw [rows_replicate]; rfl
theorem newS_zero (N M : Nat) : encF (N + M) (newS N M 0).pv (newS N M 0).nx (newS N M 0).of = encF (N + M) (fun _ => 0) (fun _ => 0) (fun _ => 0) := by
  refine rows_congr fun i _ => ?_
  simp [trip, newS]; omega
theorem newS_succ {N M k : Nat} (_hk : k < M) : encF (N + M) (upd (newS N M k).pv (N + k) (N + k)) (upd (newS N M k).nx (N + k) (N + k)) (upd (newS N M k).of (N + k) (k + 1)) = encF (N + M) (newS N M (k + 1)).pv (newS N M (k + 1)).nx (newS N M (k + 1)).of := by
  refine rows_congr fun i _ => ?_
  simp only [trip, newS, upd]
  by_cases h1 : i = N + k
  · subst h1
    have h2 : N ≤ N + k ∧ N + k < N + (k + 1) := by omega
    simp [h2, Nat.add_sub_cancel_left]
  · by_cases h2 : N ≤ i ∧ i < N + k
    · have h3 : N ≤ i ∧ i < N + (k + 1) := by omega
      simp [h1, h2, h3]
    · have h3 : ¬ (N ≤ i ∧ i < N + (k + 1)) := by omega
      simp only [if_neg h1, if_neg h2, if_neg h3]
def errV (e : Int) : Value := .tuple #[.int .u32 0, .int .i64 e]
/-- The node that stands for an end. -/
def realV (s : LS) (m : Nat) : Value := .tuple #[.int .u32 (if s.N ≤ m then 0 else m : Nat), .int .i64 (if s.N ≤ m then 9 else 0)]
end Go.Lk
