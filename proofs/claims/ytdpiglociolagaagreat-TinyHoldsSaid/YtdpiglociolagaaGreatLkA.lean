/- LkA: LkData, LkTheory, LkTheory2, LkTheory3, LkTheory4, LkRen. -/
import Derived.Test.YtdpiglociolagaaGreatSlC
/- A field of linked lists as the program holds it: nodes by number, each with the ones before and after it and one more than its list. Plain facts, no program. -/
namespace Go.Lk
open Go.Sl

structure LS where
  N : Nat
  M : Nat
  pv : Nat → Nat
  nx : Nat → Nat
  of : Nat → Nat
  ln : Nat → Nat

def upd (f : Nat → Nat) (i v : Nat) : Nat → Nat := fun k => if k = i then v else f k
theorem upd_same (f : Nat → Nat) (i v : Nat) : upd f i v i = v := by simp [upd]
theorem upd_ne {f : Nat → Nat} {i v k : Nat} (h : k ≠ i) : upd f i v k = f k := by simp [upd, h]

def trip (pv nx of : Nat → Nat) (i : Nat) : List Value := [.int .u32 (pv i), .int .u32 (nx i), .int .u32 (of i)]
def encF (K : Nat) (pv nx of : Nat → Nat) : List Value := rows K (trip pv nx of)
def encL (M : Nat) (ln : Nat → Nat) : List Value := rows M fun h => [.int .i64 (ln h)]
section
variable {K : Nat} {pv nx of ln : Nat → Nat} {i : Nat}
theorem trip_length (i : Nat) : (trip pv nx of i).length = 3 := rfl
theorem encF_length : (encF K pv nx of).length = K * 3 := rows_length trip_length K
theorem encF_all {a b c : Nat} (h : i < K) : setL (encF K pv nx of) (0 + Int.toNat (i : Int) * 3) [.int .u32 (a : Nat), .int .u32 (b : Nat), .int .u32 (c : Nat)] = encF K (upd pv i a) (upd nx i b) (upd of i c) := by
  rw [Int.toNat_natCast, Nat.zero_add]
  unfold encF
  rw [rows_setL (sz := 3) trip_length (by rfl) h]
  refine rows_congr fun k _ => ?_
  by_cases hk : k = i <;> simp [trip, upd, hk]
theorem encF_zero (h : i < K) : setL (encF K pv nx of) (0 + Int.toNat (i : Int) * 3) [.int .u32 0, .int .u32 0, .int .u32 0] = encF K (upd pv i 0) (upd nx i 0) (upd of i 0) := encF_all (a := 0) (b := 0) (c := 0) h
theorem encF_set0 {a : Nat} (h : i < K) : setL (encF K pv nx of) (0 + Int.toNat (i : Int) * 3 + 0) [.int .u32 (a : Nat)] = encF K (upd pv i a) nx of := by
  rw [Int.toNat_natCast, Nat.zero_add]
  unfold encF
  simp only [setL]
  rw [rows_set (sz := 3) trip_length (by omega) _ h]
  refine rows_congr fun k _ => ?_
  by_cases hk : k = i <;> simp [trip, upd, hk]
theorem encF_set1 {a : Nat} (h : i < K) : setL (encF K pv nx of) (0 + Int.toNat (i : Int) * 3 + 1) [.int .u32 (a : Nat)] = encF K pv (upd nx i a) of := by
  rw [Int.toNat_natCast, Nat.zero_add]
  unfold encF
  simp only [setL]
  rw [rows_set (sz := 3) trip_length (by omega) _ h]
  refine rows_congr fun k _ => ?_
  by_cases hk : k = i <;> simp [trip, upd, hk]
theorem encL_length : (encL K ln).length = K := by have := rows_length (sz := 1) (f := fun h => [.int .i64 (ln h)]) (fun _ => rfl) K; simpa [encL] using this
theorem encL_set {q : Int} {x : Int} {a : Nat} (h : q = (i : Int)) (hx : x = (a : Int)) (hi : i < K) : setL (encL K ln) (0 + Int.toNat q * 1) [.int .i64 x] = encL K (upd ln i a) := by
  subst h; subst hx
  rw [Int.toNat_natCast, Nat.zero_add]
  unfold encL
  simp only [setL]
  rw [show i * 1 = i * 1 + 0 from rfl, rows_set (sz := 1) (fun _ => rfl) (by omega) _ hi]
  refine rows_congr fun k _ => ?_
  by_cases hk : k = i <;> simp [upd, hk]
end

instance (K : Nat) (pv nx of : Nat → Nat) : Idx (encF K pv nx of) 3 K (fun i => [.int .u32 (pv i), .int .u32 (nx i), .int .u32 (of i)]) := ⟨fun i hi => ⟨rfl, fun j v hj => by
  have hj3 : j < 3 := (List.getElem?_eq_some_iff.1 hj).1
  exact (rows_get (sz := 3) trip_length hj3 hi).trans hj⟩⟩
instance (M : Nat) (ln : Nat → Nat) : Idx (encL M ln) 1 M (fun h => [.int .i64 (ln h)]) := ⟨fun i hi => ⟨rfl, fun j v hj => by
  have hj3 : j < 1 := (List.getElem?_eq_some_iff.1 hj).1
  exact (rows_get (sz := 1) (f := fun h => [.int .i64 (ln h)]) (fun _ => rfl) hj3 hi).trans hj⟩⟩
section
variable {K M : Nat} {pv nx of ln : Nat → Nat} {i : Nat}
theorem e0 (i : Nat) : Int.toNat (i : Int) = i := Int.toNat_natCast i
instance (a : Nat) : SetC (encF K pv nx of) i 0 [.int .u32 (a : Nat)] 3 K (encF K (upd pv i a) nx of) := ⟨fun h => ⟨by have := encF_set0 (pv := pv) (nx := nx) (of := of) (a := a) h; rw [e0, Nat.zero_add] at this; exact this, by rw [encF_length]; simp; omega⟩⟩
instance (a : Nat) : SetC (encF K pv nx of) i 1 [.int .u32 (a : Nat)] 3 K (encF K pv (upd nx i a) of) := ⟨fun h => ⟨by have := encF_set1 (pv := pv) (nx := nx) (of := of) (a := a) h; rw [e0, Nat.zero_add] at this; exact this, by rw [encF_length]; simp; omega⟩⟩
instance (a b c : Nat) : SetC (encF K pv nx of) i 0 [.int .u32 (a : Nat), .int .u32 (b : Nat), .int .u32 (c : Nat)] 3 K (encF K (upd pv i a) (upd nx i b) (upd of i c)) := ⟨fun h => ⟨by have := encF_all (pv := pv) (nx := nx) (of := of) (a := a) (b := b) (c := c) h; rw [e0, Nat.zero_add] at this; exact this, by rw [encF_length]; simp; omega⟩⟩
instance (a b c : Nat) : SetC (encF K pv nx of) i 0 [.int .u32 (a : Nat), .int .u32 (b : Nat), .int .u32 ((c : Nat) + 1)] 3 K (encF K (upd pv i a) (upd nx i b) (upd of i (c + 1))) := ⟨fun h => ⟨by have := encF_all (pv := pv) (nx := nx) (of := of) (a := a) (b := b) (c := c + 1) h; rw [e0, Nat.zero_add] at this; exact this, by rw [encF_length]; simp; omega⟩⟩
instance : SetC (encF K pv nx of) i 0 [.int .u32 0, .int .u32 0, .int .u32 0] 3 K (encF K (upd pv i 0) (upd nx i 0) (upd of i 0)) := ⟨fun h => ⟨by have := encF_zero (pv := pv) (nx := nx) (of := of) h; rw [e0, Nat.zero_add] at this; exact this, by rw [encF_length]; simp; omega⟩⟩
instance (c : Nat) : SetC (encL M ln) i 0 [.int .i64 (c : Nat)] 1 M (encL M (upd ln i c)) := ⟨fun h => ⟨by have := encL_set (ln := ln) (a := c) (x := (c : Int)) rfl rfl h; rw [e0, Nat.zero_add] at this; exact this, by rw [encL_length]; simp; omega⟩⟩
instance (c : Nat) : SetC (encL M ln) i 0 [.int .i64 ((c : Nat) + 1)] 1 M (encL M (upd ln i (c + 1))) := ⟨fun h => ⟨by have := encL_set (ln := ln) (a := c + 1) (x := (c : Int) + 1) rfl (by omega) h; rw [e0, Nat.zero_add] at this; exact this, by rw [encL_length]; simp; omega⟩⟩
end
def LinksAt (p : Nat) (s : LS) : HP := fun h => ∃ af cf al cl, lst [obj p 184 [.slice af (s.N + s.M) cf, .int .i64 s.N, .slice al s.M cl], Vec 181 3 af (s.N + s.M) cf (encF (s.N + s.M) s.pv s.nx s.of), Vec 3 1 al s.M cl (encL s.M s.ln)] h
theorem LinksAt.open {p : Nat} {s : LS} {l : List HP} {h : Hp} (x : lst (LinksAt p s :: l) h) : ∃ q : (Option Addr × Nat) × (Option Addr × Nat), lst (obj p 184 [.slice q.1.1 (s.N + s.M) q.1.2, .int .i64 s.N, .slice q.2.1 s.M q.2.2] :: Vec 181 3 q.1.1 (s.N + s.M) q.1.2 (encF (s.N + s.M) s.pv s.nx s.of) :: Vec 3 1 q.2.1 s.M q.2.2 (encL s.M s.ln) :: l) h := by
  obtain ⟨a, b, hd, rfl, ⟨af, cf, al, cl, h1⟩, hb⟩ := x
  exact ⟨((af, cf), (al, cl)), lst_flat (xs := [_, _, _]) ⟨a, b, hd, rfl, h1, hb⟩⟩
theorem LinksAt.shut {p : Nat} {s : LS} {af al : Option Addr} {cf cl : Nat} {l : List HP} : Ent (obj p 184 [.slice af (s.N + s.M) cf, .int .i64 s.N, .slice al s.M cl] :: Vec 181 3 af (s.N + s.M) cf (encF (s.N + s.M) s.pv s.nx s.of) :: Vec 3 1 al s.M cl (encL s.M s.ln) :: l) (LinksAt p s :: l) := fun _h x =>
  lst_cons_mono (fun _ y => ⟨af, cf, al, cl, y⟩) (fun _ y => y) (lst_unflat (xs := [_, _, _]) x)
def listE (M : Nat) (h : Int) : Int := if h < 0 ∨ (M : Int) ≤ h then 2 else 0
def nodeE (N : Nat) (n : Nat) : Int := if N ≤ n then 2 else 0
def inE (s : LS) (n : Nat) : Int := if s.N ≤ n then 2 else if s.of n = 0 then 9 else 0
section
variable {r : Option Nat} {P : Program} {base : World} {n : Nat} {ds : List Deferred} {Q : Exit → Act → World → Prop} {env : Env} {l : List HP} {all : Array Oper} {c : Code} {ro : List Oper} {K : Act → World → Prop} {p : Nat} {s : LS}
theorem LinksAt.openK (h1 : 0 < s.N + s.M) (h2 : 0 < s.M) (h : ∀ b cf b2 cl : Nat, TK base n ds K env (obj p 184 [.slice (some ⟨b, 0, none⟩) (s.N + s.M) cf, .int .i64 s.N, .slice (some ⟨b2, 0, none⟩) s.M cl] :: Vec 181 3 (some ⟨b, 0, none⟩) (s.N + s.M) cf (encF (s.N + s.M) s.pv s.nx s.of) :: Vec 3 1 (some ⟨b2, 0, none⟩) s.M cl (encL s.M s.ln) :: l)) : TK base n ds K env (LinksAt p s :: l) := by
  refine TK.open (f := fun q : (Option Addr × Nat) × (Option Addr × Nat) => obj p 184 [.slice q.1.1 (s.N + s.M) q.1.2, .int .i64 s.N, .slice q.2.1 s.M q.2.2] :: Vec 181 3 q.1.1 (s.N + s.M) q.1.2 (encF (s.N + s.M) s.pv s.nx s.of) :: Vec 3 1 q.2.1 s.M q.2.2 (encL s.M s.ln) :: l) (fun h x => LinksAt.open x) ?_
  rintro ⟨⟨af, cf⟩, ⟨al, cl⟩⟩
  dsimp only
  refine TK.vecAt (.there _ (.here _ _)) h1 ?_
  rintro ⟨b, rfl⟩
  refine TK.vecAt (.there _ (.there _ (.here _ _))) h2 ?_
  rintro ⟨b2, rfl⟩
  exact h b cf b2 cl
theorem LinksAt.openC (h1 : 0 < s.N + s.M) (h2 : 0 < s.M) (h : ∀ b cf b2 cl : Nat, TC r P base n ds c Q env (obj p 184 [.slice (some ⟨b, 0, none⟩) (s.N + s.M) cf, .int .i64 s.N, .slice (some ⟨b2, 0, none⟩) s.M cl] :: Vec 181 3 (some ⟨b, 0, none⟩) (s.N + s.M) cf (encF (s.N + s.M) s.pv s.nx s.of) :: Vec 3 1 (some ⟨b2, 0, none⟩) s.M cl (encL s.M s.ln) :: l)) : TC r P base n ds c Q env (LinksAt p s :: l) := LinksAt.openK h1 h2 h
theorem LinksAt.openL (h1 : 0 < s.N + s.M) (h2 : 0 < s.M) (h : ∀ b cf b2 cl : Nat, TL r P base n ds all ro Q env (obj p 184 [.slice (some ⟨b, 0, none⟩) (s.N + s.M) cf, .int .i64 s.N, .slice (some ⟨b2, 0, none⟩) s.M cl] :: Vec 181 3 (some ⟨b, 0, none⟩) (s.N + s.M) cf (encF (s.N + s.M) s.pv s.nx s.of) :: Vec 3 1 (some ⟨b2, 0, none⟩) s.M cl (encL s.M s.ln) :: l)) : TL r P base n ds all ro Q env (LinksAt p s :: l) := LinksAt.openK h1 h2 h
end
structure GoodL (s : LS) : Prop where
  n1 : 1 ≤ s.N
  n2 : s.N ≤ 4194304
  m1 : 1 ≤ s.M
  m2 : s.M ≤ 4096
  pv : ∀ i, i < s.N + s.M → s.pv i < s.N + s.M
  nx : ∀ i, i < s.N + s.M → s.nx i < s.N + s.M
  of : ∀ i, i < s.N + s.M → s.of i ≤ s.M
  ofp : ∀ i, i < s.N + s.M → s.of i ≠ 0 → 1 ≤ s.of (s.pv i) ∧ 1 ≤ s.of (s.nx i)
  ring : ∀ h, h < s.M → s.of (s.N + h) = h + 1
  ln : ∀ h, s.ln h ≤ 4194304
abbrev putS (s : LS) (n o : Nat) : LS := { s with pv := upd (upd s.pv n (s.pv o)) o n, nx := upd (upd s.nx n o) (s.pv o) n, of := upd s.of n (s.of o), ln := upd s.ln (s.of o - 1) (s.ln (s.of o - 1) + 1) }
def addE (s : LS) (h : Int) (n : Nat) : Int := if h < 0 ∨ (s.M : Int) ≤ h ∨ s.N ≤ n then 2 else if s.of n ≠ 0 then 11 else 0
def addS (s : LS) (h : Int) (n : Nat) (front : Bool) : LS := if addE s h n = 0 then putS s n (if front then s.nx (s.N + h.toNat) else s.N + h.toNat) else s
abbrev remS (s : LS) (n : Nat) : LS := { s with pv := upd (upd s.pv (s.nx n) (s.pv n)) n 0, nx := upd (upd s.nx (s.pv n) (s.nx n)) n 0, of := upd s.of n 0, ln := upd s.ln (s.of n - 1) (s.ln (s.of n - 1) - 1) }
def follows (nx : Nat → Nat) (own : Nat) : Nat → List Nat → Prop
  | cur, [] => cur = own
  | cur, n :: ns => cur = n ∧ n ≠ own ∧ follows nx own (nx n) ns
def u32s (ns : List Nat) : List Value := ns.map fun n => .int .u32 (n : Nat)
theorem u32s_append (a b : List Nat) : u32s (a ++ b) = u32s a ++ u32s b := by simp [u32s]
instance (a : List Nat) : Idx (u32s a) 1 a.length (fun i => [.int .u32 (a.getD i 0 : Nat)]) := ⟨fun i hi => ⟨rfl, fun j v hj => by
  have hj3 : j < 1 := (List.getElem?_eq_some_iff.1 hj).1
  obtain rfl : j = 0 := by omega
  simp [u32s, hi] at hj ⊢; exact hj⟩⟩
instance (K : Nat) (pv nx of : Nat → Nat) : PlC (encF K pv nx of) := by unfold encF trip; infer_instance
instance (M : Nat) (ln : Nat → Nat) : PlC (encL M ln) := by unfold encL; infer_instance
instance (a : List Nat) : PlC (u32s a) := ⟨fun v hv => by
  simp only [u32s, List.mem_map] at hv
  obtain ⟨n, _, rfl⟩ := hv
  rfl⟩
instance (a : List Nat) (i x : Nat) : SetC (u32s a) i 0 [.int .u32 (x : Nat)] 1 a.length (u32s (a.set i x)) := ⟨fun h => ⟨by simp [u32s, setL, List.map_set], by simp [u32s]; omega⟩⟩
class AsU (cs : List Value) (xs : outParam (List Nat)) : Prop where
  out : cs = u32s xs
instance (xs : List Nat) : AsU (u32s xs) xs := ⟨rfl⟩
instance : AsU [] [] := ⟨rfl⟩
instance (x : Int) (n : Nat) (cs : List Value) (xs : List Nat) [h : NatI x n] [k : AsU cs xs] : AsU (.int .u32 x :: cs) (n :: xs) := ⟨by rw [h.out, k.out]; rfl⟩
def newS (N M k : Nat) : LS := { N, M, pv := fun i => if N ≤ i ∧ i < N + k then i else 0, nx := fun i => if N ≤ i ∧ i < N + k then i else 0, of := fun i => if N ≤ i ∧ i < N + k then i - N + 1 else 0, ln := fun _ => 0 }
theorem newS_zero (N M : Nat) : encF (N + M) (newS N M 0).pv (newS N M 0).nx (newS N M 0).of = encF (N + M) (fun _ => 0) (fun _ => 0) (fun _ => 0) := by
  refine rows_congr fun i _ => ?_
  simp [trip, newS]; omega
theorem newS_succ {N M k : Nat} (_hk : k < M) : encF (N + M) (upd (newS N M k).pv (N + k) (N + k)) (upd (newS N M k).nx (N + k) (N + k)) (upd (newS N M k).of (N + k) (k + 1)) = encF (N + M) (newS N M (k + 1)).pv (newS N M (k + 1)).nx (newS N M (k + 1)).of := by
  refine rows_congr fun i _ => ?_
  simp only [trip, newS, upd]
  by_cases h1 : i = N + k
  · subst h1
    have h2 : N ≤ N + k ∧ N + k < N + (k + 1) := by omega
    simp [h2, Nat.add_sub_cancel_left]
  · by_cases h2 : N ≤ i ∧ i < N + k
    · have h3 : N ≤ i ∧ i < N + (k + 1) := by omega
      simp [h1, h2, h3]
    · have h3 : ¬ (N ≤ i ∧ i < N + (k + 1)) := by omega
      simp only [if_neg h1, if_neg h2, if_neg h3]
def errV (e : Int) : Value := .tuple #[.int .u32 0, .int .i64 e]
def realV (s : LS) (m : Nat) : Value := .tuple #[.int .u32 (if s.N ≤ m then 0 else m : Nat), .int .i64 (if s.N ≤ m then 9 else 0)]
end Go.Lk

/- Fields of linked lists in plain terms: lists of numbers; and when the program's nodes stand for them. No program in sight. -/
namespace Go.Lk
open Go.Sl

structure Fld where
  N : Nat
  L : List (List Nat)
deriving DecidableEq

def Fld.at (f : Fld) (h : Nat) : List Nat := f.L.getD h []

def seg (nx pv : Nat → Nat) : Nat → List Nat → Nat → Prop
  | a, [], b => nx a = b ∧ pv b = a
  | a, c :: l, b => (nx a = c ∧ pv c = a) ∧ seg nx pv c l b

theorem seg_append {nx pv : Nat → Nat} {c b : Nat} {l2 : List Nat} : ∀ {l1 : List Nat} {a : Nat}, seg nx pv a (l1 ++ c :: l2) b ↔ seg nx pv a l1 c ∧ seg nx pv c l2 b
  | [], a => by simp [seg]
  | d :: l1, a => by simp only [List.cons_append, seg, seg_append (l1 := l1)]; exact and_assoc.symm
theorem seg_congr {nx pv nx' pv' : Nat → Nat} {b : Nat} : ∀ {l : List Nat} {a : Nat}, (∀ i ∈ a :: l, nx' i = nx i) → (∀ i ∈ l, pv' i = pv i) → pv' b = pv b → seg nx pv a l b → seg nx' pv' a l b
  | [], a, h1, _, h3, h => by simp only [seg] at h ⊢; rw [h1 a (by simp), h3]; exact h
  | c :: l, a, h1, h2, h3, h => by
    simp only [seg] at h ⊢
    rw [h1 a (by simp), h2 c (by simp)]
    exact ⟨h.1, seg_congr (fun i hi => h1 i (List.mem_cons_of_mem _ hi)) (fun i hi => h2 i (List.mem_cons_of_mem _ hi)) h3 h.2⟩
def lastOf (a : Nat) : List Nat → Nat
  | [] => a
  | c :: l => lastOf c l
theorem lastOf_mem : ∀ {l : List Nat} {a : Nat}, lastOf a l ∈ a :: l
  | [], a => by simp [lastOf]
  | c :: l, a => List.mem_cons_of_mem _ lastOf_mem
theorem seg_last {nx pv : Nat → Nat} {b : Nat} : ∀ {l : List Nat} {a : Nat}, seg nx pv a l b → pv b = lastOf a l ∧ nx (lastOf a l) = b
  | [], _a, h => ⟨h.2, h.1⟩
  | _c :: l, _a, h => seg_last (l := l) h.2
theorem seg_first {nx pv : Nat → Nat} {b : Nat} : ∀ {l : List Nat} {a : Nat}, seg nx pv a l b → nx a = (l ++ [b]).headD b ∧ pv ((l ++ [b]).headD b) = a
  | [], _a, h => h
  | _c :: _l, _a, h => h.1
theorem seg_snoc {nx pv : Nat → Nat} {n o x : Nat} : ∀ {l : List Nat} {a : Nat}, seg nx pv a l o → x = lastOf a l → n ∉ a :: l → n ≠ o → o ∉ l → (a :: l).Nodup → seg (upd (upd nx n o) x n) (upd (upd pv n x) o n) a (l ++ [n]) o
  | [], a, h, hx, h1, h2, _, _ => by
    simp only [lastOf] at hx; subst hx
    have h3 : n ≠ x := by simpa using h1
    simp only [List.nil_append, seg, upd]
    simp [h2, h3]
  | c :: l, a, h, hx, h1, h2, h3, h4 => by
    simp only [List.cons_append, seg] at h ⊢
    have hx' : x ∈ c :: l := hx ▸ lastOf_mem
    have h5 : a ≠ x := fun e => by rw [← e] at hx'; exact (List.nodup_cons.1 h4).1 hx'
    have h6 : a ≠ n := fun e => h1 (by simp [e])
    have h7 : c ≠ n := fun e => h1 (by simp [e])
    have h8 : c ≠ o := fun e => h3 (by simp [e])
    refine ⟨?_, seg_snoc h.2 hx (fun hm => h1 (List.mem_cons_of_mem _ hm)) h2 (fun hm => h3 (List.mem_cons_of_mem _ hm)) (List.nodup_cons.1 h4).2⟩
    rw [upd_ne h5, upd_ne h6, upd_ne h8, upd_ne h7]
    exact h.1
theorem seg_cut {nx pv : Nat → Nat} {n b : Nat} {l2 : List Nat} (h2 : seg nx pv n l2 b) (hn2 : n ∉ l2) (hb : b ≠ n) (hb2 : b ∉ l2) (hd2 : l2.Nodup) : ∀ {l1 : List Nat} {a : Nat}, seg nx pv a l1 n → n ∉ a :: l1 → (a :: l1).Nodup → b ∉ l1 → (∀ i ∈ a :: l1, i ∉ l2) →
    seg (upd (upd nx (pv n) (nx n)) n 0) (upd (upd pv (nx n) (pv n)) n 0) a (l1 ++ l2) b
  | [], a, h1, hn1, hd1, hb1, hdis => by
    have e1 : pv n = a := h1.2
    have han : a ≠ n := fun e => hn1 (by simp [e])
    rw [e1]
    cases l2 with
    | nil =>
      have e2 : nx n = b := h2.1
      rw [e2]
      simp [seg, upd, han, hb]
    | cons c r =>
      have e2 : nx n = c := h2.1.1
      have hcn : c ≠ n := fun e => hn2 (by simp [e])
      rw [e2]
      refine ⟨by simp [upd, han, hcn], ?_⟩
      refine seg_congr ?_ ?_ ?_ h2.2
      · intro i hi
        have h3 : i ≠ n := fun e => hn2 (e ▸ hi)
        have h4 : i ≠ a := fun e => hdis a (by simp) (e ▸ hi)
        rw [upd_ne h3, upd_ne h4]
      · intro i hi
        have h3 : i ≠ n := fun e => hn2 (e ▸ List.mem_cons_of_mem _ hi)
        have h4 : i ≠ c := fun e => (List.nodup_cons.1 hd2).1 (e ▸ hi)
        rw [upd_ne h3, upd_ne h4]
      · have h4 : b ≠ c := fun e => hb2 (by simp [e])
        rw [upd_ne hb, upd_ne h4]
  | c :: l, a, h1, hn1, hd1, hb1, hdis => by
    simp only [List.cons_append, seg] at h1 ⊢
    refine ⟨?_, seg_cut h2 hn2 hb hb2 hd2 h1.2 (fun hm => hn1 (List.mem_cons_of_mem _ hm)) (List.nodup_cons.1 hd1).2 (fun hm => hb1 (List.mem_cons_of_mem _ hm)) (fun i hi => hdis i (List.mem_cons_of_mem _ hi))⟩
    have e1 : pv n ∈ c :: l := (seg_last h1.2).1 ▸ lastOf_mem
    have h3 : a ≠ pv n := fun e => (List.nodup_cons.1 hd1).1 (e ▸ e1)
    have h4 : a ≠ n := fun e => hn1 (by simp [e])
    have h5 : c ≠ n := fun e => hn1 (by simp [e])
    have h6 : c ≠ nx n := fun e => by
      have e2 := (seg_first h2).1
      cases l2 with
      | nil => rw [← e] at e2; exact hb1 (by simp at e2; simp [e2])
      | cons d r => rw [← e] at e2; simp at e2; exact hdis c (by simp) (by simp [e2])
    rw [upd_ne h4, upd_ne h3, upd_ne h5, upd_ne h6]
    exact h1.1

structure Repr (s : LS) (f : Fld) : Prop where
  N : s.N = f.N
  M : s.M = f.L.length
  n1 : 1 ≤ s.N
  n2 : s.N ≤ 4194304
  m1 : 1 ≤ s.M
  m2 : s.M ≤ 4096
  pvb : ∀ i, i < s.N + s.M → s.pv i < s.N + s.M
  nxb : ∀ i, i < s.N + s.M → s.nx i < s.N + s.M
  ring : ∀ h, h < s.M → s.of (s.N + h) = h + 1
  ofb : ∀ n, n < s.N → s.of n ≤ s.M
  mem : ∀ h, h < s.M → ∀ n, n ∈ f.at h ↔ n < s.N ∧ s.of n = h + 1
  nodup : ∀ h, h < s.M → (f.at h).Nodup
  seg : ∀ h, h < s.M → seg s.nx s.pv (s.N + h) (f.at h) (s.N + h)
  ln : ∀ h, s.ln h = (f.at h).length
namespace Repr
variable {s : LS} {f : Fld}
theorem lt (r : Repr s f) {h n : Nat} (hh : h < s.M) (hn : n ∈ f.at h) : n < s.N := ((r.mem h hh n).1 hn).1
theorem of_mem (r : Repr s f) {h n : Nat} (hh : h < s.M) (hn : n ∈ f.at h) : s.of n = h + 1 := ((r.mem h hh n).1 hn).2
theorem at_big (r : Repr s f) {h : Nat} (hh : s.M ≤ h) : f.at h = [] := by
  unfold Fld.at; rw [List.getD_eq_getElem?_getD, List.getElem?_eq_none (by have := r.M; omega)]; rfl
theorem len_le (r : Repr s f) (h : Nat) : (f.at h).length ≤ s.N := by
  rcases Nat.lt_or_ge h s.M with hh | hh
  · have := List.Nodup.length_le_of_subset (r.nodup h hh) (l₂ := List.range s.N) (fun n hn => List.mem_range.2 (r.lt hh hn))
    simpa using this
  · rw [r.at_big hh]; simp
theorem home (r : Repr s f) {i : Nat} (hi : i < s.N + s.M) (ho : s.of i ≠ 0) : ∃ h, h < s.M ∧ s.of i = h + 1 ∧ i ∈ (s.N + h) :: f.at h := by
  rcases Nat.lt_or_ge i s.N with h1 | h1
  · have := r.ofb i h1
    refine ⟨s.of i - 1, by omega, by omega, List.mem_cons_of_mem _ ?_⟩
    exact (r.mem _ (by omega) i).2 ⟨h1, by omega⟩
  · refine ⟨i - s.N, by omega, ?_, by simp; omega⟩
    have := r.ring (i - s.N) (by omega)
    rw [show s.N + (i - s.N) = i by omega] at this
    exact this
theorem ofAll (r : Repr s f) {i : Nat} (hi : i < s.N + s.M) : s.of i ≤ s.M := by
  rcases Nat.lt_or_ge i s.N with h1 | h1
  · exact r.ofb i h1
  · have := r.ring (i - s.N) (by omega)
    rw [show s.N + (i - s.N) = i by omega] at this
    omega
theorem of_seg (r : Repr s f) {h i : Nat} (hh : h < s.M) (hi : i ∈ (s.N + h) :: f.at h) : s.of i = h + 1 := by
  rcases List.mem_cons.1 hi with rfl | hi
  · exact r.ring h hh
  · exact r.of_mem hh hi
end Repr
theorem seg_ends {nx pv : Nat → Nat} {b : Nat} : ∀ {l : List Nat} {a : Nat}, seg nx pv a l b → ∀ i ∈ a :: l, nx i ∈ l ++ [b]
  | [], a, h, i, hi => by simp only [List.mem_singleton] at hi; subst hi; simp [h.1]
  | c :: l, a, h, i, hi => by
    rcases List.mem_cons.1 hi with rfl | hi
    · simp [h.1.1]
    · have := seg_ends h.2 i hi; simp at this ⊢; rcases this with h | h <;> simp [h]
theorem seg_begins {nx pv : Nat → Nat} {b : Nat} : ∀ {l : List Nat} {a : Nat}, seg nx pv a l b → ∀ i ∈ l ++ [b], pv i ∈ a :: l
  | [], a, h, i, hi => by simp at hi; subst hi; simp [h.2]
  | c :: l, a, h, i, hi => by
    simp only [List.cons_append] at hi
    rcases List.mem_cons.1 hi with rfl | hi
    · simp [h.1.2]
    · exact List.mem_cons_of_mem _ (seg_begins h.2 i hi)
theorem Repr.good {s : LS} {f : Fld} (r : Repr s f) : GoodL s where
  n1 := r.n1
  n2 := r.n2
  m1 := r.m1
  m2 := r.m2
  pv := r.pvb
  nx := r.nxb
  of i hi := r.ofAll hi
  ofp i hi ho := by
    obtain ⟨h, hh, e, hm⟩ := r.home hi ho
    have hs := r.seg h hh
    constructor
    · have : s.pv i ∈ (s.N + h) :: f.at h := seg_begins hs i (by rcases List.mem_cons.1 hm with rfl | hm <;> simp [*])
      rw [r.of_seg hh this]; omega
    · have : s.nx i ∈ f.at h ++ [s.N + h] := seg_ends hs i hm
      have : s.nx i ∈ (s.N + h) :: f.at h := by simp at this ⊢; rcases this with h | h <;> simp [h]
      rw [r.of_seg hh this]; omega
  ring := r.ring
  ln h := by rw [r.ln h]; have := r.len_le h; have := r.n2; omega
end Go.Lk

/- Fields of linked lists: what putting and removing do to the lists. -/
namespace Go.Lk
open Go.Sl

def Fld.set (f : Fld) (h : Nat) (l : List Nat) : Fld := { f with L := f.L.set h l }
theorem Fld.at_set {f : Fld} {h : Nat} {l : List Nat} (hh : h < f.L.length) (k : Nat) : (f.set h l).at k = if k = h then l else f.at k := by
  unfold Fld.at Fld.set
  simp only [List.getD_eq_getElem?_getD]
  by_cases e : k = h
  · subst e; simp [List.getElem?_set_self hh]
  · rw [if_neg e, List.getElem?_set_ne (fun x => e x.symm)]
section
variable {s : LS} {f : Fld}
theorem Repr.put (r : Repr s f) {h n o : Nat} {l' : List Nat} (hh : h < s.M) (hn : n < s.N) (h0 : s.of n = 0) (ho : s.of o = h + 1) (hob : o < s.N + s.M) (hm : ∀ x, x ∈ l' ↔ x = n ∨ x ∈ f.at h) (hd : l'.Nodup) (hl : l'.length = (f.at h).length + 1)
    (hs : Lk.seg (putS s n o).nx (putS s n o).pv (s.N + h) l' (s.N + h)) : Repr (putS s n o) (f.set h l') where
  N := r.N
  M := by show s.M = _; rw [r.M]; simp [Fld.set]
  n1 := r.n1
  n2 := r.n2
  m1 := r.m1
  m2 := r.m2
  pvb i hi := by
    show upd (upd s.pv n (s.pv o)) o n i < _
    unfold upd
    have := r.pvb o hob
    have := r.pvb i hi
    split
    · show n < s.N + s.M; omega
    · split <;> assumption
  nxb i hi := by
    show upd (upd s.nx n o) (s.pv o) n i < _
    unfold upd
    have := r.nxb i hi
    split
    · show n < s.N + s.M; omega
    · split <;> assumption
  ring k hk := by
    show upd s.of n (s.of o) (s.N + k) = _
    rw [upd_ne (by omega)]; exact r.ring k hk
  ofb i hi := by
    show upd s.of n (s.of o) i ≤ s.M
    unfold upd; split
    · omega
    · exact r.ofb i hi
  mem k hk i := by
    show _ ↔ i < s.N ∧ upd s.of n (s.of o) i = k + 1
    have hk : k < s.M := hk
    have hM := r.M
    rw [Fld.at_set (by omega)]
    by_cases e : k = h
    · subst e
      rw [if_pos rfl, hm i, r.mem k hk i]
      by_cases e2 : i = n
      · subst e2; simp [upd, ho, hn]
      · simp [upd, e2]
    · rw [if_neg e, r.mem k hk i]
      by_cases e2 : i = n
      · subst e2; simp only [upd, if_true, ho, h0]; omega
      · simp [upd, e2]
  nodup k hk := by
    have hk : k < s.M := hk
    have hM := r.M
    rw [Fld.at_set (by omega)]
    split
    · exact hd
    · exact r.nodup k hk
  seg k hk := by
    have hk : k < s.M := hk
    have hM := r.M
    rw [Fld.at_set (by omega)]
    by_cases e : k = h
    · subst e; rw [if_pos rfl]; exact hs
    · rw [if_neg e]
      have hp : s.pv o ∈ (s.N + h) :: f.at h := by
        obtain ⟨h', hh', e', hm'⟩ := r.home hob (by omega)
        have : h' = h := by omega
        subst this
        exact seg_begins (r.seg h' hh') o (by rcases List.mem_cons.1 hm' with rfl | hm' <;> simp [*])
      have hpo := r.of_seg hh hp
      have key : ∀ i ∈ (s.N + k) :: f.at k, i ≠ n ∧ i ≠ o ∧ i ≠ s.pv o := fun i hi => by
        have := r.of_seg hk hi
        refine ⟨fun x => ?_, fun x => ?_, fun x => ?_⟩ <;> (rw [x] at this; omega)
      refine seg_congr (fun i hi => ?_) (fun i hi => ?_) ?_ (r.seg k hk)
      · have := key i hi; show upd (upd s.nx n o) (s.pv o) n i = _; rw [upd_ne this.2.2, upd_ne this.1]
      · have := key i (List.mem_cons_of_mem _ hi); show upd (upd s.pv n (s.pv o)) o n i = _; rw [upd_ne this.2.1, upd_ne this.1]
      · have := key (s.N + k) (by simp); show upd (upd s.pv n (s.pv o)) o n _ = _; rw [upd_ne this.2.1, upd_ne this.1]
  ln k := by
    have hM := r.M
    show upd s.ln (s.of o - 1) (s.ln (s.of o - 1) + 1) k = _
    rw [Fld.at_set (by omega)]
    by_cases e : k = h
    · subst e; rw [if_pos rfl, hl, show s.of o - 1 = k by omega, upd_same, r.ln]
    · rw [if_neg e, upd_ne (by omega), r.ln]

theorem Repr.fresh (r : Repr s f) {h n : Nat} (hh : h < s.M) (_hn : n < s.N) (h0 : s.of n = 0) : n ∉ (s.N + h) :: f.at h := fun hm => by
  have := r.of_seg hh hm; omega
theorem Repr.segNodup (r : Repr s f) {h : Nat} (hh : h < s.M) : ((s.N + h) :: f.at h).Nodup := List.nodup_cons.2 ⟨fun hm => by have := r.lt hh hm; omega, r.nodup h hh⟩
theorem Repr.putBack (r : Repr s f) {h n : Nat} (hh : h < s.M) (hn : n < s.N) (h0 : s.of n = 0) : Repr (putS s n (s.N + h)) (f.set h (f.at h ++ [n])) := by
  have hf := r.fresh hh hn h0
  refine r.put hh hn h0 (r.ring h hh) (by omega) (fun x => by simp [or_comm]) ?_ (by simp) ?_
  · rw [List.nodup_append]
    refine ⟨r.nodup h hh, by simp, fun a ha b hb => ?_⟩
    simp at hb; subst hb
    exact fun e => hf (e ▸ List.mem_cons_of_mem _ ha)
  · exact seg_snoc (r.seg h hh) (seg_last (r.seg h hh)).1 hf (by omega) (fun hm => by have := r.lt hh hm; omega) (r.segNodup hh)
theorem Repr.putBefore (r : Repr s f) {h n o : Nat} {l1 l2 : List Nat} (hh : h < s.M) (hn : n < s.N) (h0 : s.of n = 0) (hl : f.at h = l1 ++ o :: l2) : Repr (putS s n o) (f.set h (l1 ++ n :: o :: l2)) := by
  have hf := r.fresh hh hn h0
  have hom : o ∈ f.at h := by rw [hl]; simp
  have hno : n ≠ o := fun e => hf (by rw [e]; exact List.mem_cons_of_mem _ hom)
  have hd := r.nodup h hh
  have hsd := r.segNodup hh
  have hs := r.seg h hh
  have hf1 : n ∉ l1 := fun e => hf (by rw [hl]; simp [e])
  have hf2 : n ∉ l2 := fun e => hf (by rw [hl]; simp [e])
  rw [hl] at hd hsd hs hf
  have hd' := hd
  rw [List.nodup_append] at hd
  obtain ⟨hd1, hd2, hd3⟩ := hd
  obtain ⟨hs1, hs2⟩ := seg_append.1 hs
  have ho1 : o ∉ l1 := fun e => hd3 o e o (by simp) rfl
  have ho2 : o ∉ l2 := (List.nodup_cons.1 hd2).1
  have hx := seg_last hs1
  have hoN := r.lt hh hom
  have hob : o ∉ (s.N + h) :: l1 := fun e => by
    rcases List.mem_cons.1 e with e | e
    · omega
    · exact ho1 e
  refine r.put hh hn h0 (r.of_mem hh hom) (by omega) (fun x => ?_) ?_ (by rw [hl]; simp; omega) ?_
  · rw [hl]; simp only [List.mem_append, List.mem_cons]
    constructor
    · rintro (h | h | h | h) <;> simp [h]
    · rintro (h | h | h | h) <;> simp [h]
  · rw [List.nodup_append]
    refine ⟨hd1, List.nodup_cons.2 ⟨by simp [hno, hf2], hd2⟩, fun a ha b hb => ?_⟩
    rcases List.mem_cons.1 hb with rfl | hb
    · exact fun e => hf1 (e ▸ ha)
    · exact hd3 a ha b hb
  · rw [show l1 ++ n :: o :: l2 = (l1 ++ [n]) ++ o :: l2 by simp, seg_append]
    have hsd1 : ((s.N + h) :: l1).Nodup := by
      have := hsd; rw [show (s.N + h) :: (l1 ++ o :: l2) = ((s.N + h) :: l1) ++ o :: l2 by simp, List.nodup_append] at this; exact this.1
    refine ⟨seg_snoc hs1 hx.1 (fun e => hf (by rcases List.mem_cons.1 e with e | e <;> simp [e])) hno ho1 hsd1, ?_⟩
    have hpm : s.pv o ∈ (s.N + h) :: l1 := hx.1 ▸ lastOf_mem
    have hpo : ∀ i ∈ o :: l2, i ≠ s.pv o := fun i hi e => by
      rcases List.mem_cons.1 hpm with e2 | e2
      · have : i < s.N := r.lt hh (by rw [hl]; simp only [List.mem_append]; exact .inr hi)
        omega
      · exact hd3 _ e2 i hi e.symm
    refine seg_congr (fun i hi => ?_) (fun i hi => ?_) ?_ hs2
    · have h1 := hpo i hi
      have h2 : i ≠ n := fun e => by subst e; rcases List.mem_cons.1 hi with e | e; exact hno e; exact hf2 e
      show upd (upd s.nx n o) (s.pv o) n i = _
      rw [upd_ne h1, upd_ne h2]
    · have h1 : i ≠ o := fun e => ho2 (e ▸ hi)
      have h2 : i ≠ n := fun e => hf2 (e ▸ hi)
      show upd (upd s.pv n (s.pv o)) o n i = _
      rw [upd_ne h1, upd_ne h2]
    · show upd (upd s.pv n (s.pv o)) o n _ = _
      rw [upd_ne (by omega), upd_ne (by omega)]
theorem Repr.putFront (r : Repr s f) {h n : Nat} (hh : h < s.M) (hn : n < s.N) (h0 : s.of n = 0) : Repr (putS s n (s.nx (s.N + h))) (f.set h (n :: f.at h)) := by
  have hs := r.seg h hh
  cases hl : f.at h with
  | nil =>
    rw [hl] at hs
    rw [show s.nx (s.N + h) = s.N + h from hs.1]
    have := r.putBack hh hn h0
    rw [hl] at this; exact this
  | cons o l =>
    rw [hl] at hs
    rw [show s.nx (s.N + h) = o from hs.1.1]
    exact r.putBefore (l1 := []) hh hn h0 hl
theorem Repr.remove (r : Repr s f) {h n : Nat} {l1 l2 : List Nat} (hh : h < s.M) (hl : f.at h = l1 ++ n :: l2) : Repr (remS s n) (f.set h (l1 ++ l2)) := by
  have hM := r.M
  have hnm : n ∈ f.at h := by rw [hl]; simp
  have hn := r.lt hh hnm
  have ho := r.of_mem hh hnm
  have hd := r.nodup h hh
  have hsd := r.segNodup hh
  have hs := r.seg h hh
  rw [hl] at hd hsd hs
  rw [List.nodup_append] at hd
  obtain ⟨hd1, hd2, hd3⟩ := hd
  obtain ⟨hs1, hs2⟩ := seg_append.1 hs
  have hn1 : n ∉ l1 := fun e => hd3 n e n (by simp) rfl
  have hn2 : n ∉ l2 := (List.nodup_cons.1 hd2).1
  have hlt1 : ∀ i ∈ l1, i < s.N := fun i hi => r.lt hh (by rw [hl]; simp [hi])
  have hlt2 : ∀ i ∈ l2, i < s.N := fun i hi => r.lt hh (by rw [hl]; simp [hi])
  have hcut := seg_cut hs2 hn2 (b := s.N + h) (by omega) (fun e => by have := hlt2 _ e; omega) (List.nodup_cons.1 hd2).2 hs1 (fun e => by rcases List.mem_cons.1 e with e | e; omega; exact hn1 e)
    (List.nodup_cons.2 ⟨fun e => by have := hlt1 _ e; omega, hd1⟩) (fun e => by have := hlt1 _ e; omega) (fun i hi e => by
      rcases List.mem_cons.1 hi with rfl | hi
      · have := hlt2 _ e; omega
      · exact hd3 i hi i (List.mem_cons_of_mem _ e) rfl)
  have hpv : s.of (s.pv n) = h + 1 := r.of_seg hh (by
    have := (seg_last hs1).1 ▸ lastOf_mem (l := l1) (a := s.N + h)
    rw [hl]; rcases List.mem_cons.1 this with e | e
    · rw [e]; simp
    · simp [e])
  have hnx : s.of (s.nx n) = h + 1 := r.of_seg hh (by
    have := seg_ends hs2 n (by simp)
    simp only [List.mem_append, List.mem_cons, List.not_mem_nil, or_false] at this; rw [hl]; simp only [List.mem_append, List.mem_cons]
    rcases this with e | e
    · exact .inr (.inr (.inr e))
    · exact .inl e)
  have hbp := r.pvb n (by omega)
  have hbn := r.nxb n (by omega)
  exact {
    N := r.N
    M := by show s.M = _; simp [Fld.set, hM]
    n1 := r.n1
    n2 := r.n2
    m1 := r.m1
    m2 := r.m2
    pvb := fun i hi => by
      show upd (upd s.pv (s.nx n) (s.pv n)) n 0 i < s.N + s.M
      have := r.pvb i hi
      have := r.n1
      unfold upd; split
      · omega
      · split <;> assumption
    nxb := fun i hi => by
      show upd (upd s.nx (s.pv n) (s.nx n)) n 0 i < s.N + s.M
      have := r.nxb i hi
      have := r.n1
      unfold upd; split
      · omega
      · split <;> assumption
    ring := fun k hk => by
      show upd s.of n 0 (s.N + k) = _
      rw [upd_ne (by omega)]; exact r.ring k hk
    ofb := fun i hi => by
      show upd s.of n 0 i ≤ s.M
      unfold upd; split
      · omega
      · exact r.ofb i hi
    mem := fun k hk i => by
      have hk : k < s.M := hk
      show _ ↔ i < s.N ∧ upd s.of n 0 i = k + 1
      rw [Fld.at_set (by omega)]
      by_cases e : k = h
      · subst e
        rw [if_pos rfl]
        have := r.mem k hk i
        rw [hl] at this
        by_cases e2 : i = n
        · subst e2; simp [upd, hn1, hn2]
        · rw [upd_ne e2, ← this]; simp [e2]
      · rw [if_neg e, r.mem k hk i]
        by_cases e2 : i = n
        · subst e2; simp only [upd, if_true]; omega
        · rw [upd_ne e2]
    nodup := fun k hk => by
      have hk : k < s.M := hk
      rw [Fld.at_set (by omega)]
      split
      · rw [List.nodup_append]
        exact ⟨hd1, (List.nodup_cons.1 hd2).2, fun a ha b hb => hd3 a ha b (List.mem_cons_of_mem _ hb)⟩
      · exact r.nodup k hk
    seg := fun k hk => by
      have hk : k < s.M := hk
      rw [Fld.at_set (by omega)]
      by_cases e : k = h
      · subst e; rw [if_pos rfl]; exact hcut
      · rw [if_neg e]
        have key : ∀ i ∈ (s.N + k) :: f.at k, i ≠ n ∧ i ≠ s.nx n ∧ i ≠ s.pv n := fun i hi => by
          have := r.of_seg hk hi
          refine ⟨fun x => ?_, fun x => ?_, fun x => ?_⟩ <;> (rw [x] at this; omega)
        refine seg_congr (fun i hi => ?_) (fun i hi => ?_) ?_ (r.seg k hk)
        · have := key i hi; show upd (upd s.nx (s.pv n) (s.nx n)) n 0 i = _; rw [upd_ne this.1, upd_ne this.2.2]
        · have := key i (List.mem_cons_of_mem _ hi); show upd (upd s.pv (s.nx n) (s.pv n)) n 0 i = _; rw [upd_ne this.1, upd_ne this.2.1]
        · have := key (s.N + k) (by simp); show upd (upd s.pv (s.nx n) (s.pv n)) n 0 _ = _; rw [upd_ne this.1, upd_ne this.2.1]
    ln := fun k => by
      show upd s.ln (s.of n - 1) (s.ln (s.of n - 1) - 1) k = _
      rw [Fld.at_set (by omega)]
      by_cases e : k = h
      · subst e; rw [if_pos rfl, show s.of n - 1 = k by omega, upd_same, r.ln, hl]; simp
      · rw [if_neg e, upd_ne (by omega), r.ln] }
theorem repr_new {N M : Nat} (g1 : 1 ≤ N) (g2 : N ≤ 4194304) (g3 : 1 ≤ M) (g4 : M ≤ 4096) : Repr (newS N M M) ⟨N, List.replicate M []⟩ where
  N := rfl
  M := by simp [newS]
  n1 := g1
  n2 := g2
  m1 := g3
  m2 := g4
  pvb i hi := by simp only [newS] at *; split <;> omega
  nxb i hi := by simp only [newS] at *; split <;> omega
  ring h hh := by simp only [newS] at *; rw [if_pos (by omega)]; omega
  ofb n hn := by simp only [newS] at *; rw [if_neg (by omega)]; omega
  mem h hh n := by
    simp only [newS, Fld.at] at *
    rw [List.getD_eq_getElem?_getD, List.getElem?_replicate, if_pos hh]
    simp only [Option.getD_some, List.not_mem_nil, false_iff]
    intro ⟨h1, h2⟩
    rw [if_neg (by omega)] at h2; omega
  nodup h hh := by
    simp only [newS, Fld.at] at *
    rw [List.getD_eq_getElem?_getD, List.getElem?_replicate, if_pos hh]; simp
  seg h hh := by
    simp only [newS, Fld.at] at *
    rw [List.getD_eq_getElem?_getD, List.getElem?_replicate, if_pos hh]
    simp only [Option.getD_some, Lk.seg]
    rw [if_pos (by omega)]; exact ⟨rfl, rfl⟩
  ln h := by
    simp only [newS, Fld.at]
    rw [List.getD_eq_getElem?_getD, List.getElem?_replicate]; split <;> simp
theorem follows_seg {nx pv : Nat → Nat} {own : Nat} : ∀ {l : List Nat} {a : Nat}, seg nx pv a l own → own ∉ l → follows nx own (nx a) l
  | [], a, h, _ => h.1
  | c :: l, a, h, hn => ⟨h.1.1, fun e => hn (by simp [e]), follows_seg h.2 (fun hm => hn (List.mem_cons_of_mem _ hm))⟩
end
end Go.Lk

/- Fields of linked lists: what the calls answer, on plain lists. -/
namespace Go.Lk
open Go.Sl

def placeL (n : Nat) : List (List Nat) → Option (Nat × Nat)
  | [] => none
  | l :: L => if n ∈ l then some (0, l.idxOf n) else (placeL n L).map fun q => (q.1 + 1, q.2)
namespace Fld
def place (f : Fld) (n : Nat) : Option (Nat × Nat) := placeL n f.L
def head (f : Fld) (h : Int) : Bool := decide (0 ≤ h ∧ h < f.L.length)
def listOf (f : Fld) (h : Int) : List Nat := if 0 ≤ h then f.at h.toNat else []
def addE (f : Fld) (h : Int) (n : Nat) : Int := if f.head h = false ∨ f.N ≤ n then 2 else if f.place n ≠ none then 11 else 0
def addF (f : Fld) (h : Int) (n : Nat) (front : Bool) : Fld := if f.addE h n = 0 then f.set h.toNat (if front then n :: f.at h.toNat else f.at h.toNat ++ [n]) else f
def befE (f : Fld) (n o : Nat) : Int := if f.N ≤ n ∨ f.N ≤ o then 2 else if f.place n ≠ none then 11 else if f.place o = none then 9 else 0
def befF (f : Fld) (n o : Nat) : Fld := if f.befE n o = 0 then match f.place o with | some (h, i) => f.set h ((f.at h).take i ++ n :: (f.at h).drop i) | none => f else f
def inE (f : Fld) (n : Nat) : Int := if f.N ≤ n then 2 else if f.place n = none then 9 else 0
def remF (f : Fld) (n : Nat) : Fld := if f.inE n = 0 then match f.place n with | some (h, i) => f.set h ((f.at h).take i ++ (f.at h).drop (i + 1)) | none => f else f
def res : Option Nat → Nat × Int
  | some m => (m, 0)
  | none => (0, 9)
def first (f : Fld) (h : Int) : Nat × Int := if f.head h then res (f.at h.toNat).head? else (0, 2)
def last (f : Fld) (h : Int) : Nat × Int := if f.head h then res (f.at h.toNat).getLast? else (0, 2)
def next (f : Fld) (n : Nat) : Nat × Int := if f.N ≤ n then (0, 2) else match f.place n with | some (h, i) => res (f.at h)[i + 1]? | none => (0, 9)
def prev (f : Fld) (n : Nat) : Nat × Int := if f.N ≤ n then (0, 2) else match f.place n with | some (h, i) => res (if i = 0 then none else (f.at h)[i - 1]?) | none => (0, 9)
def ofR (f : Fld) (n : Nat) : Nat × Int := if f.N ≤ n then (0, 2) else match f.place n with | some (h, _) => (h, 0) | none => (0, 9)
def joinE (f : Fld) (a b : Int) : Int := if f.head a = false ∨ f.head b = false ∨ a = b then 2 else 0
def joinF (f : Fld) (a b : Int) : Fld := if f.joinE a b = 0 then (f.set b.toNat (f.at b.toNat ++ f.at a.toNat)).set a.toNat [] else f
end Fld
theorem placeL_none {n : Nat} : ∀ {L : List (List Nat)}, placeL n L = none ↔ ∀ l ∈ L, n ∉ l
  | [] => by simp [placeL]
  | l :: L => by
    simp only [placeL, List.mem_cons, forall_eq_or_imp, ← placeL_none (L := L)]
    by_cases h : n ∈ l <;> simp [h]
theorem placeL_some {n : Nat} : ∀ {L : List (List Nat)} {h i : Nat}, placeL n L = some (h, i) → ∃ l, L[h]? = some l ∧ n ∈ l ∧ i = l.idxOf n ∧ ∀ k, k < h → ∀ l', L[k]? = some l' → n ∉ l'
  | [], h, i, e => by simp [placeL] at e
  | l :: L, h, i, e => by
    simp only [placeL] at e
    by_cases hm : n ∈ l
    · rw [if_pos hm] at e
      cases e
      exact ⟨l, rfl, hm, rfl, fun k hk => by omega⟩
    · rw [if_neg hm] at e
      cases hp : placeL n L with
      | none => rw [hp] at e; cases e
      | some q =>
        rw [hp] at e
        obtain ⟨h', i'⟩ := q
        cases e
        obtain ⟨l', h1, h2, h3, h4⟩ := placeL_some hp
        refine ⟨l', h1, h2, h3, fun k hk l2 hl2 => ?_⟩
        cases k with
        | zero => simp at hl2; subst hl2; exact hm
        | succ k => exact h4 k (by omega) l2 hl2
theorem split_at {n : Nat} : ∀ {l : List Nat}, n ∈ l → l = l.take (l.idxOf n) ++ n :: l.drop (l.idxOf n + 1) ∧ l.drop (l.idxOf n) = n :: l.drop (l.idxOf n + 1) ∧ l.idxOf n < l.length
  | [], h => by cases h
  | a :: l, h => by
    by_cases e : a = n
    · subst e; simp []
    · have hm : n ∈ l := by rcases List.mem_cons.1 h with x | x; exact absurd x.symm e; exact x
      obtain ⟨h1, h2, h3⟩ := split_at hm
      have hx : (a :: l).idxOf n = l.idxOf n + 1 := by simp only [List.idxOf_cons]; rw [show (a == n) = false by simpa using e]; rfl
      rw [hx]
      refine ⟨?_, ?_, by simp; exact h3⟩
      · simp only [List.take_succ_cons, List.cons_append, List.drop_succ_cons]; exact congrArg _ h1
      · simp only [List.drop_succ_cons]; exact h2
theorem Fld.place_spec {f : Fld} {n h i : Nat} (e : f.place n = some (h, i)) : h < f.L.length ∧ n ∈ f.at h ∧ i = (f.at h).idxOf n := by
  obtain ⟨l, h1, h2, h3, _⟩ := placeL_some e
  have hh : h < f.L.length := (List.getElem?_eq_some_iff.1 h1).1
  have : f.at h = l := by unfold Fld.at; rw [List.getD_eq_getElem?_getD, h1]; rfl
  rw [this]; exact ⟨hh, h2, h3⟩
theorem Fld.place_none {f : Fld} {n : Nat} : f.place n = none ↔ ∀ h, h < f.L.length → n ∉ f.at h := by
  unfold Fld.place
  rw [placeL_none]
  constructor
  · intro H h hh
    have : f.at h = f.L[h] := by unfold Fld.at; rw [List.getD_eq_getElem?_getD, List.getElem?_eq_getElem hh]; rfl
    rw [this]; exact H _ (List.getElem_mem hh)
  · intro H l hl
    obtain ⟨h, hh, rfl⟩ := List.getElem_of_mem hl
    have := H h hh
    unfold Fld.at at this; rw [List.getD_eq_getElem?_getD, List.getElem?_eq_getElem hh] at this; exact this
namespace Repr
variable {s : LS} {f : Fld}
theorem of_place (r : Repr s f) {n : Nat} (hn : n < s.N) : s.of n = match f.place n with | some (h, _) => h + 1 | none => 0 := by
  have hM := r.M
  cases hp : f.place n with
  | none =>
    have h1 := Fld.place_none.1 hp
    rcases Nat.eq_zero_or_pos (s.of n) with h | h
    · exact h
    · exfalso
      have h2 := r.ofb n hn
      exact h1 (s.of n - 1) (by omega) ((r.mem (s.of n - 1) (by omega) n).2 ⟨hn, by omega⟩)
  | some q =>
    obtain ⟨h, i⟩ := q
    obtain ⟨h1, h2, _⟩ := Fld.place_spec hp
    exact r.of_mem (by omega) h2
theorem headM (r : Repr s f) {h : Int} : f.head h = true ↔ 0 ≤ h ∧ h < s.M := by
  unfold Fld.head; rw [decide_eq_true_iff, r.M]
theorem headF (r : Repr s f) {h : Int} : f.head h = false ↔ h < 0 ∨ (s.M : Int) ≤ h := by
  unfold Fld.head; rw [decide_eq_false_iff_not, r.M]; omega
theorem of_zero (r : Repr s f) {n : Nat} (hn : n < s.N) : s.of n = 0 ↔ f.place n = none := by
  rw [r.of_place hn]
  cases f.place n with
  | none => simp
  | some q => simp
theorem addE (r : Repr s f) (h : Int) (n : Nat) : Lk.addE s h n = f.addE h n := by
  unfold Lk.addE Fld.addE
  have hF := r.headF (h := h)
  have hN := r.N
  have hc : (f.head h = false ∨ f.N ≤ n) ↔ (h < 0 ∨ (s.M : Int) ≤ h ∨ s.N ≤ n) := by rw [hF]; omega
  simp only [hc]
  by_cases h1 : h < 0 ∨ (s.M : Int) ≤ h ∨ s.N ≤ n
  · simp only [if_pos h1]
  · have := r.of_zero (n := n) (by omega)
    simp only [if_neg h1, ne_eq, this]
theorem addF (r : Repr s f) (h : Int) (n : Nat) (front : Bool) : Repr (Lk.addS s h n front) (f.addF h n front) := by
  unfold Lk.addS Fld.addF
  rw [r.addE]
  by_cases e : f.addE h n = 0
  · rw [if_pos e, if_pos e]
    have e1 : ¬ (f.head h = false ∨ f.N ≤ n) := fun x => by unfold Fld.addE at e; rw [if_pos x] at e; cases e
    have e2 : f.place n = none := by
      unfold Fld.addE at e; rw [if_neg e1] at e
      by_cases x : f.place n = none
      · exact x
      · rw [if_pos x] at e; cases e
    have hh : 0 ≤ h ∧ h < s.M := r.headM.1 (by cases x : f.head h with | true => rfl | false => exact absurd (.inl x) e1)
    have hn : n < s.N := by rw [r.N]; omega
    have h0 := (r.of_zero hn).2 e2
    cases front
    · exact r.putBack (by omega) hn h0
    · exact r.putFront (by omega) hn h0
  · rw [if_neg e, if_neg e]; exact r
theorem befE (r : Repr s f) (n o : Nat) (g : Int) (hg : g = if s.N ≤ n ∨ s.N ≤ o then 2 else if s.of n ≠ 0 then 11 else if s.of o = 0 then 9 else 0) : g = f.befE n o := by
  subst hg
  unfold Fld.befE
  rw [← r.N]
  by_cases h1 : s.N ≤ n ∨ s.N ≤ o
  · rw [if_pos h1, if_pos h1]
  · rw [if_neg h1, if_neg h1]
    have e1 := r.of_zero (n := n) (by omega)
    have e2 := r.of_zero (n := o) (by omega)
    simp only [ne_eq, e1, e2]
theorem befF (r : Repr s f) (n o : Nat) : Repr (if f.befE n o = 0 then putS s n o else s) (f.befF n o) := by
  unfold Fld.befF
  by_cases e : f.befE n o = 0
  · rw [if_pos e, if_pos e]
    unfold Fld.befE at e
    by_cases h1 : f.N ≤ n ∨ f.N ≤ o
    · rw [if_pos h1] at e; cases e
    · rw [if_neg h1] at e
      by_cases h2 : f.place n = none
      · rw [if_neg (fun x => x h2)] at e
        cases hp : f.place o with
        | none => rw [if_pos hp] at e; cases e
        | some q =>
          obtain ⟨h, i⟩ := q
          obtain ⟨p1, p2, p3⟩ := Fld.place_spec hp
          have hn : n < s.N := by rw [r.N]; omega
          have hs := split_at p2
          dsimp only
          rw [p3, hs.2.1]
          exact r.putBefore (by rw [r.M]; exact p1) hn ((r.of_zero hn).2 h2) hs.1
      · rw [if_pos h2] at e; cases e
  · rw [if_neg e, if_neg e]; exact r
theorem inE (r : Repr s f) (n : Nat) : Lk.inE s n = f.inE n := by
  unfold Lk.inE Fld.inE
  rw [← r.N]
  by_cases h1 : s.N ≤ n
  · rw [if_pos h1, if_pos h1]
  · rw [if_neg h1, if_neg h1]
    have e1 := r.of_zero (n := n) (by omega)
    by_cases h2 : s.of n = 0
    · rw [if_pos h2, if_pos (e1.1 h2)]
    · rw [if_neg h2, if_neg (fun x => h2 (e1.2 x))]
theorem in0 (_r : Repr s f) {n : Nat} (e : f.inE n = 0) : n < f.N ∧ ∃ h i, f.place n = some (h, i) := by
  unfold Fld.inE at e
  by_cases h1 : f.N ≤ n
  · rw [if_pos h1] at e; cases e
  · rw [if_neg h1] at e
    refine ⟨by omega, ?_⟩
    cases hp : f.place n with
    | none => rw [if_pos hp] at e; cases e
    | some q => exact ⟨q.1, q.2, rfl⟩
theorem remF (r : Repr s f) (n : Nat) : Repr (if f.inE n = 0 then remS s n else s) (f.remF n) := by
  unfold Fld.remF
  by_cases e : f.inE n = 0
  · rw [if_pos e, if_pos e]
    obtain ⟨h1, h, i, hp⟩ := r.in0 e
    obtain ⟨p1, p2, p3⟩ := Fld.place_spec hp
    have hs := split_at p2
    rw [hp]
    dsimp only
    rw [p3]
    exact r.remove (by rw [r.M]; exact p1) hs.1
  · rw [if_neg e, if_neg e]; exact r
theorem lnPos (r : Repr s f) (n : Nat) : f.inE n = 0 → 1 ≤ s.ln (s.of n - 1) := fun e => by
  obtain ⟨h1, h, i, hp⟩ := r.in0 e
  obtain ⟨p1, p2, p3⟩ := Fld.place_spec hp
  have hn : n < s.N := by rw [r.N]; exact h1
  rw [r.of_place hn, hp, r.ln]
  exact List.length_pos_of_mem p2
end Repr
end Go.Lk

/- Fields of linked lists: joining and renumbering, step by step. -/
namespace Go.Lk
open Go.Sl

def Wf (f : Fld) : Prop := ∃ s, Repr s f
namespace Wf
variable {f : Fld}
theorem lt (w : Wf f) {h n : Nat} (hh : h < f.L.length) (hn : n ∈ f.at h) : n < f.N := by obtain ⟨s, r⟩ := w; rw [← r.N]; exact r.lt (by rw [r.M]; exact hh) hn
theorem bound (w : Wf f) : 1 ≤ f.N ∧ f.N ≤ 4194304 ∧ 1 ≤ f.L.length ∧ f.L.length ≤ 4096 := by obtain ⟨s, r⟩ := w; rw [← r.N, ← r.M]; exact ⟨r.n1, r.n2, r.m1, r.m2⟩
theorem nodup (w : Wf f) {h : Nat} (hh : h < f.L.length) : (f.at h).Nodup := by obtain ⟨s, r⟩ := w; exact r.nodup h (by rw [r.M]; exact hh)
theorem len_le (w : Wf f) (h : Nat) : (f.at h).length ≤ f.N := by obtain ⟨s, r⟩ := w; rw [← r.N]; exact r.len_le h
theorem place (w : Wf f) {h n : Nat} (hh : h < f.L.length) (hn : n ∈ f.at h) : f.place n = some (h, (f.at h).idxOf n) := by
  obtain ⟨s, r⟩ := w
  have hh' : h < s.M := by rw [r.M]; exact hh
  have h1 := r.of_place (r.lt hh' hn)
  rw [r.of_mem hh' hn] at h1
  cases hp : f.place n with
  | none => rw [hp] at h1; cases h1
  | some q =>
    obtain ⟨k, i⟩ := q
    rw [hp] at h1
    have : k = h := by simpa using h1.symm
    subst this
    rw [(Fld.place_spec hp).2.2]
theorem uniq (w : Wf f) {h k n : Nat} (hh : h < f.L.length) (hk : k < f.L.length) (h1 : n ∈ f.at h) (h2 : n ∈ f.at k) : h = k := by
  have e1 := w.place hh h1
  rw [w.place hk h2] at e1
  simpa using (congrArg (Option.map Prod.fst) e1).symm
theorem addF (w : Wf f) (h : Int) (n : Nat) (front : Bool) : Wf (f.addF h n front) := by obtain ⟨s, r⟩ := w; exact ⟨_, r.addF h n front⟩
theorem remF (w : Wf f) (n : Nat) : Wf (f.remF n) := by obtain ⟨s, r⟩ := w; exact ⟨_, r.remF n⟩
theorem befF (w : Wf f) (n o : Nat) : Wf (f.befF n o) := by obtain ⟨s, r⟩ := w; exact ⟨_, r.befF n o⟩
theorem new {N M : Nat} (g1 : 1 ≤ N) (g2 : N ≤ 4194304) (g3 : 1 ≤ M) (g4 : M ≤ 4096) : Wf ⟨N, List.replicate M []⟩ := ⟨_, repr_new g1 g2 g3 g4⟩
theorem gone (w : Wf f) {n : Nat} (h : f.inE n = 0) : (f.remF n).place n = none := by
  obtain ⟨s, r⟩ := w
  have h1 := r.remF n
  rw [if_pos h] at h1
  have hn : n < s.N := by rw [r.N]; exact (r.in0 h).1
  exact (h1.of_zero hn).1 (by show upd s.of n 0 n = 0; rw [upd_same])
end Wf
theorem Fld.set_len {f : Fld} {h : Nat} {l : List Nat} : (f.set h l).L.length = f.L.length := by simp [Fld.set]
theorem Fld.addF_eq {f : Fld} {b n : Nat} {front : Bool} (hb : b < f.L.length) (hn : n < f.N) (h : f.place n = none) : f.addE b n = 0 ∧ f.addF b n front = f.set b (if front then n :: f.at b else f.at b ++ [n]) := by
  have h0 : f.addE b n = 0 := by
    unfold Fld.addE Fld.head
    rw [if_neg, if_neg (by simp [h])]
    rw [decide_eq_false_iff_not]; omega
  refine ⟨h0, ?_⟩
  unfold Fld.addF
  rw [if_pos h0, Int.toNat_natCast]
def renList (to : List Nat) (h : Nat) : List Nat → Fld → Option Fld
  | [], o => some o
  | n :: ns, o => if o.addE h (to.getD n 0) = 0 then renList to h ns (o.addF h (to.getD n 0) false) else none
def renLists (to : List Nat) : Nat → List (List Nat) → Fld → Option Fld
  | _, [], o => some o
  | h, l :: L, o => (renList to h l o).bind (renLists to (h + 1) L)
def Fld.renF (f : Fld) (to : List Nat) (nodes : Int) : Option Fld := if nodes < 1 ∨ 4194304 < nodes ∨ to.length ≠ f.N then none else renLists to 0 f.L ⟨nodes.toNat, List.replicate f.L.length []⟩
theorem renList_step {to : List Nat} {h i : Nat} {l : List Nat} {o : Fld} (hi : i < l.length) : renList to h (l.drop i) o = if o.addE h (to.getD l[i] 0) = 0 then renList to h (l.drop (i + 1)) (o.addF h (to.getD l[i] 0) false) else none := by
  rw [List.drop_eq_getElem_cons hi]; rfl
theorem Fld.at_getElem {f : Fld} {h : Nat} (hh : h < f.L.length) : f.at h = f.L[h] := by unfold Fld.at; rw [List.getD_eq_getElem?_getD, List.getElem?_eq_getElem hh]; rfl
theorem renLists_step {to : List Nat} {h : Nat} {f o : Fld} (hh : h < f.L.length) : renLists to h (f.L.drop h) o = (renList to h (f.at h) o).bind (renLists to (h + 1) (f.L.drop (h + 1))) := by
  rw [List.drop_eq_getElem_cons hh, Fld.at_getElem hh]; rfl
end Go.Lk

/- What a renumbering hands back. Plain. -/
namespace Go.Lk
def renE (f : Fld) (to : List Nat) (nodes : Int) : Int := if f.renF to nodes = none then 2 else 0
def renG (f : Fld) (to : List Nat) (nodes : Int) : Fld := (f.renF to nodes).getD f
theorem ren_none {f : Fld} {to : List Nat} {nodes : Int} (h : f.renF to nodes = none) : renE f to nodes = 2 ∧ renG f to nodes = f := by unfold renE renG; rw [h]; exact ⟨if_pos rfl, rfl⟩
theorem ren_some {f o : Fld} {to : List Nat} {nodes : Int} (h : f.renF to nodes = some o) : renE f to nodes = 0 ∧ renG f to nodes = o := by unfold renE renG; rw [h]; exact ⟨if_neg (by simp), rfl⟩
end Go.Lk
