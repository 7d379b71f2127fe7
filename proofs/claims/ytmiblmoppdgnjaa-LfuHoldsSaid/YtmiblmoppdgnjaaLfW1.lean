/- lfu, walked: a cache; nodes that are taken and released; the first key. -/
import Derived.Test.YtmiblmoppdgnjaaLfTheory5
import Derived.Test.YtmiblmoppdgnjaaLkA
import Derived.Test.YtmiblmoppdgnjaaLkC
import Derived.Test.YtmiblmoppdgnjaaSlD
import Derived.Test.YtmiblmoppdgnjaaSlMapS
import Derived.Test.YtmiblmoppdgnjaaSlX
namespace Go.Lf
open Go.Lk Go.Sl Go.Proofs.Ytmiblmoppdgnjaa
structure LQ where
  f : Fld
  K : List Nat
  kv : List (Nat × Nat)
  pl : Nat
  aK : Option Addr
  cK : Nat
  bm : Nat
/-- A cache. -/
def LfuAt (p size age req : Nat) (l : List It) : HP := Exs (ι := LQ) fun q => [fact (LInv size l q.f q.K q.kv ∧ 1 ≤ size ∧ size ≤ 1024 ∧ age ≤ 1048576), obj p 57 [.int .i64 (size : Nat), .int .i64 (age : Nat), .int .i64 (req : Nat), .pointer (some ⟨q.pl, 0, none⟩), .slice q.aK size q.cK, .map (some q.bm)], FieldAt q.pl q.f, Vec 28 1 q.aK size q.cK (u32s q.K), MapA .u32 (fun n : Nat => .int .u32 (n : Nat)) q.bm q.kv]
section
variable {r0 : Option Nat} {P : Program} {base : World} {n : Nat} {ds : List Deferred} {Q : Exit → Act → World → Prop} {env : Env} {l r : List HP} {KK : Act → World → Prop} {c : Code} {all : Array Oper} {ro : List Oper} {p size age req : Nat} {L : List It}
theorem LfuAt.openK (h : ∀ (f : Fld) (K : List Nat) (kv : List (Nat × Nat)) (pl aK cK bm : Nat), LInv size L f K kv → 1 ≤ size → size ≤ 1024 → age ≤ 1048576 → TK base n ds KK env (obj p 57 [.int .i64 (size : Nat), .int .i64 (age : Nat), .int .i64 (req : Nat), .pointer (some ⟨pl, 0, none⟩), .slice (some ⟨aK, 0, none⟩) size cK, .map (some bm)] :: FieldAt pl f :: Vec 28 1 (some ⟨aK, 0, none⟩) size cK (u32s K) :: MapA .u32 (fun n : Nat => .int .u32 (n : Nat)) bm kv :: r)) (hr : Rem l (LfuAt p size age req L) r := by (repeat (first | (with_reducible exact Rem.here _ _) | (with_reducible apply Rem.there) | fail)); done) : TK base n ds KK env l := by
  unfold LfuAt at hr
  refine TK.exs hr fun ⟨f, K, kv, pl, aK, cK, bm⟩ => ?_
  refine TK.fact fun ⟨hg, h1, h2, h3⟩ => ?_
  refine TK.vecAt (.there _ (.there _ (.here _ _))) (by omega) ?_
  rintro ⟨b, rfl⟩
  exact h f K kv pl b cK bm hg h1 h2 h3
theorem LfuAt.openC (h : ∀ (f : Fld) (K : List Nat) (kv : List (Nat × Nat)) (pl aK cK bm : Nat), LInv size L f K kv → 1 ≤ size → size ≤ 1024 → age ≤ 1048576 → TC r0 P base n ds c Q env (obj p 57 [.int .i64 (size : Nat), .int .i64 (age : Nat), .int .i64 (req : Nat), .pointer (some ⟨pl, 0, none⟩), .slice (some ⟨aK, 0, none⟩) size cK, .map (some bm)] :: FieldAt pl f :: Vec 28 1 (some ⟨aK, 0, none⟩) size cK (u32s K) :: MapA .u32 (fun n : Nat => .int .u32 (n : Nat)) bm kv :: r)) (hr : Rem l (LfuAt p size age req L) r := by (repeat (first | (with_reducible exact Rem.here _ _) | (with_reducible apply Rem.there) | fail)); done) : TC r0 P base n ds c Q env l := LfuAt.openK h hr
theorem LfuAt.openL (h : ∀ (f : Fld) (K : List Nat) (kv : List (Nat × Nat)) (pl aK cK bm : Nat), LInv size L f K kv → 1 ≤ size → size ≤ 1024 → age ≤ 1048576 → TL r0 P base n ds all ro Q env (obj p 57 [.int .i64 (size : Nat), .int .i64 (age : Nat), .int .i64 (req : Nat), .pointer (some ⟨pl, 0, none⟩), .slice (some ⟨aK, 0, none⟩) size cK, .map (some bm)] :: FieldAt pl f :: Vec 28 1 (some ⟨aK, 0, none⟩) size cK (u32s K) :: MapA .u32 (fun n : Nat => .int .u32 (n : Nat)) bm kv :: r)) (hr : Rem l (LfuAt p size age req L) r := by (repeat (first | (with_reducible exact Rem.here _ _) | (with_reducible apply Rem.there) | fail)); done) : TL r0 P base n ds all ro Q env l := LfuAt.openK h hr
theorem LfuAt.shut {f : Fld} {K : List Nat} {kv : List (Nat × Nat)} {pl : Nat} {aK : Option Addr} {cK bm : Nat} (g : LInv size L f K kv) (h1 : 1 ≤ size) (h2 : size ≤ 1024) (h3 : age ≤ 1048576) : Ent (obj p 57 [.int .i64 (size : Nat), .int .i64 (age : Nat), .int .i64 (req : Nat), .pointer (some ⟨pl, 0, none⟩), .slice aK size cK, .map (some bm)] :: FieldAt pl f :: Vec 28 1 aK size cK (u32s K) :: MapA .u32 (fun n : Nat => .int .u32 (n : Nat)) bm kv :: r) (LfuAt p size age req L :: r) := by
  refine Ent.exs (⟨f, K, kv, pl, aK, cK, bm⟩ : LQ) ?_
  exact Ent.fact ⟨g, h1, h2, h3⟩ (Ent.refl _)
theorem LfuAt.facts (h : Ok size L → 1 ≤ size → size ≤ 1024 → age ≤ 1048576 → (∀ k ∈ ks L, k < 4294967296) → TK base n ds KK env l) (hr : Rem l (LfuAt p size age req L) r := by (repeat (first | (with_reducible exact Rem.here _ _) | (with_reducible apply Rem.there) | fail)); done) : TK base n ds KK env l := by
  refine TK.know (p := Ok size L ∧ 1 ≤ size ∧ size ≤ 1024 ∧ age ≤ 1048576 ∧ ∀ k ∈ ks L, k < 4294967296) (fun _ y => ?_) fun ⟨a, b, c, d, e⟩ => h a b c d e
  unfold LfuAt at hr
  obtain ⟨⟨f, K, kv, pl, aK, cK, bm⟩, y⟩ := exs_out hr y
  obtain ⟨g, h1, h2, h3⟩ := (lst_fact y).1
  refine ⟨g.ok, h1, h2, h3, fun k hk => ?_⟩
  obtain ⟨z, n, n1, n2, hz, e⟩ := g.c.in_iff.2 hk
  rw [← e]; exact g.c.key_lt (g.c.zlt n2 hz)
theorem LfuAt.factsC (h : Ok size L → 1 ≤ size → size ≤ 1024 → age ≤ 1048576 → (∀ k ∈ ks L, k < 4294967296) → TC r0 P base n ds c Q env l) (hr : Rem l (LfuAt p size age req L) r := by (repeat (first | (with_reducible exact Rem.here _ _) | (with_reducible apply Rem.there) | fail)); done) : TC r0 P base n ds c Q env l := LfuAt.facts h hr
end
end Go.Lf
namespace Go.Proofs.Ytmiblmoppdgnjaa
open Go.Lk Go.Sl Go.Lf
attribute [local irreducible] TK TL TC Th Bk Nx fnPost WA TQ OpQ OpN SpecH Rd Ent IterH RoundH Rb Rp fnPostM
attribute [local irreducible] Fld.addE Fld.addF Fld.befE Fld.befF Fld.inE Fld.remF Fld.first Fld.last Fld.next Fld.prev Fld.ofR Fld.listOf Fld.joinE Fld.joinF renE renG Fld.at Fld.set Fld.place
instance lf_zero : Known Try.prog 25 (∀ (p pl : Nat) (v0 v1 v2 v4 v5 : Value), SpecH Try.prog 25 #[.pointer (some ⟨p, 0, none⟩)] [obj p 57 [v0, v1, v2, .pointer (some ⟨pl, 0, none⟩), v4, v5]] (fun _ : Unit => .bool false) (fun _ => [obj p 57 [v0, v1, v2, .pointer (some ⟨pl, 0, none⟩), v4, v5]])) := ⟨fun p pl v0 v1 v2 v4 v5 => by
  refine spec_of Try.func25 rfl Try.ntmps25 rfl [(0, _)] rfl ?_; intro base F l0 hl0; (try simp only [List.cons_append] at hl0); (try simp only [List.nil_append] at hl0); subst hl0
  repeat' (first | refine stx ?_ | refine And.intro ?_ ?_ | (intro e; exfalso; omega) | (intro e; subst e) | intro _)
  exact rt1 () rfl⟩
instance lf_take : Known Try.prog 27 (∀ (p pl z : Nat) (v0 v1 v2 v4 v5 : Value) (f : Fld), z < 4294967296 → SpecH Try.prog 27 #[.pointer (some ⟨p, 0, none⟩), .int .u32 (z : Nat)] [obj p 57 [v0, v1, v2, .pointer (some ⟨pl, 0, none⟩), v4, v5], FieldAt pl f] (fun _ : Unit => .int .i64 ((f.ofR z).1 : Nat)) (fun _ => [obj p 57 [v0, v1, v2, .pointer (some ⟨pl, 0, none⟩), v4, v5], FieldAt pl (f.remF z)])) := ⟨fun p pl z v0 v1 v2 v4 v5 f hz => by
  refine spec_of Try.func27 rfl Try.ntmps27 rfl [(0, _), (1, _)] rfl ?_; intro base F l0 hl0; (try simp only [List.cons_append] at hl0); (try simp only [List.nil_append] at hl0); subst hl0
  repeat' (first | refine stx ?_ | refine And.intro ?_ ?_ | (intro e; exfalso; omega) | (intro e; subst e) | intro _)
  exact rt1 () rfl⟩
instance lf_release : Known Try.prog 29 (∀ (p pl bm k z : Nat) (v0 v1 v2 v4 : Value) (f : Fld) (kv : List (Nat × Nat)), mget kv k = some z → z < 4294967296 → SpecH Try.prog 29 #[.pointer (some ⟨p, 0, none⟩), .int .u32 (k : Nat)] [obj p 57 [v0, v1, v2, .pointer (some ⟨pl, 0, none⟩), v4, .map (some bm)], FieldAt pl f, MapA .u32 (fun n : Nat => .int .u32 (n : Nat)) bm kv] (fun _ : Unit => .tuple #[]) (fun _ => [obj p 57 [v0, v1, v2, .pointer (some ⟨pl, 0, none⟩), v4, .map (some bm)], FieldAt pl ((f.remF z).addF 0 z false), MapA .u32 (fun n : Nat => .int .u32 (n : Nat)) bm (mdel kv k)])) := ⟨fun p pl bm k z v0 v1 v2 v4 f kv hk hz => by
  refine spec_of Try.func29 rfl Try.ntmps29 rfl [(0, _), (1, _)] rfl ?_; intro base F l0 hl0; (try simp only [List.cons_append] at hl0); (try simp only [List.nil_append] at hl0); subst hl0
  repeat' (first | refine stx ?_ | refine And.intro ?_ ?_ | (intro e; exfalso; omega) | (intro e; subst e) | intro _)
  exact re0 () rfl⟩
/-- The first of a list. -/
theorem _root_.Go.Lf.LC.first {size : Nat} {l : List It} {f : Fld} {K x : List Nat} (c : LC size l f K x) {m : Nat} (hm : m ≤ 255) : f.first (m : Nat) = Fld.res (f.at m).head? := by
  unfold Fld.first
  rw [c.head hm, if_pos rfl, Int.toNat_natCast]
set_option maxHeartbeats 4000000 in
theorem lf_first (p size pl aK cK n k : Nat) (v0 v1 v2 v5 : Value) (f : Fld) (K : List Nat) (kv : List (Nat × Nat)) (l t : List It) (g : LInv size l f K kv) (e : l = (k, n) :: t) (_hs : size ≤ 1024) : SpecH Try.prog 28 #[.pointer (some ⟨p, 0, none⟩)] [obj p 57 [v0, v1, v2, .pointer (some ⟨pl, 0, none⟩), .slice (some ⟨aK, 0, none⟩) size cK, v5], FieldAt pl f, Vec 28 1 (some ⟨aK, 0, none⟩) size cK (u32s K)] (fun _ : Unit => .int .u32 (k : Nat)) (fun _ => [obj p 57 [v0, v1, v2, .pointer (some ⟨pl, 0, none⟩), .slice (some ⟨aK, 0, none⟩) size cK, v5], FieldAt pl f, Vec 28 1 (some ⟨aK, 0, none⟩) size cK (u32s K)]) := by
  obtain ⟨n1, n2, hem, z, s, hz, hK, hzs, _, _⟩ := g.front e
  have hKl := g.c.kl
  have hKlt := g.c.lt
  refine spec_of Try.func28 rfl Try.ntmps28 rfl [(0, _)] rfl ?_; intro base F l0 hl0; (try simp only [List.cons_append] at hl0); (try simp only [List.nil_append] at hl0); subst hl0
  repeat' (first | refine stx ?_ | refine And.intro ?_ ?_ | (intro e; exfalso; omega) | (intro e; subst e) | intro _)
  refine tc_lp (ι := {i : Nat // i < n}) [6] (fun e i => (6, .int .i64 (i.1 : Nat)) :: e) (fun _ => [obj p 57 [v0, v1, v2, .pointer (some ⟨pl, 0, none⟩), .slice (some ⟨aK, 0, none⟩) size cK, v5], FieldAt pl f, Vec 28 1 (some ⟨aK, 0, none⟩) size cK (u32s K), F]) (fun i => n - i.1) ⟨0, by omega⟩ ?_
  rintro KK ⟨i, hi⟩ hKK
  dsimp only
  have hf : f.first ((i : Int) + 1) = Fld.res (f.at (i + 1)).head? := g.c.first (m := i + 1) (by omega)
  by_cases hin : i + 1 = n
  · rw [hin, hz] at hf
    have f1 : (f.first ((i : Int) + 1)).1 = z := by rw [hf]; rfl
    have f2 : (f.first ((i : Int) + 1)).2 = 0 := by rw [hf]; rfl
    repeat' (first | refine stx ?_ | refine And.intro ?_ ?_ | (intro e; exfalso; omega) | (intro e; subst e) | intro _)
    rw [f1, hK]
    exact rt1 () rfl
  · rw [hem (i + 1) (by omega) (by omega)] at hf
    have f2 : (f.first ((i : Int) + 1)).2 = 9 := by rw [hf]; rfl
    repeat' (first | refine stx ?_ | refine And.intro ?_ ?_ | (intro e; exfalso; omega) | (intro e; subst e) | intro _)
    exact again hKK ⟨i + 1, by omega⟩
/-- A field after some of two joins. -/
def js (f : Fld) (a1 a2 to : Int) : Nat → Fld
  | 0 => f
  | 1 => f.joinF a1 to
  | _ + 2 => (f.joinF a1 to).joinF a2 to
set_option maxHeartbeats 4000000 in
instance lf_join : Known Try.prog 47 (∀ (p pl b cap : Nat) (v0 v1 v2 v4 v5 : Value) (f : Fld) (to a1 a2 : Int), a1 ≠ to → a2 ≠ to → a1 ≤ 255 → a2 ≤ 255 → SpecH Try.prog 47 #[.pointer (some ⟨p, 0, none⟩), .int .i64 to, .slice (some ⟨b, 0, none⟩) 2 cap] [obj p 57 [v0, v1, v2, .pointer (some ⟨pl, 0, none⟩), v4, v5], FieldAt pl f, Vec 3 1 (some ⟨b, 0, none⟩) 2 cap [.int .i64 a1, .int .i64 a2]] (fun _ : Unit => .tuple #[]) (fun _ => [obj p 57 [v0, v1, v2, .pointer (some ⟨pl, 0, none⟩), v4, v5], FieldAt pl ((f.joinF a1 to).joinF a2 to)])) := ⟨fun p pl b cap v0 v1 v2 v4 v5 f to a1 a2 h1 h2 h3 h4 => by
  refine spec_of Try.func47 rfl Try.ntmps47 rfl [(0, _), (1, _), (2, _)] rfl ?_; intro base F l0 hl0; (try simp only [List.cons_append] at hl0); (try simp only [List.nil_append] at hl0); subst hl0
  repeat' (first | refine stx ?_ | refine And.intro ?_ ?_ | (intro e; exfalso; omega) | (intro e; subst e) | intro _)
  refine tc_lp (ι := {i : Nat // i ≤ 2}) [10] (fun e i => (10, .int .i64 (i.1 : Nat)) :: e) (fun i => [obj p 57 [v0, v1, v2, .pointer (some ⟨pl, 0, none⟩), v4, v5], FieldAt pl (js f a1 a2 to i.1), Vec 3 1 (some ⟨b, 0, none⟩) 2 cap [.int .i64 a1, .int .i64 a2], F]) (fun i => 2 - i.1) ⟨0, by omega⟩ ?_
  rintro K ⟨i, hi⟩ hK
  dsimp only
  obtain rfl | rfl | rfl : i = 0 ∨ i = 1 ∨ i = 2 := by omega
  · repeat' (first | refine stx ?_ | refine And.intro ?_ ?_ | (intro e; exfalso; omega) | (intro e; subst e) | intro _)
    exact again hK ⟨1, by omega⟩
  · repeat' (first | refine stx ?_ | refine And.intro ?_ ?_ | (intro e; exfalso; omega) | (intro e; subst e) | intro _)
    exact again hK ⟨2, by omega⟩
  · rw [show js f a1 a2 to 2 = (f.joinF a1 to).joinF a2 to from rfl]
    repeat' (first | refine stx ?_ | refine And.intro ?_ ?_ | (intro e; exfalso; omega) | (intro e; subst e) | intro _)
    exact re0 () rfl⟩
set_option maxHeartbeats 4000000 in
instance lf_halve : Known Try.prog 31 (∀ (p pl : Nat) (v0 v1 v2 v4 v5 : Value) (f : Fld), SpecH Try.prog 31 #[.pointer (some ⟨p, 0, none⟩)] [obj p 57 [v0, v1, v2, .pointer (some ⟨pl, 0, none⟩), v4, v5], FieldAt pl f] (fun _ : Unit => .tuple #[]) (fun _ => [obj p 57 [v0, v1, v2, .pointer (some ⟨pl, 0, none⟩), v4, v5], FieldAt pl (halveF f 127)])) := ⟨fun p pl v0 v1 v2 v4 v5 f => by
  refine spec_of Try.func31 rfl Try.ntmps31 rfl [(0, _)] rfl ?_; intro base F l0 hl0; (try simp only [List.cons_append] at hl0); (try simp only [List.nil_append] at hl0); subst hl0
  repeat' (first | refine stx ?_ | refine And.intro ?_ ?_ | (intro e; exfalso; omega) | (intro e; subst e) | intro _)
  have e0 : (f.joinF 2 1).joinF 3 1 = halveF f 1 := rfl
  rw [e0]
  refine tc_lp (ι := {i : Nat // i ≤ 127}) [6] (fun e i => (6, .int .i64 (i.1 : Nat)) :: e) (fun i => [obj p 57 [v0, v1, v2, .pointer (some ⟨pl, 0, none⟩), v4, v5], FieldAt pl (halveF f (max 1 i.1)), F]) (fun i => 127 - i.1) ⟨0, by omega⟩ ?_
  rintro K ⟨i, hi⟩ hK
  dsimp only
  by_cases hlt : i < 127
  · by_cases h0 : i = 0
    · subst h0
      repeat' (first | refine stx ?_ | refine And.intro ?_ ?_ | (intro e; exfalso; omega) | (intro e; subst e) | intro _)
      exact again hK ⟨1, by omega⟩
    · have e1 : max 1 i = i := by omega
      rw [e1]
      repeat' (first | refine stx ?_ | refine And.intro ?_ ?_ | (intro e; exfalso; omega) | (intro e; subst e) | intro _)
      have e2 : ((halveF f i).joinF (2 * (i : Int) + 2) ((i : Int) + 1)).joinF (2 * (i : Int) + 3) ((i : Int) + 1) = halveF f (i + 1) := rfl
      have e3 : halveF f (i + 1) = halveF f (max 1 (i + 1)) := by rw [show max 1 (i + 1) = i + 1 by omega]
      rw [e2, e3]
      exact again hK ⟨i + 1, by omega⟩
  · obtain rfl : i = 127 := by omega
    repeat' (first | refine stx ?_ | refine And.intro ?_ ?_ | (intro e; exfalso; omega) | (intro e; subst e) | intro _)
    exact re0 () rfl⟩
end Go.Proofs.Ytmiblmoppdgnjaa
