/- ghost, walked: a list, its questions. -/
import Derived.Test.YtcgdkcdlglbigaaLkA
import Derived.Test.YtcgdkcdlglbigaaLkC
import Derived.Test.YtcgdkcdlglbigaaSlD
import Derived.Test.YtcgdkcdlglbigaaSlMapS
import Derived.Test.YtcgdkcdlglbigaaGhTheory
namespace Go.Gh
open Go.Lk Go.Sl Go.Proofs.Ytcgdkcdlglbigaa
structure GQ where
  f : Fld
  K : List Nat
  kv : List (Nat × Nat)
  pl : Nat
  aK : Option Addr
  cK : Nat
  bm : Nat
/-- The parts of a ghost list. -/
def parts (p : Nat) (most : Nat) (L : List Nat) (q : GQ) : List HP := [fact (GInv most q.f q.K q.kv L), obj p 133 [.int .i64 (most : Nat), .pointer (some ⟨q.pl, 0, none⟩), .slice q.aK (most + 1) q.cK, .map (some q.bm)], FieldAt q.pl q.f, Vec 31 1 q.aK (most + 1) q.cK (u32s q.K), MapA .u32 (fun n : Nat => .int .u32 (n : Nat)) q.bm q.kv]
/-- A ghost list. -/
def GhostAt (p : Nat) (most : Nat) (L : List Nat) : HP := Exs (ι := GQ) (parts p most L)
section
variable {r0 : Option Nat} {P : Program} {base : World} {n : Nat} {ds : List Deferred} {Q : Exit → Act → World → Prop} {env : Env} {l r : List HP} {KK : Act → World → Prop} {c : Code} {all : Array Oper} {ro : List Oper} {p most : Nat} {L : List Nat}
theorem GhostAt.openK (h : ∀ (f : Fld) (K : List Nat) (kv : List (Nat × Nat)) (pl aK cK bm : Nat), GInv most f K kv L → TK base n ds KK env (obj p 133 [.int .i64 (most : Nat), .pointer (some ⟨pl, 0, none⟩), .slice (some ⟨aK, 0, none⟩) (most + 1) cK, .map (some bm)] :: FieldAt pl f :: Vec 31 1 (some ⟨aK, 0, none⟩) (most + 1) cK (u32s K) :: MapA .u32 (fun n : Nat => .int .u32 (n : Nat)) bm kv :: r)) (hr : Rem l (GhostAt p most L) r := by (repeat (first | (with_reducible exact Rem.here _ _) | (with_reducible apply Rem.there) | fail)); done) : TK base n ds KK env l := by
  unfold GhostAt at hr
  refine TK.exs hr fun ⟨f, K, kv, pl, aK, cK, bm⟩ => ?_
  unfold parts
  refine TK.fact fun hg => ?_
  refine TK.vecAt (.there _ (.there _ (.here _ _))) (by omega) ?_
  rintro ⟨b, rfl⟩
  exact h f K kv pl b cK bm hg
theorem GhostAt.openC (h : ∀ (f : Fld) (K : List Nat) (kv : List (Nat × Nat)) (pl aK cK bm : Nat), GInv most f K kv L → TC r0 P base n ds c Q env (obj p 133 [.int .i64 (most : Nat), .pointer (some ⟨pl, 0, none⟩), .slice (some ⟨aK, 0, none⟩) (most + 1) cK, .map (some bm)] :: FieldAt pl f :: Vec 31 1 (some ⟨aK, 0, none⟩) (most + 1) cK (u32s K) :: MapA .u32 (fun n : Nat => .int .u32 (n : Nat)) bm kv :: r)) (hr : Rem l (GhostAt p most L) r := by (repeat (first | (with_reducible exact Rem.here _ _) | (with_reducible apply Rem.there) | fail)); done) : TC r0 P base n ds c Q env l := GhostAt.openK h hr
theorem GhostAt.openL (h : ∀ (f : Fld) (K : List Nat) (kv : List (Nat × Nat)) (pl aK cK bm : Nat), GInv most f K kv L → TL r0 P base n ds all ro Q env (obj p 133 [.int .i64 (most : Nat), .pointer (some ⟨pl, 0, none⟩), .slice (some ⟨aK, 0, none⟩) (most + 1) cK, .map (some bm)] :: FieldAt pl f :: Vec 31 1 (some ⟨aK, 0, none⟩) (most + 1) cK (u32s K) :: MapA .u32 (fun n : Nat => .int .u32 (n : Nat)) bm kv :: r)) (hr : Rem l (GhostAt p most L) r := by (repeat (first | (with_reducible exact Rem.here _ _) | (with_reducible apply Rem.there) | fail)); done) : TL r0 P base n ds all ro Q env l := GhostAt.openK h hr
theorem GhostAt.shut {f : Fld} {K : List Nat} {kv : List (Nat × Nat)} {pl : Nat} {aK : Option Addr} {cK bm : Nat} (g : GInv most f K kv L) : Ent (obj p 133 [.int .i64 (most : Nat), .pointer (some ⟨pl, 0, none⟩), .slice aK (most + 1) cK, .map (some bm)] :: FieldAt pl f :: Vec 31 1 aK (most + 1) cK (u32s K) :: MapA .u32 (fun n : Nat => .int .u32 (n : Nat)) bm kv :: r) (GhostAt p most L :: r) := by
  refine Ent.exs (⟨f, K, kv, pl, aK, cK, bm⟩ : GQ) ?_
  exact Ent.fact g (Ent.refl _)
end
end Go.Gh
namespace Go.Proofs.Ytcgdkcdlglbigaa
open Go.Lk Go.Sl Go.Gh
attribute [local irreducible] TK TL TC Th Bk Nx fnPost WA TQ OpQ OpN SpecH Rd Ent IterH RoundH Rb Rp fnPostM
attribute [local irreducible] Fld.addE Fld.addF Fld.befE Fld.befF Fld.inE Fld.remF Fld.first Fld.last Fld.next Fld.prev Fld.ofR Fld.listOf Fld.joinE Fld.joinF renE renG Fld.at Fld.set Fld.place
instance g_zero : Known Try.prog 83 (∀ (p pl : Nat) (v0 v2 v3 : Value), SpecH Try.prog 83 #[.pointer (some ⟨p, 0, none⟩)] [obj p 133 [v0, .pointer (some ⟨pl, 0, none⟩), v2, v3]] (fun _ : Unit => .bool false) (fun _ => [obj p 133 [v0, .pointer (some ⟨pl, 0, none⟩), v2, v3]])) := ⟨fun p pl v0 v2 v3 => by
  refine spec_of Try.func83 rfl Try.ntmps83 rfl [(0, _)] rfl ?_; intro base F l0 hl0; (try simp only [List.cons_append] at hl0); (try simp only [List.nil_append] at hl0); subst hl0
  repeat' (first | refine stm ?_ | refine And.intro ?_ ?_ | (intro e; subst e) | intro _)
  exact rt1 () rfl⟩
instance g_take : Known Try.prog 84 (∀ (p most pl cK bm n : Nat) (aK : Option Addr) (f : Fld) (K : List Nat) (kv : List (Nat × Nat)), n < most + 1 → K.length = most + 1 → (∀ k ∈ K, k < 4294967296) → most ≤ 4194304 → SpecH Try.prog 84 #[.pointer (some ⟨p, 0, none⟩), .int .u32 (n : Nat)] [obj p 133 [.int .i64 (most : Nat), .pointer (some ⟨pl, 0, none⟩), .slice aK (most + 1) cK, .map (some bm)], FieldAt pl f, Vec 31 1 aK (most + 1) cK (u32s K), MapA .u32 (fun n : Nat => .int .u32 (n : Nat)) bm kv] (fun _ : Unit => .int .u32 (K.getD n 0 : Nat)) (fun _ => [obj p 133 [.int .i64 (most : Nat), .pointer (some ⟨pl, 0, none⟩), .slice aK (most + 1) cK, .map (some bm)], FieldAt pl ((f.remF n).addF 1 n false), Vec 31 1 aK (most + 1) cK (u32s K), MapA .u32 (fun n : Nat => .int .u32 (n : Nat)) bm (mdel kv (K.getD n 0))])) := ⟨fun p most pl cK bm n aK f K kv hn hK hlt hm => by
  refine spec_of Try.func84 rfl Try.ntmps84 rfl [(0, _), (1, _)] rfl ?_; intro base F l0 hl0; (try simp only [List.cons_append] at hl0); (try simp only [List.nil_append] at hl0); subst hl0
  have hk : K.getD n 0 < 4294967296 := hlt _ (by rw [List.getD_eq_getElem?_getD, List.getElem?_eq_getElem (by omega)]; exact List.getElem_mem _)
  repeat' (first | refine stm ?_ | refine And.intro ?_ ?_ | (intro e; subst e) | intro _)
  exact rt1 () rfl⟩
end Go.Proofs.Ytcgdkcdlglbigaa
