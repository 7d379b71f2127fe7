/- ghost, walked: adding a key. -/
import Derived.Test.YtcgdkcdlglbigaaGhW2
namespace Go.Gh
open Go.Lk Go.Sl
/-- The key that leaves where one comes. -/
def addV (most : Nat) (L : List Nat) (k : Nat) : Nat := if k ∈ L then 0 else if L.length + 1 ≤ most then 0 else (k :: L).getLastD 0
/-- Whether one leaves. -/
def addB (most : Nat) (L : List Nat) (k : Nat) : Bool := decide (k ∉ L ∧ most < L.length + 1)
/-- The list with a key. -/
def addL (most : Nat) (L : List Nat) (k : Nat) : List Nat := if k ∈ L then k :: L.erase k else if L.length + 1 ≤ most then k :: L else (k :: L).dropLast
end Go.Gh
namespace Go.Proofs.Ytcgdkcdlglbigaa
open Go.Lk Go.Sl Go.Gh
attribute [local irreducible] TK TL TC Th Bk Nx fnPost WA TQ OpQ OpN SpecH Rd Ent IterH RoundH Rb Rp fnPostM
attribute [local irreducible] Fld.addE Fld.addF Fld.befE Fld.befF Fld.inE Fld.remF Fld.first Fld.last Fld.next Fld.prev Fld.ofR Fld.listOf Fld.joinE Fld.joinF renE renG Fld.at Fld.set Fld.place
set_option maxHeartbeats 4000000 in
instance g_add : Known Try.prog 87 (∀ (p most : Nat) (L : List Nat) (xk : Int) (k : Nat) [NatI xk k], k < 4294967296 → L.length ≤ most → SpecH Try.prog 87 #[.pointer (some ⟨p, 0, none⟩), .int .u32 xk] [GhostAt p most L] (fun _ : Unit => .tuple #[.int .u32 (addV most L k : Nat), .bool (addB most L k), .int .i64 0]) (fun _ => [GhostAt p most (addL most L k)])) := ⟨fun p most L xk k _ hk32 hL => by
  obtain rfl : xk = (k : Int) := NatI.out
  refine spec_of Try.func87 rfl Try.ntmps87 rfl [(0, _), (1, _)] rfl ?_; intro base F l0 hl0; (try simp only [List.cons_append] at hl0); (try simp only [List.nil_append] at hl0); subst hl0
  refine GhostAt.openC fun f K kv pl aK cK bm g => ?_
  have hN := g.N; have hb := g.wf.bound; have hM := g.M
  have hl := g.len
  cases hk : mget kv k with
  | some m =>
    have hn : k ∈ L := g.mem.2 (by rw [hk]; rfl)
    obtain ⟨hm0, hmk⟩ := (g.at_iff k m).1 hk
    have hlt := g.lt0 hm0
    obtain ⟨t1, t2, t3⟩ := g.use hm0
    rw [hmk] at t3
    rw [show addV most L k = 0 from if_pos hn, show addB most L k = false from decide_eq_false (fun h => h.1 hn), show addL most L k = k :: L.erase k from if_pos hn]
    repeat' (first | refine stm ?_ | refine And.intro ?_ ?_ | (intro e; exfalso; omega) | (intro e; subst e) | intro _)
    rw [t2]
    exact rt3 () rfl (en2 (GhostAt.shut t3))
  | none =>
    have hn : k ∉ L := fun h => by have := g.mem.1 h; rw [hk] at this; cases this
    obtain ⟨n, t, hf, hf1⟩ := g.first hL
    obtain ⟨t1, t2, hlt, t3⟩ := g.add hk32 hn hf
    have hKl := g.kl
    have e1 : (f.first 1).1 = n := by rw [hf1]
    have hml : (mput kv k n).length = L.length + 1 := by rw [mput_len, hk]; simp [hl]
    repeat' (first | ((fail_if_success (refine atD ?_)); refine stm ?_) | refine And.intro ?_ ?_ | (intro e; exfalso; omega) | (intro e; subst e) | intro _)
    rw [e1]
    refine drx [Vec 31 1 (some ⟨aK, 0, none⟩) (most + 1) cK (u32s K), MapA .u32 (fun n : Nat => .int .u32 (n : Nat)) bm kv] ?_
    refine tks [0, 4, 5, 9, 10, 11, 1, 6, 2, 7, 3, 8, 12] 4 ?_; repeat' (first | refine stm ?_ | refine And.intro ?_ ?_ | (intro e; exfalso; omega) | (intro e; subst e) | intro _)
    refine hv0 13 fun x13 => ?_
    refine hvm 14 fun x14 => ?_
    refine tks [15] 1 ?_; repeat' (first | refine stm ?_ | refine And.intro ?_ ?_ | (intro e; exfalso; omega) | (intro e; subst e) | intro _)
    refine hvm0 16 fun x16 => ?_
    repeat' (first | ((fail_if_success (refine atD ?_)); refine stm ?_) | refine And.intro ?_ ?_ | (intro e; exfalso; omega) | (intro e; subst e) | intro _)
    refine tail 9 ?_
    repeat' (first | refine stm ?_ | refine And.intro ?_ ?_ | (intro e; exfalso; omega) | (intro e; subst e) | intro _)
    · have hle : L.length + 1 ≤ most := by omega
      rw [show addV most L k = 0 from (if_neg hn).trans (if_pos hle), show addB most L k = false from decide_eq_false (fun h => by omega), show addL most L k = k :: L from (if_neg hn).trans (if_pos hle)]
      exact rt3 () rfl (en2 (GhostAt.shut t3))
    · have hle : ¬ L.length + 1 ≤ most := by omega
      rw [show addV most L k = (k :: L).getLastD 0 from (if_neg hn).trans (if_neg hle), show addB most L k = true from decide_eq_true ⟨hn, by omega⟩, show addL most L k = (k :: L).dropLast from (if_neg hn).trans (if_neg hle)]
      refine TL.ent (l' := [GhostAt p most (k :: L), F]) (en2 (GhostAt.shut t3)) ?_
      repeat' (first | refine stm ?_ | refine And.intro ?_ ?_ | (intro e; exfalso; omega) | (intro e; subst e) | intro _)
      exact rt3 () rfl⟩
end Go.Proofs.Ytcgdkcdlglbigaa
