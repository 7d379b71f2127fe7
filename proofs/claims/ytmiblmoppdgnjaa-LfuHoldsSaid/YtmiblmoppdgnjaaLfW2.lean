/- lfu, walked: a new cache, requests, questions. -/
import Derived.Test.YtmiblmoppdgnjaaLfW1
import Derived.Test.YtmiblmoppdgnjaaLfTheory6
import Derived.Test.YtmiblmoppdgnjaaEqTypes
namespace Go.Lf
open Go.Lk Go.Sl Go.Proofs.Ytmiblmoppdgnjaa
theorem LfuAt.shut0 {r : List HP} {p size age : Nat} {L : List It} {f : Fld} {K : List Nat} {kv : List (Nat × Nat)} {pl : Nat} {aK : Option Addr} {cK bm : Nat} (g : LInv size L f K kv) (h1 : 1 ≤ size) (h2 : size ≤ 1024) (h3 : age ≤ 1048576) : Ent (obj p 57 [.int .i64 (size : Nat), .int .i64 (age : Nat), .int .i64 0, .pointer (some ⟨pl, 0, none⟩), .slice aK size cK, .map (some bm)] :: FieldAt pl f :: Vec 28 1 aK size cK (u32s K) :: MapA .u32 (fun n : Nat => .int .u32 (n : Nat)) bm kv :: r) (LfuAt p size age 0 L :: r) := LfuAt.shut (req := 0) g h1 h2 h3
theorem LfuAt.shutS {r : List HP} {p size age req : Nat} {L : List It} {f : Fld} {K : List Nat} {kv : List (Nat × Nat)} {pl : Nat} {aK : Option Addr} {cK bm : Nat} (g : LInv size L f K kv) (h1 : 1 ≤ size) (h2 : size ≤ 1024) (h3 : age ≤ 1048576) : Ent (obj p 57 [.int .i64 (size : Nat), .int .i64 (age : Nat), .int .i64 ((req : Int) + 1), .pointer (some ⟨pl, 0, none⟩), .slice aK size cK, .map (some bm)] :: FieldAt pl f :: Vec 28 1 aK size cK (u32s K) :: MapA .u32 (fun n : Nat => .int .u32 (n : Nat)) bm kv :: r) (LfuAt p size age (req + 1) L :: r) := LfuAt.shut (req := req + 1) g h1 h2 h3
end Go.Lf
namespace Go.Proofs.Ytmiblmoppdgnjaa
open Go.Lk Go.Sl Go.Lf
attribute [local irreducible] TK TL TC Th Bk Nx fnPost WA TQ OpQ OpN SpecH Rd Ent IterH RoundH Rb Rp fnPostM
attribute [local irreducible] Fld.addE Fld.addF Fld.befE Fld.befF Fld.inE Fld.remF Fld.first Fld.last Fld.next Fld.prev Fld.ofR Fld.listOf Fld.joinE Fld.joinF renE renG Fld.at Fld.set Fld.place
theorem lf_new_bad (size age : Int) (h : size < 1 ∨ 1024 < size ∨ age < 0 ∨ 1048576 < age) : SpecH Try.prog 9 #[.int .i64 size, .int .i64 age] [] (fun _ : Unit => .tuple #[.pointer none, .int .i64 2]) (fun _ => []) := by
  refine spec_of Try.func9 rfl Try.ntmps9 rfl [(0, _), (1, _)] rfl ?_; intro base F l0 hl0; (try simp only [List.cons_append] at hl0); (try simp only [List.nil_append] at hl0); subst hl0
  repeat' (first | refine stx ?_ | refine And.intro ?_ ?_ | (intro e; exfalso; omega) | (intro e; subst e) | intro _)
  all_goals exact rt2 () rfl
theorem rows_zero' {n : Nat} : rows n (fun _ => [Value.int .u32 0]) = u32s (List.replicate n 0) := by
  induction n with
  | zero => rfl
  | succ n ih => simp [rows, u32s, List.replicate_succ', List.range_succ] at ih ⊢; exact ih
set_option maxHeartbeats 4000000 in
instance lf_new : Known Try.prog 9 (∀ (xs : Int) (size : Nat) [NatI xs size] (xa : Int) (age : Nat) [NatI xa age], 1 ≤ size → size ≤ 1024 → age ≤ 1048576 → SpecH Try.prog 9 #[.int .i64 xs, .int .i64 xa] [] (fun p : Nat => .tuple #[.pointer (some ⟨p, 0, none⟩), .int .i64 0]) (fun p => [LfuAt p size age 0 []])) := ⟨fun xs size _ xa age _ h1 h2 h3 => by
  obtain rfl : xs = (size : Int) := NatI.out
  obtain rfl : xa = (age : Int) := NatI.out
  haveI : NatI 256 256 := ⟨rfl⟩
  refine spec_of Try.func9 rfl Try.ntmps9 rfl [(0, _), (1, _)] rfl ?_; intro base F l0 hl0; (try simp only [List.cons_append] at hl0); (try simp only [List.nil_append] at hl0); subst hl0
  repeat' (first | refine stx ?_ | refine And.intro ?_ ?_ | (intro e; exfalso; omega) | (intro e; subst e) | intro _)
  rename_i pl
  rw [show (⟨size, List.replicate 256 []⟩ : Fld) = F0 size 0 from F0_zero]
  refine tc_lp (ι := {i : Nat // i ≤ size}) [32] (fun e i => (32, .int .i64 (i.1 : Nat)) :: e) (fun i => [FieldAt pl (F0 size i.1), F]) (fun i => size - i.1) ⟨0, by omega⟩ ?_
  rintro K ⟨i, hi⟩ hK
  dsimp only
  by_cases hlt : i < size
  · obtain ⟨e1, e2⟩ := F0_step hlt
    repeat' (first | refine stx ?_ | refine And.intro ?_ ?_ | (intro e; exfalso; omega) | (intro e; subst e) | intro _)
    rw [e2]
    exact again hK ⟨i + 1, by omega⟩
  · obtain rfl : i = size := by omega
    repeat' (first | refine stx ?_ | refine And.intro ?_ ?_ | (intro e; exfalso; omega) | (intro e; subst e) | intro _)
    rw [rows_zero']
    refine TK.know (fun _ z => FieldAt.wf (p := pl) (f := F0 i i) (by (repeat (first | (with_reducible exact Rem.here _ _) | (with_reducible apply Rem.there) | fail)); done) z) fun w => ?_
    rename_i bK bm p
    exact rt2 p rfl (en2 (LfuAt.shut0 (LInv.new w) h1 h2 h3))⟩
set_option maxHeartbeats 8000000 in
instance lf_use : Known Try.prog 12 (∀ (p size age req : Nat) (l : List It) (xk : Int) (k : Nat) [NatI xk k], k < 4294967296 → req < 1000000000 → SpecH Try.prog 12 #[.pointer (some ⟨p, 0, none⟩), .int .u32 xk] [LfuAt p size age req l] (fun _ : Unit => .tuple #[.agg #[.bool (useH l k), .bool (useB size l k), .int .u32 (useO size l k : Nat)], .int .i64 0]) (fun _ => [LfuAt p size age (useS size age (req, l) k).1 (useS size age (req, l) k).2])) := ⟨fun p size age req l xk k _ hk hr => by
  obtain rfl : xk = (k : Int) := NatI.out
  refine spec_of Try.func12 rfl Try.ntmps12 rfl [(0, _), (1, _)] rfl ?_; intro base F l0 hl0; (try simp only [List.cons_append] at hl0); (try simp only [List.nil_append] at hl0); subst hl0
  refine LfuAt.openC fun f K kv pl aK cK bm g s1 s2 s3 => ?_
  have hKl := g.c.kl
  have hKlt := g.c.lt
  have hlen := g.len
  cases hm : mget kv k with
  | some z =>
    obtain ⟨n, n1, n2, hz, hKz, hzs, hkl, hcnt, hof⟩ := g.some_of hm
    have hks : k ∈ ks l := List.mem_map.2 ⟨_, hkl, rfl⟩
    obtain ⟨t1, t2, t3⟩ := g.hit hm n1 n2 hz (m := min 255 (n + 1)) (by omega) (by omega)
    have hu : useL size l k = ins (wo l k) (k, min 255 (n + 1)) := by unfold useL; rw [if_pos hks, hcnt]
    have hH : useH l k = true := decide_eq_true hks
    have hB : useB size l k = false := decide_eq_false (fun h => h.1 hks)
    have hO : ((useO size l k : Nat) : Int) = 0 := by rw [show useO size l k = 0 from if_neg (fun h => h.1 hks)]; rfl
    have o1 : (f.ofR z).1 = n := by rw [hof]
    rw [hH, hB, hO]
    have hmin : min (255 : Int) (((f.ofR z).1 : Nat) + 1) = ((min 255 (n + 1) : Nat) : Int) := by rw [o1]; omega
    by_cases hq : req + 1 = age
    · have hS : useS size age (req, l) k = (0, halveL (ins (wo l k) (k, min 255 (n + 1)))) := by unfold useS; rw [if_pos hq, hu]
      rw [hS]
      repeat' (first | ((fail_if_success (refine atD ?_)); refine stx ?_) | refine And.intro ?_ ?_ | (intro e; exfalso; omega) | (intro e; subst e) | intro _)
      refine drx [FieldAt pl f] ?_
      refine tks [0, 4, 5, 9, 1, 2, 3] 4 ?_; repeat' (first | refine stx ?_ | refine And.intro ?_ ?_ | (intro e; exfalso; omega) | (intro e; subst e) | intro _)
      refine hv 6 fun x6 => ?_
      refine tks [7, 8] 1 ?_; repeat' (first | refine stx ?_ | refine And.intro ?_ ?_ | (intro e; exfalso; omega) | (intro e; subst e) | intro _)
      refine hv 10 fun x10 => ?_
      rw [hmin]
      repeat' (first | ((fail_if_success (refine atD ?_)); refine stx ?_) | refine And.intro ?_ ?_ | (intro e; exfalso; omega) | (intro e; subst e) | intro _)
      refine drx [] ?_
      refine tks [0, 4, 1, 5, 2, 6, 3, 7, 8] 0 ?_; repeat' (first | refine stx ?_ | refine And.intro ?_ ?_ | (intro e; exfalso; omega) | (intro e; subst e) | intro _)
      exact ra2 () rfl (he := en2 (LfuAt.shut0 t3.halve s1 s2 s3))
    · have hS : useS size age (req, l) k = (req + 1, ins (wo l k) (k, min 255 (n + 1))) := by unfold useS; rw [if_neg hq, hu]
      rw [hS]
      repeat' (first | ((fail_if_success (refine atD ?_)); refine stx ?_) | refine And.intro ?_ ?_ | (intro e; exfalso; omega) | (intro e; subst e) | intro _)
      refine drx [FieldAt pl f] ?_
      refine tks [0, 4, 5, 9, 1, 2, 3] 4 ?_; repeat' (first | refine stx ?_ | refine And.intro ?_ ?_ | (intro e; exfalso; omega) | (intro e; subst e) | intro _)
      refine hv 6 fun x6 => ?_
      refine tks [7, 8] 1 ?_; repeat' (first | refine stx ?_ | refine And.intro ?_ ?_ | (intro e; exfalso; omega) | (intro e; subst e) | intro _)
      refine hv 10 fun x10 => ?_
      rw [hmin]
      repeat' (first | ((fail_if_success (refine atD ?_)); refine stx ?_) | refine And.intro ?_ ?_ | (intro e; exfalso; omega) | (intro e; subst e) | intro _)
      refine drx [] ?_
      refine tks [0, 4, 1, 5, 2, 6, 3, 7, 8] 0 ?_; repeat' (first | refine stx ?_ | refine And.intro ?_ ?_ | (intro e; exfalso; omega) | (intro e; subst e) | intro _)
      exact ra2 () rfl (he := en2 (LfuAt.shutS t3 s1 s2 s3))
  | none =>
    obtain ⟨hks, hcnt⟩ := g.none_of hm
    have hH : useH l k = false := decide_eq_false hks
    by_cases hfull : l.length = size
    · obtain ⟨⟨k0, n0⟩, t, el⟩ : ∃ x t, l = x :: t := by
        cases l with
        | nil => rw [List.length_nil] at hfull; omega
        | cons x t => exact ⟨x, t, rfl⟩
      obtain ⟨n1, n2, hem, z0, s0, hz0, hKz0, hzs0, hm0, hwo⟩ := g.front el
      have hm0' := hm0
      have hz0' : z0 ∈ f.at n0 := by rw [hz0]; exact List.mem_cons_self ..
      obtain ⟨r1, r2, g1⟩ := g.release hm0 n1 n2 hz0'
      rw [hwo] at g1
      have htl : t.length < size := by rw [el] at hfull; simp at hfull; omega
      have hne : k ≠ k0 := fun e => hks (by rw [e, el]; simp)
      have hm1 : mget (mdel kv k0) k = none := by rw [mget_del g.kn, if_neg hne]; exact hm
      have hft := g1.miss hm1 htl hk
      obtain ⟨z, s1', hz, hzs, hfi, e1, e2, g2⟩ := hft
      have hB : useB size l k = true := decide_eq_true ⟨hks, hfull⟩
      have hO : useO size l k = k0 := by rw [show useO size l k = (ks l).headD 0 from if_pos ⟨hks, hfull⟩, el]; rfl
      have hu : useL size l k = ins t (k, 1) := by unfold useL; rw [if_neg hks, if_pos hfull, el]; rfl
      have hz32 : z0 < 4294967296 := by omega
      have hfirst := lf_first p size pl aK cK n0 k0 (.int .i64 (size : Nat)) (.int .i64 (age : Nat)) (.int .i64 (req : Nat)) (.map (some bm)) f K kv l t g el s2
      rw [hH, hB, hO]
      have f1 : (((f.remF z0).addF 0 z0 false).first 0).1 = z := by rw [hfi]
      have f2 : (((f.remF z0).addF 0 z0 false).first 0).2 = 0 := by rw [hfi]
      by_cases hq : req + 1 = age
      · have hS : useS size age (req, l) k = (0, halveL (ins t (k, 1))) := by unfold useS; rw [if_pos hq, hu]
        rw [hS]
        repeat' (first | ((fail_if_success (refine atD ?_)); refine stx ?_) | refine And.intro ?_ ?_ | (intro e; exfalso; omega) | (intro e; subst e) | intro _)
        refine drx [] ?_; refine tks [0, 5, 1, 6, 2, 7, 3, 8, 4, 9] 0 ?_; repeat' (first | ((fail_if_success (refine atCall 28 ?_)); refine stx ?_) | refine And.intro ?_ ?_ | (intro e; exfalso; omega) | (intro e; subst e) | intro _)
        refine call hfirst ?_
        repeat' (first | ((fail_if_success (refine atD ?_)); refine stx ?_) | refine And.intro ?_ ?_ | (intro e; exfalso; omega) | (intro e; subst e) | intro _)
        rw [f1]
        refine drx [Vec 28 1 (some ⟨aK, 0, none⟩) size cK (u32s K), MapA .u32 (fun n : Nat => .int .u32 (n : Nat)) bm (mdel kv k0)] ?_
        refine tks [0, 4, 5, 9, 10, 11, 1, 6, 2, 7, 3, 8, 12] 4 ?_; repeat' (first | refine stx ?_ | refine And.intro ?_ ?_ | (intro e; exfalso; omega) | (intro e; subst e) | intro _)
        refine hv0 13 fun x13 => ?_
        refine hvm 14 fun x14 => ?_
        refine tks [15] 1 ?_; repeat' (first | refine stx ?_ | refine And.intro ?_ ?_ | (intro e; exfalso; omega) | (intro e; subst e) | intro _)
        refine hvm0 16 fun x16 => ?_
        repeat' (first | ((fail_if_success (refine atD ?_)); refine stx ?_) | refine And.intro ?_ ?_ | (intro e; exfalso; omega) | (intro e; subst e) | intro _)
        refine drx [] ?_
        refine tks [0, 4, 1, 5, 2, 6, 3, 7, 8] 0 ?_; repeat' (first | refine stx ?_ | refine And.intro ?_ ?_ | (intro e; exfalso; omega) | (intro e; subst e) | intro _)
        exact ra2 () rfl (he := en2 (LfuAt.shut0 g2.halve s1 s2 s3))
      · have hS : useS size age (req, l) k = (req + 1, ins t (k, 1)) := by unfold useS; rw [if_neg hq, hu]
        rw [hS]
        repeat' (first | ((fail_if_success (refine atD ?_)); refine stx ?_) | refine And.intro ?_ ?_ | (intro e; exfalso; omega) | (intro e; subst e) | intro _)
        refine drx [] ?_; refine tks [0, 5, 1, 6, 2, 7, 3, 8, 4, 9] 0 ?_; repeat' (first | ((fail_if_success (refine atCall 28 ?_)); refine stx ?_) | refine And.intro ?_ ?_ | (intro e; exfalso; omega) | (intro e; subst e) | intro _)
        refine call hfirst ?_
        repeat' (first | ((fail_if_success (refine atD ?_)); refine stx ?_) | refine And.intro ?_ ?_ | (intro e; exfalso; omega) | (intro e; subst e) | intro _)
        rw [f1]
        refine drx [Vec 28 1 (some ⟨aK, 0, none⟩) size cK (u32s K), MapA .u32 (fun n : Nat => .int .u32 (n : Nat)) bm (mdel kv k0)] ?_
        refine tks [0, 4, 5, 9, 10, 11, 1, 6, 2, 7, 3, 8, 12] 4 ?_; repeat' (first | refine stx ?_ | refine And.intro ?_ ?_ | (intro e; exfalso; omega) | (intro e; subst e) | intro _)
        refine hv0 13 fun x13 => ?_
        refine hvm 14 fun x14 => ?_
        refine tks [15] 1 ?_; repeat' (first | refine stx ?_ | refine And.intro ?_ ?_ | (intro e; exfalso; omega) | (intro e; subst e) | intro _)
        refine hvm0 16 fun x16 => ?_
        repeat' (first | ((fail_if_success (refine atD ?_)); refine stx ?_) | refine And.intro ?_ ?_ | (intro e; exfalso; omega) | (intro e; subst e) | intro _)
        refine drx [] ?_
        refine tks [0, 4, 1, 5, 2, 6, 3, 7, 8] 0 ?_; repeat' (first | refine stx ?_ | refine And.intro ?_ ?_ | (intro e; exfalso; omega) | (intro e; subst e) | intro _)
        exact ra2 () rfl (he := en2 (LfuAt.shutS g2 s1 s2 s3))
    · have hlt : l.length < size := by have := g.ok.len; omega
      obtain ⟨z, s1', hz, hzs, hfi, e1, e2, g2⟩ := g.miss hm hlt hk
      have hB : useB size l k = false := decide_eq_false fun h => hfull h.2
      have hO : ((useO size l k : Nat) : Int) = 0 := by rw [show useO size l k = 0 from if_neg (fun h => hfull h.2)]; rfl
      have hu : useL size l k = ins l (k, 1) := by unfold useL; rw [if_neg hks, if_neg hfull]
      have f1 : (f.first 0).1 = z := by rw [hfi]
      have f2 : (f.first 0).2 = 0 := by rw [hfi]
      rw [hH, hB, hO]
      by_cases hq : req + 1 = age
      · have hS : useS size age (req, l) k = (0, halveL (ins l (k, 1))) := by unfold useS; rw [if_pos hq, hu]
        rw [hS]
        repeat' (first | ((fail_if_success (refine atD ?_)); refine stx ?_) | refine And.intro ?_ ?_ | (intro e; exfalso; omega) | (intro e; subst e) | intro _)
        refine drx [] ?_; refine tks [0, 5, 1, 6, 2, 7, 3, 8, 4, 9] 0 ?_; repeat' (first | ((fail_if_success (refine atD ?_)); refine stx ?_) | refine And.intro ?_ ?_ | (intro e; exfalso; omega) | (intro e; subst e) | intro _)
        rw [f1]
        refine drx [Vec 28 1 (some ⟨aK, 0, none⟩) size cK (u32s K), MapA .u32 (fun n : Nat => .int .u32 (n : Nat)) bm kv] ?_
        refine tks [0, 4, 5, 9, 10, 11, 1, 6, 2, 7, 3, 8, 12] 4 ?_; repeat' (first | refine stx ?_ | refine And.intro ?_ ?_ | (intro e; exfalso; omega) | (intro e; subst e) | intro _)
        refine hv0 13 fun x13 => ?_
        refine hvm 14 fun x14 => ?_
        refine tks [15] 1 ?_; repeat' (first | refine stx ?_ | refine And.intro ?_ ?_ | (intro e; exfalso; omega) | (intro e; subst e) | intro _)
        refine hvm0 16 fun x16 => ?_
        repeat' (first | ((fail_if_success (refine atD ?_)); refine stx ?_) | refine And.intro ?_ ?_ | (intro e; exfalso; omega) | (intro e; subst e) | intro _)
        refine drx [] ?_
        refine tks [0, 4, 1, 5, 2, 6, 3, 7, 8] 0 ?_; repeat' (first | refine stx ?_ | refine And.intro ?_ ?_ | (intro e; exfalso; omega) | (intro e; subst e) | intro _)
        exact ra2 () rfl (he := en2 (LfuAt.shut0 g2.halve s1 s2 s3))
      · have hS : useS size age (req, l) k = (req + 1, ins l (k, 1)) := by unfold useS; rw [if_neg hq, hu]
        rw [hS]
        repeat' (first | ((fail_if_success (refine atD ?_)); refine stx ?_) | refine And.intro ?_ ?_ | (intro e; exfalso; omega) | (intro e; subst e) | intro _)
        refine drx [] ?_; refine tks [0, 5, 1, 6, 2, 7, 3, 8, 4, 9] 0 ?_; repeat' (first | ((fail_if_success (refine atD ?_)); refine stx ?_) | refine And.intro ?_ ?_ | (intro e; exfalso; omega) | (intro e; subst e) | intro _)
        rw [f1]
        refine drx [Vec 28 1 (some ⟨aK, 0, none⟩) size cK (u32s K), MapA .u32 (fun n : Nat => .int .u32 (n : Nat)) bm kv] ?_
        refine tks [0, 4, 5, 9, 10, 11, 1, 6, 2, 7, 3, 8, 12] 4 ?_; repeat' (first | refine stx ?_ | refine And.intro ?_ ?_ | (intro e; exfalso; omega) | (intro e; subst e) | intro _)
        refine hv0 13 fun x13 => ?_
        refine hvm 14 fun x14 => ?_
        refine tks [15] 1 ?_; repeat' (first | refine stx ?_ | refine And.intro ?_ ?_ | (intro e; exfalso; omega) | (intro e; subst e) | intro _)
        refine hvm0 16 fun x16 => ?_
        repeat' (first | ((fail_if_success (refine atD ?_)); refine stx ?_) | refine And.intro ?_ ?_ | (intro e; exfalso; omega) | (intro e; subst e) | intro _)
        refine drx [] ?_
        refine tks [0, 4, 1, 5, 2, 6, 3, 7, 8] 0 ?_; repeat' (first | refine stx ?_ | refine And.intro ?_ ?_ | (intro e; exfalso; omega) | (intro e; subst e) | intro _)
        exact ra2 () rfl (he := en2 (LfuAt.shutS g2 s1 s2 s3))⟩
end Go.Proofs.Ytmiblmoppdgnjaa
