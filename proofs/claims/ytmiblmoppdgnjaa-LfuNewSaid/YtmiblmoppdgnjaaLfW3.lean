/- lfu, walked: questions, a key that is dropped, a copy. -/
import Derived.Test.YtmiblmoppdgnjaaLfW2
import Derived.Test.YtmiblmoppdgnjaaSlClone
namespace Go.Proofs.Ytmiblmoppdgnjaa
open Go.Lk Go.Sl Go.Lf
attribute [local irreducible] TK TL TC Th Bk Nx fnPost WA TQ OpQ OpN SpecH Rd Ent IterH RoundH Rb Rp fnPostM
attribute [local irreducible] Fld.addE Fld.addF Fld.befE Fld.befF Fld.inE Fld.remF Fld.first Fld.last Fld.next Fld.prev Fld.ofR Fld.listOf Fld.joinE Fld.joinF renE renG Fld.at Fld.set Fld.place
attribute [local irreducible] Lf.wo Lf.ins Lf.cntOf Lf.halveL
instance lf_count : Known Try.prog 11 (∀ (p size age req : Nat) (l : List It) (xk : Int) (k : Nat) [NatI xk k], SpecH Try.prog 11 #[.pointer (some ⟨p, 0, none⟩), .int .u32 xk] [LfuAt p size age req l] (fun _ : Unit => .int .i64 (cntOf l k : Nat)) (fun _ => [LfuAt p size age req l])) := ⟨fun p size age req l xk k _ => by
  obtain rfl : xk = (k : Int) := NatI.out
  refine spec_of Try.func11 rfl Try.ntmps11 rfl [(0, _), (1, _)] rfl ?_; intro base F l0 hl0; (try simp only [List.cons_append] at hl0); (try simp only [List.nil_append] at hl0); subst hl0
  refine LfuAt.openC fun f K kv pl aK cK bm g s1 s2 s3 => ?_
  cases hm : mget kv k with
  | some z =>
    obtain ⟨n, n1, n2, hz, hKz, hzs, hkl, hcnt, hof⟩ := g.some_of hm
    have o1 : (f.ofR z).1 = n := by rw [hof]
    rw [hcnt, ← o1]
    repeat' (first | refine sty ?_ | refine And.intro ?_ ?_ | (intro e; exfalso; omega) | (intro e; subst e) | intro _)
    exact rt1 () rfl (he := en2 (LfuAt.shut g s1 s2 s3))
  | none =>
    obtain ⟨_, hc⟩ := g.none_of hm
    rw [hc]
    repeat' (first | refine sty ?_ | refine And.intro ?_ ?_ | (intro e; exfalso; omega) | (intro e; subst e) | intro _)
    exact rt1 () rfl (he := en2 (LfuAt.shut g s1 s2 s3))⟩
instance lf_has : Known Try.prog 16 (∀ (p size age req : Nat) (l : List It) (xk : Int) (k : Nat) [NatI xk k], SpecH Try.prog 16 #[.pointer (some ⟨p, 0, none⟩), .int .u32 xk] [LfuAt p size age req l] (fun _ : Unit => .bool (decide ((0 : Int) < (cntOf l k : Nat)))) (fun _ => [LfuAt p size age req l])) := ⟨fun p size age req l xk k _ => by
  obtain rfl : xk = (k : Int) := NatI.out
  refine spec_of Try.func16 rfl Try.ntmps16 rfl [(0, _), (1, _)] rfl ?_; intro base F l0 hl0; (try simp only [List.cons_append] at hl0); (try simp only [List.nil_append] at hl0); subst hl0
  repeat' (first | refine sty ?_ | refine And.intro ?_ ?_ | (intro e; exfalso; omega) | (intro e; subst e) | intro _)
  exact rt1 () rfl⟩
instance lf_len : Known Try.prog 15 (∀ (p size age req : Nat) (l : List It), SpecH Try.prog 15 #[.pointer (some ⟨p, 0, none⟩)] [LfuAt p size age req l] (fun _ : Unit => .int .i64 (l.length : Nat)) (fun _ => [LfuAt p size age req l])) := ⟨fun p size age req l => by
  refine spec_of Try.func15 rfl Try.ntmps15 rfl [(0, _)] rfl ?_; intro base F l0 hl0; (try simp only [List.cons_append] at hl0); (try simp only [List.nil_append] at hl0); subst hl0
  refine LfuAt.openC fun f K kv pl aK cK bm g s1 s2 s3 => ?_
  rw [← g.len]
  repeat' (first | refine sty ?_ | refine And.intro ?_ ?_ | (intro e; exfalso; omega) | (intro e; subst e) | intro _)
  exact rt1 () rfl (he := en2 (LfuAt.shut g s1 s2 s3))⟩
instance lf_size : Known Try.prog 20 (∀ (p size age req : Nat) (l : List It), SpecH Try.prog 20 #[.pointer (some ⟨p, 0, none⟩)] [LfuAt p size age req l] (fun _ : Unit => .int .i64 (size : Nat)) (fun _ => [LfuAt p size age req l])) := ⟨fun p size age req l => by
  refine spec_of Try.func20 rfl Try.ntmps20 rfl [(0, _)] rfl ?_; intro base F l0 hl0; (try simp only [List.cons_append] at hl0); (try simp only [List.nil_append] at hl0); subst hl0
  refine LfuAt.openC fun f K kv pl aK cK bm g s1 s2 s3 => ?_
  repeat' (first | refine sty ?_ | refine And.intro ?_ ?_ | (intro e; exfalso; omega) | (intro e; subst e) | intro _)
  exact rt1 () rfl (he := en2 (LfuAt.shut g s1 s2 s3))⟩
set_option maxHeartbeats 4000000 in
instance lf_copy : Known Try.prog 21 (∀ (p size age req : Nat) (l : List It), SpecH Try.prog 21 #[.pointer (some ⟨p, 0, none⟩)] [LfuAt p size age req l] (fun c : Nat => .pointer (some ⟨c, 0, none⟩)) (fun c => [LfuAt p size age req l, LfuAt c size age req l])) := ⟨fun p size age req l => by
  refine spec_of Try.func21 rfl Try.ntmps21 rfl [(0, _)] rfl ?_; intro base F l0 hl0; (try simp only [List.cons_append] at hl0); (try simp only [List.nil_append] at hl0); subst hl0
  refine LfuAt.openC fun f K kv pl aK cK bm g s1 s2 s3 => ?_
  have hKl := g.c.kl
  repeat' (first | ((fail_if_success (refine atD ?_)); refine sty ?_) | refine And.intro ?_ ?_ | (intro e; exfalso; omega) | (intro e; subst e) | intro _)
  refine drx [FieldAt pl f, Vec 28 1 (some ⟨aK, 0, none⟩) size cK (u32s K), MapA .u32 (fun n : Nat => .int .u32 (n : Nat)) bm kv] ?_
  refine tks [0, 4, 8, 12, 17, 22, 1, 5, 9, 13, 18, 23, 2, 6, 10, 14, 19, 24, 3, 7, 11, 15, 20, 25] 6 ?_; repeat' (first | refine sty ?_ | refine And.intro ?_ ?_ | (intro e; exfalso; omega) | (intro e; subst e) | intro _)
  refine hv 16 fun x16 => ?_
  refine hv 21 fun x21 => ?_
  refine hv 26 fun x26 => ?_
  refine tks [27] 2 ?_; repeat' (first | refine sty ?_ | refine And.intro ?_ ?_ | (intro e; exfalso; omega) | (intro e; subst e) | intro _)
  refine hv 28 fun x28 => ?_
  refine tks [29] 0 ?_; repeat' (first | refine sty ?_ | refine And.intro ?_ ?_ | (intro e; exfalso; omega) | (intro e; subst e) | intro _)
  refine rt1 x28 rfl ?_
  refine Ent.trans (LfuAt.shut (p := p) (pl := pl) (aK := some ⟨aK, 0, none⟩) (cK := cK) (bm := bm) g s1 s2 s3 |> en2) ?_
  refine Ent.cons (by (repeat (first | (with_reducible exact Rem.here _ _) | (with_reducible apply Rem.there) | fail)); done) ?_
  exact en2 (LfuAt.shut g s1 s2 s3)⟩
theorem lf_zeroL : Known Try.prog 25 (∀ (p size age req : Nat) (l : List It), SpecH Try.prog 25 #[.pointer (some ⟨p, 0, none⟩)] [LfuAt p size age req l] (fun _ : Unit => .bool false) (fun _ => [LfuAt p size age req l])) := ⟨fun p size age req l => by
  refine spec_of Try.func25 rfl Try.ntmps25 rfl [(0, _)] rfl ?_; intro base F l0 hl0; (try simp only [List.cons_append] at hl0); (try simp only [List.nil_append] at hl0); subst hl0
  refine LfuAt.openC fun f K kv pl aK cK bm g s1 s2 s3 => ?_
  repeat' (first | refine sty ?_ | refine And.intro ?_ ?_ | (intro e; exfalso; omega) | (intro e; subst e) | intro _)
  exact rt1 () rfl (he := en2 (LfuAt.shut g s1 s2 s3))⟩
theorem lf_releaseL : Known Try.prog 29 (∀ (p size age req : Nat) (l : List It) (k : Nat), k ∈ ks l → SpecH Try.prog 29 #[.pointer (some ⟨p, 0, none⟩), .int .u32 (k : Nat)] [LfuAt p size age req l] (fun _ : Unit => .tuple #[]) (fun _ => [LfuAt p size age req (Lf.wo l k)])) := ⟨fun p size age req l k hk => by
  refine spec_of Try.func29 rfl Try.ntmps29 rfl [(0, _), (1, _)] rfl ?_; intro base F l0 hl0; (try simp only [List.cons_append] at hl0); (try simp only [List.nil_append] at hl0); subst hl0
  refine LfuAt.openC fun f K kv pl aK cK bm g s1 s2 s3 => ?_
  obtain ⟨z, hm⟩ := Option.isSome_iff_exists.1 (g.isSome_iff.2 hk)
  obtain ⟨n, n1, n2, hz, hKz, hzs, hkl, hcnt, hof⟩ := g.some_of hm
  obtain ⟨t1, t2, t3⟩ := g.release hm n1 n2 hz
  have hzl : z < 4294967296 := by omega
  repeat' (first | refine sty ?_ | refine And.intro ?_ ?_ | (intro e; exfalso; omega) | (intro e; subst e) | intro _)
  exact re0 () rfl (he := en2 (LfuAt.shut t3 s1 s2 s3))⟩
instance lf_drop : Known Try.prog 13 (∀ (p size age req : Nat) (l : List It) (xk : Int) (k : Nat) [NatI xk k], SpecH Try.prog 13 #[.pointer (some ⟨p, 0, none⟩), .int .u32 xk] [LfuAt p size age req l] (fun _ : Unit => .tuple #[.bool (decide ((0 : Int) < (cntOf l k : Nat))), .int .i64 0]) (fun _ => [LfuAt p size age req (Lf.wo l k)])) := ⟨fun p size age req l xk k _ => by
  obtain rfl : xk = (k : Int) := NatI.out
  haveI := lf_zeroL
  haveI := lf_releaseL
  refine spec_of Try.func13 rfl Try.ntmps13 rfl [(0, _), (1, _)] rfl ?_; intro base F l0 hl0; (try simp only [List.cons_append] at hl0); (try simp only [List.nil_append] at hl0); subst hl0
  refine LfuAt.factsC fun o h1 h2 h3 h4 => ?_
  have hc := cnt_iff o (j := k)
  by_cases hk : k ∈ ks l
  · have : 0 < cntOf l k := hc.2 hk
    repeat' (first | refine sty ?_ | refine And.intro ?_ ?_ | (intro e; exfalso; omega) | (intro e; subst e) | intro _)
    exact rt2 () rfl
  · have : ¬ 0 < cntOf l k := fun h => hk (hc.1 h)
    rw [wo_not hk]
    repeat' (first | refine sty ?_ | refine And.intro ?_ ?_ | (intro e; exfalso; omega) | (intro e; subst e) | intro _)
    exact rt2 () rfl⟩
end Go.Proofs.Ytmiblmoppdgnjaa
