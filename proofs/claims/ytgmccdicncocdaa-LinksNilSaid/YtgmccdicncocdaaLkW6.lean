/- links, walked: an iterator, a new field, a copy. -/
import Derived.Test.YtgmccdicncocdaaLkW1
namespace Go.Proofs.Ytgmccdicncocdaa
open Go.Sl Go.Lk
attribute [local irreducible] TK TL TC Th Bk Nx fnPost WA TQ OpQ OpN SpecH Rd Ent IterH RoundH Rb Rp fnPostM
/-- The elements as an iterator hands them on. -/
def u32a (ns : List Nat) : List (List Value) := ns.map fun n => [.int .u32 (n : Nat)]
theorem u32a_get {ns : List Nat} {i : Nat} (h : i < ns.length) : (u32a ns)[i]? = some [.int .u32 (ns.getD i 0 : Nat)] := by simp [u32a, h]
set_option maxHeartbeats 2000000 in
theorem iter_spec (c : Nat) (a : Option Addr) (cap : Nat) (ns : List Nat) (hns : ns.length ≤ 4194304) :
    IterH Try.prog 44 #[.pointer (some ⟨c, 0, none⟩)] (u32a ns) [cobj c 22 [.slice a ns.length cap], RoS 1 a ns.length cap (u32s ns)] := by
  unfold IterH
  intro lp rec I B hst hpe hlen hround
  have e : (#[Value.func (.yield lp) #[] #[]] ++ #[Value.pointer (some ⟨c, 0, none⟩)] : Array Value) = #[.func (.yield lp) #[] #[], .pointer (some ⟨c, 0, none⟩)] := rfl
  rw [e]
  have hx : (u32a ns).length = ns.length := by simp [u32a]
  refine spec_of Try.func44 rfl Try.ntmps44 rfl [(0, _), (1, _)] rfl ?_; intro base F l0 hl0; (try simp only [List.cons_append] at hl0); (try simp only [List.nil_append] at hl0); subst hl0
  repeat' (first | refine st ?_ | refine And.intro ?_ ?_ | (intro e; subst e) | intro _)
  refine tc_lp [7] (fun e (i : { i : Nat // i ≤ ns.length }) => (7, .int .i64 i.1) :: e) (fun i => [blk lp (.loop rec), I i.1, cobj c 22 [.slice a ns.length cap], RoS 1 a ns.length cap (u32s ns), F]) (fun i => ns.length - i.1) ⟨0, Nat.zero_le _⟩ ?_
  rintro K ⟨i, hi⟩ hK
  dsimp only
  by_cases hlt : i < ns.length
  · refine TC.roAt (by (repeat (first | (with_reducible exact Rem.here _ _) | (with_reducible apply Rem.there) | fail)); done) (by omega) ?_
    rintro b o rfl
    have hsz := hlen [.int .u32 (ns.getD i 0 : Nat)] (List.mem_of_getElem? (u32a_get hlt))
    repeat' (first | refine st ?_ | refine And.intro ?_ ?_ | (intro e; subst e) | intro _)
    refine tl_yield (hround i [.int .u32 (ns.getD i 0 : Nat)] (u32a_get hlt)) (want_none rfl) rfl (by (repeat (first | exact Evs.nil | (apply Evs.cons; exact rfl) | fail)); done) hsz (by (repeat (first | (with_reducible exact Pick.nil _) | (apply Pick.cons; (focus ((repeat (first | (with_reducible exact Rem.here _ _) | (with_reducible apply Rem.there) | fail)); done))) | fail)); done) rfl (Nat.lt_of_ble_eq rfl) ?_
    rintro (_ | cd) l2 rfl
    · simp only [roundL, List.cons_append, List.nil_append]
      repeat' (first | refine st ?_ | refine And.intro ?_ ?_ | (intro e; subst e) | intro _)
      exact again hK ⟨i + 1, by omega⟩
    · simp only [roundL, List.cons_append, List.nil_append]
      repeat' (first | refine st ?_ | refine And.intro ?_ ?_ | (intro e; subst e) | intro _)
      exact rt0 (some (i, cd)) rfl (by simp only [iterL]; (try simp only [List.cons_append, List.nil_append]); repeat (first | (with_reducible exact Ent.refl _) | (with_reducible exact Ent.nil _) | (apply Ent.cons; (focus ((repeat (first | (with_reducible exact Rem.here _ _) | (with_reducible apply Rem.there) | fail)); done)))))
  · have hi' : i = ns.length := by omega
    subst hi'
    repeat' (first | refine st ?_ | refine And.intro ?_ ?_ | (intro e; subst e) | intro _)
    exact re0 none rfl (by simp only [iterL, hx]; (try simp only [List.cons_append, List.nil_append]); repeat (first | (with_reducible exact Ent.refl _) | (with_reducible exact Ent.nil _) | (apply Ent.cons; (focus ((repeat (first | (with_reducible exact Rem.here _ _) | (with_reducible apply Rem.there) | fail)); done)))))
set_option maxHeartbeats 2000000 in
instance new_bad : Known Try.prog 10 (∀ (nodes heads : Int), (nodes < 1 ∨ 4194304 < nodes ∨ heads < 1 ∨ 4096 < heads) → SpecH Try.prog 10 #[.int .i64 nodes, .int .i64 heads] [] (fun _ : Unit => .tuple #[.pointer none, .int .i64 2]) (fun _ => [])) := ⟨fun nodes heads h => by
  refine spec_of Try.func10 rfl Try.ntmps10 rfl [(0, _), (1, _)] rfl ?_; intro base F l0 hl0; (try simp only [List.cons_append] at hl0); (try simp only [List.nil_append] at hl0); subst hl0
  repeat' (first | refine st ?_ | refine And.intro ?_ ?_ | (intro e; subst e) | intro _)
  all_goals first | exact rt2 () rfl | (exfalso; omega)⟩
theorem encF_init' (K : Nat) : rows K (fun _ => [(.int .u32 0 : Value), .int .u32 0, .int .u32 0]) = encF K (fun _ => 0) (fun _ => 0) (fun _ => 0) := rfl
set_option maxHeartbeats 2000000 in
instance new_spec : Known Try.prog 10 (∀ (N M : Nat), 1 ≤ N → N ≤ 4194304 → 1 ≤ M → M ≤ 4096 → SpecH Try.prog 10 #[.int .i64 N, .int .i64 M] [] (fun p : Nat => .tuple #[.pointer (some ⟨p, 0, none⟩), .int .i64 0]) (fun p => [LinksAt p (newS N M M)])) := ⟨fun N M g1 g2 g3 g4 => by
  refine spec_of Try.func10 rfl Try.ntmps10 rfl [(0, _), (1, _)] rfl ?_; intro base F l0 hl0; (try simp only [List.cons_append] at hl0); (try simp only [List.nil_append] at hl0); subst hl0
  repeat' (first | refine st ?_ | refine And.intro ?_ ?_ | (intro e; subst e) | intro _)
  refine cut (ι := Nat × Nat × Nat) (fun q => [(0, .int .i64 N), (1, .int .i64 M), (6, .pointer (some ⟨q.1, 0, none⟩))])
    (fun q => [obj q.1 69 [.slice (some ⟨q.2.1, 0, none⟩) (N + M) (N + M), .int .i64 N, .slice (some ⟨q.2.2, 0, none⟩) M M], Vec 77 3 (some ⟨q.2.1, 0, none⟩) (N + M) (N + M) (rows (N + M) fun _ => [.int .u32 0, .int .u32 0, .int .u32 0]), Vec 3 1 (some ⟨q.2.2, 0, none⟩) M M (rows M fun _ => [.int .i64 0]), F]) ?_ ?_
  · intro K hK
    refine dr [] ?_
    refine tks [0, 1, 2, 4, 5] 5 ?_
    repeat' (first | refine st ?_ | refine And.intro ?_ ?_ | (intro e; subst e) | intro _)
    refine hv2 3 6 (fun b => ?_) (fun b2 => ?_)
    · refine hv 6 fun b2 => ?_
      refine tks [7] 2 ?_
      repeat' (first | refine st ?_ | refine And.intro ?_ ?_ | (intro e; subst e) | intro _)
      refine hv 8 fun p => ?_
      refine tks [9] 0 ?_
      repeat' (first | refine st ?_ | refine And.intro ?_ ?_ | (intro e; subst e) | intro _)
      exact fin hK (p, b, b2)
    · refine hv 3 fun b => ?_
      refine tks [7] 2 ?_
      repeat' (first | refine st ?_ | refine And.intro ?_ ?_ | (intro e; subst e) | intro _)
      refine hv 8 fun p => ?_
      refine tks [9] 0 ?_
      repeat' (first | refine st ?_ | refine And.intro ?_ ?_ | (intro e; subst e) | intro _)
      exact fin hK (p, b, b2)
  · rintro ⟨p, b, b2⟩
    dsimp only
    repeat' (first | refine st ?_ | refine And.intro ?_ ?_ | (intro e; subst e) | intro _)
    refine tc_lp [33] (fun e (k : {k : Nat // k ≤ M}) => (33, .int .i64 k.1) :: e)
      (fun k => [obj p 69 [.slice (some ⟨b, 0, none⟩) (N + M) (N + M), .int .i64 N, .slice (some ⟨b2, 0, none⟩) M M], Vec 77 3 (some ⟨b, 0, none⟩) (N + M) (N + M) (encF (N + M) (newS N M k.1).pv (newS N M k.1).nx (newS N M k.1).of), Vec 3 1 (some ⟨b2, 0, none⟩) M M (encL M (fun _ => 0)), F]) (fun k => M - k.1) ⟨0, by omega⟩ ?_ (hl := by rw [encF_init', newS_zero]; (try simp only [List.cons_append, List.nil_append]); (repeat (first | (with_reducible exact Ent.refl _) | (with_reducible exact Ent.nil _) | (apply Ent.fact; (focus (first | assumption | omega | decide | exact rfl | fail))) | (apply Ent.keep; (focus ((repeat (first | (with_reducible exact Rem.here _ _) | (with_reducible apply Rem.there) | fail)); done)); (focus (infer_instance))) | (apply Ent.cons; (focus ((repeat (first | (with_reducible exact Rem.here _ _) | (with_reducible apply Rem.there) | fail)); done))) | exact Ent.refl _ | exact Ent.nil _ | apply Ent.vecNil | apply Ent.roNil | fail)); done)
    rintro K ⟨k, hk⟩ hK
    dsimp only
    repeat' (first | refine st ?_ | refine And.intro ?_ ?_ | (intro e; subst e) | intro _)
    · have hk' : k < M := by omega
      rw [newS_succ hk']
      exact again hK ⟨k + 1, by omega⟩
    · obtain rfl : k = M := by omega
      exact rt2 p rfl (LinksAt.shut (s := newS N k k))⟩
set_option maxHeartbeats 2000000 in
instance copy_spec : Known Try.prog 26 (∀ (p : Nat) (s : LS), GoodL s → SpecH Try.prog 26 #[.pointer (some ⟨p, 0, none⟩)] [LinksAt p s] (fun c : Nat => .pointer (some ⟨c, 0, none⟩)) (fun c => [LinksAt p s, LinksAt c s])) := ⟨fun p s g => by
  have g1 := g.n1; have g2 := g.n2; have g3 := g.m1; have g4 := g.m2
  refine spec_of Try.func26 rfl Try.ntmps26 rfl [(0, _)] rfl ?_; intro base F l0 hl0; (try simp only [List.cons_append] at hl0); (try simp only [List.nil_append] at hl0); subst hl0
  refine LinksAt.openC (by omega) (by omega) fun b cf b2 cl => ?_
  repeat' (first | refine st ?_ | refine And.intro ?_ ?_ | (intro e; subst e) | intro _)
  refine cut (ι := Nat × (Option Addr × Nat) × (Option Addr × Nat)) (fun q => [(2, .pointer (some ⟨q.1, 0, none⟩))])
    (fun q => [obj p 69 [.slice (some ⟨b, 0, none⟩) (s.N + s.M) cf, .int .i64 s.N, .slice (some ⟨b2, 0, none⟩) s.M cl], Vec 77 3 (some ⟨b, 0, none⟩) (s.N + s.M) cf (encF (s.N + s.M) s.pv s.nx s.of), Vec 3 1 (some ⟨b2, 0, none⟩) s.M cl (encL s.M s.ln), obj q.1 69 [.slice q.2.1.1 (s.N + s.M) q.2.1.2, .int .i64 s.N, .slice q.2.2.1 s.M q.2.2.2], Vec 77 3 q.2.1.1 (s.N + s.M) q.2.1.2 (encF (s.N + s.M) s.pv s.nx s.of), Vec 3 1 q.2.2.1 s.M q.2.2.2 (encL s.M s.ln), F]) ?_ ?_
  · intro K hK
    refine dr [obj p 69 [.slice (some ⟨b, 0, none⟩) (s.N + s.M) cf, .int .i64 s.N, .slice (some ⟨b2, 0, none⟩) s.M cl], Vec 77 3 (some ⟨b, 0, none⟩) (s.N + s.M) cf (encF (s.N + s.M) s.pv s.nx s.of), Vec 3 1 (some ⟨b2, 0, none⟩) s.M cl (encL s.M s.ln)] ?_
    refine tks [0, 1, 2, 3, 5, 6, 7, 8, 9, 10, 11, 12] 5 ?_
    repeat' (first | refine st ?_ | refine And.intro ?_ ?_ | (intro e; subst e) | intro _)
    refine hv 4 fun q1 => ?_
    refine hv 13 fun q2 => ?_
    refine tks [14] 2 ?_
    repeat' (first | refine st ?_ | refine And.intro ?_ ?_ | (intro e; subst e) | intro _)
    refine hv 15 fun c => ?_
    refine tks [16] 0 ?_
    repeat' (first | refine st ?_ | refine And.intro ?_ ?_ | (intro e; subst e) | intro _)
    exact fin hK (c, q1, q2)
  · rintro ⟨c, q1, q2⟩
    dsimp only
    repeat' (first | refine st ?_ | refine And.intro ?_ ?_ | (intro e; subst e) | intro _)
    exact rt1 c rfl (LinksAt.shut.trans (Ent.cons (Rem.here _ _) LinksAt.shut))⟩
end Go.Proofs.Ytgmccdicncocdaa
