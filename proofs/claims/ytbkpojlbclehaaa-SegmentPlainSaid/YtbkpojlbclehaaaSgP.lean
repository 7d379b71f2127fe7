/- The laws of segment, walked: probation as a plain list. -/
import Derived.Test.YtbkpojlbclehaaaSgL3
import Derived.Test.YtbkpojlbclehaaaSlD
namespace Go.Sg
open Go.Sl
section
variable {P : List It} {L : Int} {k c : Nat}
/-- The limit that the law takes. -/
abbrev LimZ (zero : Bool) (L : Int) : Prop := (zero = true ∧ L = 0) ∨ (zero = false ∧ L = -1)
structure MemX (X : List Nat) (s : Nat) (b : Bool) : Prop where
  out : decide (s ∈ X) = b
theorem plain_add (h : k ∉ sl P) (hk : k < 4194304) (hc : c ≤ 1099511627776) : AddTo P [] L k (c : Int) (P ++ [(k, c)]) [] 0 := by
  have hf : fair k (c : Int) := ⟨hk, by omega, by omega⟩
  have hi : ¬ isIn ⟨P, [], L⟩ k := fun x => x.elim h (fun y => by cases y)
  refine ⟨?_, ?_, ?_⟩
  · unfold addS; rw [if_pos ⟨hf, hi⟩]; rfl
  · unfold addS; rw [if_pos ⟨hf, hi⟩]
  · unfold addE; rw [if_neg (fun x => x hf), if_neg hi]
theorem plain_use {zero : Bool} (hL : LimZ zero L) (h : k ∈ sl P) (hk : k < 4194304) (hc : c ≤ 1099511627776) (h1 : 1 ≤ c) : ∃ G, UseTo P [] L k (c : Int) (rm P k ++ [(k, c)]) [] G 0 ∧ ((zero = true ∧ G = [k]) ∨ (zero = false ∧ G = [])) := by
  have hf : fair k (c : Int) := ⟨hk, by omega, by omega⟩
  have hi : isIn ⟨P, [], L⟩ k := .inl h
  have e0 : useE ⟨P, [], L⟩ k (c : Int) = 0 := by unfold useE; rw [if_neg (fun x => x hf), if_pos hi]
  rcases hL with ⟨rfl, rfl⟩ | ⟨rfl, rfl⟩
  · have em : midS ⟨P, [], 0⟩ k (c : Int) = ⟨rm P k, [(k, c)], 0⟩ := rfl
    have hn : need 0 [(k, c)] := ⟨by simp, .inr (by rw [sm_one]; dsimp only; omega)⟩
    have hd : demN 0 [(k, c)] = 1 := by show (if need 0 [(k, c)] then demN 0 [] + 1 else 0) = 1; rw [if_pos hn]; rfl
    refine ⟨[k], ⟨?_, ?_, ?_, e0⟩, .inl ⟨rfl, rfl⟩⟩
    · unfold useS; rw [if_pos ⟨hf, hi⟩, em]; unfold demS; dsimp only; rw [hd]; rfl
    · unfold useS; rw [if_pos ⟨hf, hi⟩, em]; unfold demS; dsimp only; rw [hd]; rfl
    · unfold useG; rw [if_pos ⟨hf, hi⟩, em]; unfold demG; dsimp only; rw [hd]; rfl
  · have em : midS ⟨P, [], -1⟩ k (c : Int) = ⟨rm P k ++ [(k, c)], [], -1⟩ := rfl
    refine ⟨[], ⟨?_, ?_, ?_, e0⟩, .inr ⟨rfl, rfl⟩⟩
    · unfold useS; rw [if_pos ⟨hf, hi⟩, em]; unfold demS; dsimp only; rw [show demN (-1) [] = 0 from rfl, List.take_nil, List.append_nil]
    · unfold useS; rw [if_pos ⟨hf, hi⟩, em]; rfl
    · unfold useG; rw [if_pos ⟨hf, hi⟩, em]; rfl
theorem plain_sl (hn : (sl P).Nodup) (h : k ∈ sl P) : sl (rm P k ++ [(k, c)]) = Lr.useL (sl P) k := by
  rw [sl_append, sl_one, rm_sl hn]
  exact (if_pos h).symm
end
end Go.Sg
namespace Go.Proofs.Ytbkpojlbclehaaa
open Go.Lk Go.Sl Go.Lr Go.Sg
theorem lr_addT : Known Try.prog 29 (∀ (p : Nat) (X : List Nat) (xs : Int) (s : Nat) [NatI xs s], s ∉ X → s < 4194304 → SpecH Try.prog 29 #[.pointer (some ⟨p, 0, none⟩), .int .u32 xs] [LruAt p X] (fun _ : Unit => .int .i64 0) (fun _ => [LruAt p (X ++ [s])])) := ⟨fun p X xs s _ h hs => by
  have h3 : Lr.addE X s = 0 := by unfold Lr.addE; rw [if_neg (by omega), if_neg h]
  have := lr_add.out p X xs s (by omega)
  rwa [h3, Lr.addL_ok h3] at this⟩
theorem lr_useT : Known Try.prog 27 (∀ (p : Nat) (X : List Nat) (xs : Int) (s : Nat) [NatI xs s], s ∈ X → s < 4194304 → SpecH Try.prog 27 #[.pointer (some ⟨p, 0, none⟩), .int .u32 xs] [LruAt p X] (fun _ : Unit => .int .i64 0) (fun _ => [LruAt p (Lr.useL X s)])) := ⟨fun p X xs s _ h hs => by
  have h3 : Lr.remE X s = 0 := by unfold Lr.remE; rw [if_neg (by omega), if_pos h]
  have := lr_use.out p X xs s (by omega)
  rwa [h3] at this⟩
theorem lr_hasT : Known Try.prog 26 (∀ (p : Nat) (X : List Nat) (xs : Int) (s : Nat) [NatI xs s] (b : Bool), MemX X s b → s < 4294967296 → SpecH Try.prog 26 #[.pointer (some ⟨p, 0, none⟩), .int .u32 xs] [LruAt p X] (fun _ : Unit => .bool b) (fun _ => [LruAt p X])) := ⟨fun p X xs s _ b h hs => by
  have := lr_has.out p X xs s hs
  rwa [h.out] at this⟩
attribute [local irreducible] TK TL TC Th Bk Nx fnPost WA TQ OpQ OpN SpecH Rd Ent IterH RoundH Rb Rp fnPostM
attribute [local irreducible] Fld.addE Fld.addF Fld.befE Fld.befF Fld.inE Fld.remF Fld.first Fld.last Fld.next Fld.prev Fld.ofR Fld.listOf Fld.joinE Fld.joinF renE renG Fld.at Fld.set Fld.place
attribute [local irreducible] Lr.addL Lr.addE Lr.useL Lr.remE Sg.sm Sg.sl Sg.rm Sg.demN Sg.flat Sg.addS Sg.addE Sg.useS Sg.useE Sg.useG
set_option maxRecDepth 20000 in
set_option maxHeartbeats 16000000 in
theorem sgl_plain (a : Option Addr) (cap : Nat) (l : List Nat) (a1 : Option Addr) (cap1 : Nat) (zs : List Int) (zero : Bool) (hl : ∀ x ∈ l, x < 4294967296) (hz : ∀ z ∈ zs, 0 ≤ z ∧ z < 65536) : SpecH Try.prog 5 #[.slice a l.length cap, .slice a1 zs.length cap1, .bool zero] [RoS 1 a l.length cap (u32s l), RoS 1 a1 zs.length cap1 (intsV .u16 zs)] (fun _ : Unit => .bool true) (fun _ => []) := by
  refine spec_of_m Try.func5 rfl Try.ntmps5 rfl [(0, _), (1, _), (2, _)] rfl ?_; intro base F l0 hl0; (try simp only [List.cons_append] at hl0); (try simp only [List.nil_append] at hl0); subst hl0
  by_cases hc : 60 < (l.length : Int)
  · repeat' (first | refine stw ?_ | refine And.intro ?_ ?_ | (intro e; exfalso; omega) | (intro e; subst e) | intro _)
    all_goals exact rmv1 () rfl
  · haveI := lr_addT
    haveI := lr_hasT
    haveI := lr_useT
    haveI := sg_addT
    haveI := sg_useT
    haveI := sgr_sameU
    repeat' (first | ((fail_if_success (refine atCond ?_)); refine stw ?_) | refine And.intro ?_ ?_ | (intro e; exfalso; omega) | (intro e; subst e) | intro _)
    refine stw ?_
    repeat' (first | ((fail_if_success (refine atCond ?_)); refine stw ?_) | refine And.intro ?_ ?_ | (intro e; exfalso; omega) | (intro e; subst e) | intro _)
    rename_i b6
    refine cut (ι := {L : Int // Sg.LimZ zero L}) (fun y => [(7, .int .i64 y.1), (0, .slice a l.length cap), (1, .slice a1 zs.length cap1), (2, .bool zero), (6, .pointer (some ⟨b6, 0, none⟩))]) (fun _ => [obj b6 4 [.bool false], RoS 1 a l.length cap (u32s l), RoS 1 a1 zs.length cap1 (intsV .u16 zs), F]) ?_ ?_
    · intro K hK
      cases zero
      · repeat' (first | refine stw ?_ | refine And.intro ?_ ?_ | (intro e; exfalso; omega) | (intro e; subst e) | intro _)
        exact fin hK ⟨-1, .inr ⟨rfl, rfl⟩⟩
      · repeat' (first | refine stw ?_ | refine And.intro ?_ ?_ | (intro e; exfalso; omega) | (intro e; subst e) | intro _)
        exact fin hK ⟨0, .inl ⟨rfl, rfl⟩⟩
    rintro ⟨L, hL⟩
    dsimp only
    have hL2 : -1 ≤ L ∧ L ≤ 1099511627776 := by rcases hL with ⟨_, h⟩ | ⟨_, h⟩ <;> omega
    repeat' (first | refine stw ?_ | refine And.intro ?_ ?_ | (intro e; exfalso; omega) | (intro e; subst e) | intro _)
    rename_i p q
    refine TC.weak (env' := (11, .int .i64 (0 : Nat)) :: [(7, .int .i64 L), (0, .slice a l.length cap), (1, .slice a1 zs.length cap1), (2, .bool zero), (6, .pointer (some ⟨b6, 0, none⟩)), (8, .pointer (some ⟨p, 0, none⟩)), (10, .pointer (some ⟨q, 0, none⟩))]) ?_ (by (repeat (first | exact Sub.nil | (apply Sub.cons; exact rfl))); done)
    refine TC.marks0 ?_
    refine tc_lpD (ι := {x : Nat × List It × List Nat // x.1 ≤ l.length ∧ x.2.1.length ≤ x.1}) [11] (fun e x => (11, .int .i64 (x.1.1 : Nat)) :: e) (fun x => x.1.2.2.map coll)
      (fun x => [SegAt p x.1.2.1 [] L, LruAt q (sl x.1.2.1), Marks x.1.2.2, obj b6 4 [.bool false], RoS 1 a l.length cap (u32s l), RoS 1 a1 zs.length cap1 (intsV .u16 zs), F]) (fun x => l.length - x.1.1) ⟨(0, [], []), by simp⟩ ?_ (hl := by dsimp only; rw [sl_nil]; exact en)
    rintro K ⟨⟨i, P, rbs⟩, hi, hP⟩ hK
    dsimp only at hi hP ⊢
    by_cases hc : i < l.length
    · have hx : l.getD i 0 < 4294967296 := hl _ (by rw [List.getD_eq_getElem?_getD, List.getElem?_eq_getElem hc]; exact List.getElem_mem hc)
      by_cases hb : l.getD i 0 < 5000
      · refine SegAt.factsC fun iv st lp lt => ?_
        obtain ⟨n1, n2, n3⟩ := iv.parts
        have hxz : ∀ z ∈ zs, 1 ≤ 1 + z ∧ 1 + z ≤ 65536 := fun z h => by have := hz z h; omega
        repeat' (first | ((fail_if_success (refine atCond ?_)); refine stw ?_) | refine And.intro ?_ ?_ | (intro e; exfalso; omega) | (intro e; subst e) | intro _)
        refine stw ?_
        repeat' (first | ((fail_if_success (refine atCond ?_)); refine stw ?_) | refine And.intro ?_ ?_ | (intro e; exfalso; omega) | (intro e; subst e) | intro _)
        refine stw ?_
        repeat' (first | ((fail_if_success (refine atCond ?_)); refine stw ?_) | refine And.intro ?_ ?_ | (intro e; exfalso; omega) | (intro e; subst e) | intro _)
        refine cut (ι := {c : Nat // 1 ≤ c ∧ c ≤ 65536}) (fun y => (12, .int .i64 (y.1 : Nat)) :: (11, .int .i64 (i : Nat)) :: [(7, .int .i64 L), (0, .slice a l.length cap), (1, .slice a1 zs.length cap1), (2, .bool zero), (6, .pointer (some ⟨b6, 0, none⟩)), (8, .pointer (some ⟨p, 0, none⟩)), (10, .pointer (some ⟨q, 0, none⟩))]) (fun _ => [SegAt p P [] L, LruAt q (sl P), Marks rbs, obj b6 4 [.bool false], RoS 1 a l.length cap (u32s l), RoS 1 a1 zs.length cap1 (intsV .u16 zs), F]) ?_ ?_
        · intro K3 hK3
          by_cases hm : 0 < zs.length
          · have hlt : i % zs.length < zs.length := Nat.mod_lt _ hm
            have hg : zs.getD (i % zs.length) 0 ∈ zs := by rw [List.getD_eq_getElem?_getD, List.getElem?_eq_getElem hlt]; exact List.getElem_mem hlt
            obtain ⟨g1, g2⟩ := hxz _ hg
            repeat' (first | refine stw ?_ | refine And.intro ?_ ?_ | (intro e; exfalso; omega) | (intro e; subst e) | intro _)
            rw [show ((i : Int) % (zs.length : Int)).toNat = i % zs.length from rfl]
            obtain ⟨c, hcw⟩ : ∃ c : Nat, zs.getD (i % zs.length) 0 = (c : Int) := ⟨(zs.getD (i % zs.length) 0).toNat, by omega⟩
            rw [hcw] at g1 g2 ⊢
            have e1 : IntKind.i64.wrap (c : Int) = (c : Int) := IntWalk.i64_in _ (by omega)
            have e2 : IntKind.i64.wrap (1 + (c : Int)) = ((1 + c : Nat) : Int) := (IntWalk.i64_in _ (by omega)).trans (by omega)
            rw [e1, e2]
            exact fin hK3 ⟨1 + c, by omega⟩
          · repeat' (first | refine stw ?_ | refine And.intro ?_ ?_ | (intro e; exfalso; omega) | (intro e; subst e) | intro _)
            exact fin hK3 ⟨1, by omega⟩
        · rintro ⟨c, hc1, hc2⟩
          dsimp only
          have hel : l.getD i 0 < 4194304 := by omega
          obtain ⟨b, hmx⟩ : ∃ b, MemX (sl P) (l.getD i 0) b := ⟨_, ⟨rfl⟩⟩
          repeat' (first | ((fail_if_success (refine atCond ?_)); refine stw ?_) | refine And.intro ?_ ?_ | (intro e; exfalso; omega) | (intro e; subst e) | intro _)
          refine cut (ι := {X : List It // X.length ≤ i + 1}) (fun _ => (11, .int .i64 (i : Nat)) :: [(7, .int .i64 L), (0, .slice a l.length cap), (1, .slice a1 zs.length cap1), (2, .bool zero), (6, .pointer (some ⟨b6, 0, none⟩)), (8, .pointer (some ⟨p, 0, none⟩)), (10, .pointer (some ⟨q, 0, none⟩))]) (fun y => [SegAt p y.1 [] L, LruAt q (sl y.1), Marks rbs, obj b6 4 [.bool false], RoS 1 a l.length cap (u32s l), RoS 1 a1 zs.length cap1 (intsV .u16 zs), F]) ?_ ?_
          · intro K3 hK3
            cases b
            rotate_left
            · have hin : l.getD i 0 ∈ sl P := of_decide_eq_true hmx.out
              obtain ⟨G, hu, hG⟩ := plain_use (c := c) hL hin hel (by omega) hc1
              have hrl := (rm_len (k := l.getD i 0) n1).1 hin
              rcases hG with ⟨rfl, rfl⟩ | ⟨rfl, rfl⟩
              · have hs : SameU [l.getD i 0] [l.getD i 0] true := ⟨decide_eq_true rfl⟩
                repeat' (first | refine stw ?_ | refine And.intro ?_ ?_ | (intro e; exfalso; omega) | (intro e; subst e) | intro _)
                refine TL.freeze (by (repeat (first | (with_reducible exact Rem.here _ _) | (with_reducible apply Rem.there) | fail)); done) ?_
                have hone : [l.getD i 0].length = 1 := rfl
                repeat' (first | refine stw ?_ | refine And.intro ?_ ?_ | (intro e; exfalso; omega) | (intro e; subst e) | intro _)
                rw [← plain_sl (c := c) n1 hin]
                exact fin hK3 ⟨Sg.rm P (l.getD i 0) ++ [(l.getD i 0, c)], by rw [List.length_append, List.length_singleton]; omega⟩
              · repeat' (first | refine stw ?_ | refine And.intro ?_ ?_ | (intro e; exfalso; omega) | (intro e; subst e) | intro _)
                rw [← plain_sl (c := c) n1 hin]
                exact fin hK3 ⟨Sg.rm P (l.getD i 0) ++ [(l.getD i 0, c)], by rw [List.length_append, List.length_singleton]; omega⟩
            · have hin : l.getD i 0 ∉ sl P := of_decide_eq_false hmx.out
              have ha := plain_add (L := L) (c := c) hin hel (by omega)
              repeat' (first | refine stw ?_ | refine And.intro ?_ ?_ | (intro e; exfalso; omega) | (intro e; subst e) | intro _)
              rw [show sl P ++ [l.getD i 0] = sl (P ++ [(l.getD i 0, c)]) by rw [sl_append, sl_one]]
              exact fin hK3 ⟨P ++ [(l.getD i 0, c)], by rw [List.length_append, List.length_singleton]; omega⟩
          · rintro ⟨X, hX⟩
            dsimp only
            have g0 : ListG 0 X [] X := ⟨.inl ⟨rfl, rfl⟩⟩
            have g1 : ListG 1 X [] [] := ⟨.inr (.inl ⟨rfl, rfl⟩)⟩
            clear iv st lp lt n1 n2 n3 hxz
            repeat' (first | refine stw ?_ | refine And.intro ?_ ?_ | (intro e; exfalso; omega) | (intro e; subst e) | intro _)
            rename_i qa qc bl bn sc
            have hx : (u32a (sl X)).length = X.length := by simp [u32a, sl_len]
            refine tc_rangeFunc (xs := u32a (sl X)) (own := [SeqC sc (sl X)]) (R := [LruAt q (sl X), SegAt p X [] L, Marks rbs, obj b6 4 [.bool false], RoS 1 a l.length cap (u32s l), RoS 1 a1 zs.length cap1 (intsV .u16 zs), F]) (fun i => Exs (ι := Unit) fun _ => [obj bn 3 [.int .i64 (i : Nat)], obj bl 26 [.slice qa X.length qc], RoS 2 qa X.length qc (wc X)]) (fun _ _ => fact False) (seq_iter sc _) rfl (by decide) (by intro a ha; simp only [u32a, List.mem_map] at ha; obtain ⟨_, _, rfl⟩ := ha; rfl) ?_ ?_ ?_ ?_
            · refine Ent.trans ?_ (Ent.exs () (Ent.refl _))
              simp only [List.cons_append, List.nil_append]
              rw [Int.natCast_zero]
              exact en
            · intro lp rec j a hst hpe ha base F
              have hj : j < X.length := by rw [← hx]; exact (List.getElem?_eq_some_iff.1 ha).1
              obtain rfl : a = [.int .u32 ((sl X).getD j 0 : Nat)] := by rw [u32a_get (by rw [sl_len]; exact hj)] at ha; exact (Option.some.inj ha).symm
              rw [sl_getD hj]
              refine TC.exs (f := fun _ : Unit => [obj bn 3 [.int .i64 (j : Nat)], obj bl 26 [.slice qa X.length qc], RoS 2 qa X.length qc (wc X)]) (by (repeat (first | (with_reducible exact Rem.here _ _) | (with_reducible apply Rem.there) | fail)); done) fun _ => ?_
              simp only [List.cons_append, List.nil_append, putsE]
              repeat' (first | refine stw ?_ | refine And.intro ?_ ?_ | (intro e; exfalso; omega) | (intro e; subst e) | intro _)
              refine rb hst ?_
              repeat' (first | refine stw ?_ | refine And.intro ?_ ?_ | (intro e; exfalso; omega) | (intro e; subst e) | intro _)
              refine rp hst hpe ?_
              refine Ent.cons (by (repeat (first | (with_reducible exact Rem.here _ _) | (with_reducible apply Rem.there) | fail)); done) (Ent.exs () ?_)
              rw [show ((j + 1 : Nat) : Int) = (j : Int) + 1 from rfl]
              exact en
            · intro rb
              rw [hx]
              simp only [List.cons_append, List.nil_append]
              refine TK.exs (f := fun _ : Unit => [obj bn 3 [.int .i64 (X.length : Nat)], obj bl 26 [.slice qa X.length qc], RoS 2 qa X.length qc (wc X)]) (by (repeat (first | (with_reducible exact Rem.here _ _) | (with_reducible apply Rem.there) | fail)); done) fun _ => ?_
              simp only [List.cons_append, List.nil_append]
              repeat' (first | refine stw ?_ | refine And.intro ?_ ?_ | (intro e; exfalso; omega) | (intro e; subst e) | intro _)
              refine TK.markC (rb := rb) (rbs := rbs) ?_
              exact againD hK ⟨(i + 1, X, rb :: rbs), by dsimp only; omega⟩
            · intro rb i c
              exact tc_factF
      · repeat' (first | refine stw ?_ | refine And.intro ?_ ?_ | (intro e; exfalso; omega) | (intro e; subst e) | intro _)
        exact rmvM () rfl
    · repeat' (first | refine stw ?_ | refine And.intro ?_ ?_ | (intro e; exfalso; omega) | (intro e; subst e) | intro _)
      exact rmvM () rfl
end Go.Proofs.Ytbkpojlbclehaaa
