/- The laws of lfu, walked: what leaves had the least count. -/
import Derived.Test.YtmiblmoppdgnjaaLfL2
import Derived.Test.YtmiblmoppdgnjaaLfTheory7
import Derived.Test.YtmiblmoppdgnjaaSlMapN
namespace Go.Sl
theorem atBlkH (id : Nat) {r0 : Option Nat} {P : Program} {base : World} {n : Nat} {ds : List Deferred} {Q : Exit → Act → World → Prop} {env : Env} {l : List HP} {c : Code} (h : TC r0 P base n ds (.block id c) Q env l) : TC r0 P base n ds (.block id c) Q env l := h
/-- Here: a look into a map. -/
theorem atMapUp {r : Option Nat} {P : Program} {base : World} {n : Nat} {ds : List Deferred} {Q : Exit → Act → World → Prop} {env : Env} {l : List HP} {all : Array Oper} {ro : List Oper} {dst : Option Tmp} {t : TypeId} {x y : Operand} {ok : Bool} {ty : TypeId} {pos : String} {af : Array Edge} {g : Option (Nat × Bool)} (h : TL r P base n ds all (⟨dst, .lookup t x y ok, ty, pos, af, g⟩ :: ro) Q env l) : TL r P base n ds all (⟨dst, .lookup t x y ok, ty, pos, af, g⟩ :: ro) Q env l := h
theorem ent_mapIcR {α : Type} {kk : IntKind} {V : α → Value} {b it k : Nat} {v : α} {m T : List (Nat × α)} {l r' : List HP} (hr : Rem l (MapIc kk V b m it T k v) r') : Ent l (MapIt kk V b m it T :: r') := fun _ y => ent_mapIc _ (hr.out y)
end Go.Sl
namespace Go.Proofs.Ytmiblmoppdgnjaa
open Go.Lk Go.Sl Go.Lf
attribute [local irreducible] TK TL TC Th Bk Nx fnPost WA TQ OpQ OpN SpecH Rd Ent IterH RoundH Rb Rp fnPostM
attribute [local irreducible] Lf.wo Lf.ins Lf.cntOf Lf.halveL Lf.lo Lf.hi Lf.useS Lf.useL Lf.useO
instance (Q : Nat → Int × Nat) : Width (fun i => ([.int .i64 (Q i).1, .int .u32 ((Q i).2 : Nat)] : List Value)) 2 := ⟨fun _ => rfl⟩
set_option maxHeartbeats 16000000 in
theorem lholds_law (size age : Int) (a : Option Addr) (n cap : Nat) (Q : Nat → Int × Nat) (hQ : ∀ i, i < n → (Q i).2 < 4294967296) : SpecH Try.prog 4 #[.int .i64 size, .int .i64 age, .slice a n cap] [RoS 2 a n cap (rows n fun i => [.int .i64 (Q i).1, .int .u32 ((Q i).2 : Nat)])] (fun _ : Unit => .bool true) (fun _ => []) := by
  by_cases hb : size < 1 ∨ 40 < size ∨ age < 0 ∨ 50 < age ∨ 120 < n
  · refine spec_of Try.func4 rfl Try.ntmps4 rfl [(0, _), (1, _), (2, _)] rfl ?_; intro base F l0 hl0; (try simp only [List.cons_append] at hl0); (try simp only [List.nil_append] at hl0); subst hl0
    repeat' (first | refine sty ?_ | refine And.intro ?_ ?_ | (intro e; exfalso; omega) | (intro e; subst e) | intro _)
    all_goals exact rt1 () rfl
  · obtain ⟨N, rfl⟩ : ∃ N : Nat, size = N := ⟨size.toNat, by omega⟩
    obtain ⟨A, rfl⟩ : ∃ A : Nat, age = A := ⟨age.toNat, by omega⟩
    refine spec_of Try.func4 rfl Try.ntmps4 rfl [(0, _), (1, _), (2, _)] rfl ?_; intro base F l0 hl0; (try simp only [List.cons_append] at hl0); (try simp only [List.nil_append] at hl0); subst hl0
    repeat' (first | refine sty ?_ | refine And.intro ?_ ?_ | (intro e; exfalso; omega) | (intro e; subst e) | intro _)
    rename_i p bw
    refine TC.weak (env' := [(10, .int .i64 (0 : Nat)), (9, .map (some bw)), (7, .pointer (some ⟨p, 0, none⟩)), (6, .bool false), (0, .int .i64 (N : Nat)), (1, .int .i64 (A : Nat)), (2, .slice a n cap)]) ?_ (by (repeat (first | exact Sub.nil | (apply Sub.cons; exact rfl))); done)
    refine tc_lp (ι := {x : Nat × (Nat × List It) × List (Nat × Nat) // x.1 ≤ n ∧ x.2.1.1 ≤ x.1 ∧ HI A x.1 x.2.1.2 x.2.2}) [10] (fun e x => (10, .int .i64 (x.1.1 : Nat)) :: e)
      (fun x => [LfuAt p N A x.1.2.1.1 x.1.2.1.2, MapA .u32 (fun z : Int => .int .i64 z) bw (IM x.1.2.2), RoS 2 a n cap (rows n fun i => [.int .i64 (Q i).1, .int .u32 ((Q i).2 : Nat)]), F]) (fun x => n - x.1.1) ⟨(0, (0, []), []), by omega, by simp, HI.nil⟩ ?_
    rintro K ⟨⟨i, ⟨req, l⟩, ov⟩, hi, hr, hI⟩ hK
    dsimp only at hi hr hI ⊢
    by_cases hc : i < n
    · have hk := hQ i hc
      refine LfuAt.factsC fun o s1 s2 s3 hkl => ?_
      repeat' (first | ((fail_if_success (refine atBlkH 2 ?_)); refine sty ?_) | refine And.intro ?_ ?_ | (intro e; exfalso; omega) | (intro e; subst e) | intro _)
      rename_i b11
      refine cut (ι := {y : (Nat × List It) × List (Nat × Nat) // y.1.1 ≤ i + 1 ∧ HI A (i + 1) y.1.2 y.2}) (fun _ => [(0, .int .i64 (N : Nat)), (1, .int .i64 (A : Nat)), (2, .slice a n cap), (6, .bool false), (7, .pointer (some ⟨p, 0, none⟩)), (9, .map (some bw)), (10, .int .i64 (i : Nat)), (11, .pointer (some ⟨b11, 0, none⟩))])
        (fun y => [obj b11 36 [.int .i64 (Q i).1, .int .u32 ((Q i).2 : Nat)], LfuAt p N A y.1.1.1 y.1.1.2, MapA .u32 (fun z : Int => .int .i64 z) bw (IM y.1.2), RoS 2 a n cap (rows n fun i => [.int .i64 (Q i).1, .int .u32 ((Q i).2 : Nat)]), F]) ?_ ?_
      · intro K2 hK2
        have hle : (useS N A (req, l) (Q i).2).1 ≤ req + 1 := by unfold useS; split <;> simp
        by_cases h0 : (Q i).1 = 0
        · obtain ⟨u1, u2, u3⟩ := hI.use (k := (Q i).2) (req := req) o s1 (by omega)
          repeat' (first | refine sty ?_ | refine And.intro ?_ ?_ | (intro e; exfalso; omega) | (intro e; subst e) | intro _)
          rename_i bm it
          refine tc_lp (ι := {x : List (Nat × Int) × List (Nat × Int) // (∀ q ∈ x.1, q ∈ IM ov) ∧ BI l (IM ov) x.1 x.2}) [] (fun e _ => e) (fun x => [MapIt .u32 (fun z : Int => .int .i64 z) bw (IM ov) it x.1.1, MapA .u32 (fun z : Int => .int .i64 z) bm x.1.2, obj b11 36 [.int .i64 (Q i).1, .int .u32 ((Q i).2 : Nat)], LfuAt p N A req l, RoS 2 a n cap (rows n fun i => [.int .i64 (Q i).1, .int .u32 ((Q i).2 : Nat)]), F]) (fun x => x.1.1.length) ⟨(IM ov, []), fun _ h => h, BI.start⟩ ?_
          rintro K3 ⟨⟨T, bf⟩, hT, hB⟩ hK3
          dsimp only at hT hB ⊢
          have hkn : (mkeys (IM ov)).Nodup := by
            have e : mkeys (IM ov) = mkeys ov := by unfold mkeys IM; rw [List.map_map]; rfl
            rw [e]; exact hI.kn
          have hin : ∀ k v, (k, v) ∈ IM ov → k ∈ ks l := fun k v h => by
            have h1 := mget_of_mem hkn h
            rw [im_get] at h1
            refine (hI.mem k).1 ?_
            cases hg : mget ov k with
            | none => rw [hg] at h1; cases h1
            | some q => rfl
          repeat' (first | refine sty ?_ | refine And.intro ?_ ?_ | (intro e; exfalso; omega) | (intro e; subst e) | intro _)
          refine tl_nextC (kk := .u32) (V := (fun z : Int => .int .i64 z)) (b := bw) (m := IM ov) (T := T) rfl (by (repeat (first | (with_reducible exact Rem.here _ _) | (with_reducible apply Rem.there) | fail)); done) (Nat.lt_of_ble_eq rfl) ?_ ?_ (by (first | exact want_none rfl | exact want_yes rfl rfl rfl rfl rfl | fail))
          · rintro rfl
            refine TL.ent (ent_mapIt (.here _ _)) ?_
            by_cases hks : (Q i).2 ∈ ks l
            · obtain ⟨q, q1, q2, q3, q4, q5, q6⟩ := hI.some_of o hks
              have q1' := im_some q1
              have hH : useH l (Q i).2 = true := decide_eq_true hks
              have hB2 : useB N l (Q i).2 = false := decide_eq_false (fun h => h.1 hks)
              have hO : useO N l (Q i).2 = 0 := by unfold useO; exact if_neg (fun h => h.1 hks)
              have hO' : ((useO N l (Q i).2 : Nat) : Int) = 0 := by rw [hO]; rfl
              have hu := u1 hks q q1
              have e : mput (IM ov) (Q i).2 ((q : Int) + 1) = IM (mput ov (Q i).2 (q + 1)) := im_put (n := q + 1)
              haveI : Known Try.prog 12 (SpecH Try.prog 12 #[.pointer (some ⟨p, 0, none⟩), .int .u32 ((Q i).2 : Nat)] [LfuAt p N A req l] (fun _ : Unit => .tuple #[.agg #[.bool true, .bool false, .int .u32 0], .int .i64 0]) (fun _ => [LfuAt p N A (useS N A (req, l) (Q i).2).1 (useS N A (req, l) (Q i).2).2])) := ⟨by
                have := lf_use.out p N A req l ((Q i).2 : Nat) (Q i).2 hk (by omega)
                rw [hH, hB2, hO'] at this; exact this⟩
              repeat' (first | refine sty ?_ | refine And.intro ?_ ?_ | (intro e; exfalso; omega) | (intro e; subst e) | intro _)
              rw [e]
              exact fin hK2 ⟨(useS N A (req, l) (Q i).2, mput ov (Q i).2 (q + 1)), by dsimp only; omega, hu⟩
            · have g1 := hI.none_of hks
              have g1' := im_none g1
              have hH : useH l (Q i).2 = false := decide_eq_false hks
              by_cases hfull : l.length = N
              · obtain ⟨u4, u5, u6, u7, u8⟩ := u3 hks hfull
                obtain ⟨uo, huo⟩ : ∃ uo, useO N l (Q i).2 = uo := ⟨_, rfl⟩
                rw [huo] at u4 u5 u6 u7 u8
                have hB2 : useB N l (Q i).2 = true := decide_eq_true ⟨hks, hfull⟩
                obtain ⟨q, q1, q2, q3, q4, q5, q6⟩ := hI.some_of o u5
                have hlen : (IM ov).length = N := by rw [im_len, hI.len, hfull]
                have hbo : mget bf uo = some ((cntOf l uo : Nat) : Int) := hB.done (by rw [im_some q1]; rfl)
                have e2 : mdel (IM ov) uo = IM (mdel ov uo) := im_del
                have g2 := im_none u7
                have e : mput (IM (mdel ov uo)) (Q i).2 (0 + 1) = IM (mput (mdel ov uo) (Q i).2 1) := im_put (n := 1)
                haveI : Known Try.prog 12 (SpecH Try.prog 12 #[.pointer (some ⟨p, 0, none⟩), .int .u32 ((Q i).2 : Nat)] [LfuAt p N A req l] (fun _ : Unit => .tuple #[.agg #[.bool false, .bool true, .int .u32 (uo : Nat)], .int .i64 0]) (fun _ => [LfuAt p N A (useS N A (req, l) (Q i).2).1 (useS N A (req, l) (Q i).2).2])) := ⟨by
                  have := lf_use.out p N A req l ((Q i).2 : Nat) (Q i).2 hk (by omega)
                  rw [hH, hB2, huo] at this; exact this⟩
                repeat' (first | refine sty ?_ | refine And.intro ?_ ?_ | (intro e; exfalso; omega) | (intro e; subst e) | intro _)
                rename_i b14 it2
                refine tc_lp (ι := {T : List (Nat × Int) // ∀ q ∈ T, q ∈ bf}) [] (fun e _ => e) (fun T => [MapIt .u32 (fun z : Int => .int .i64 z) bm bf it2 T.1, obj b14 30 [.bool false, .bool true, .int .u32 (uo : Nat)], LfuAt p N A (useS N A (req, l) (Q i).2).1 (useS N A (req, l) (Q i).2).2, MapA .u32 (fun z : Int => .int .i64 z) bw (IM ov), obj b11 36 [.int .i64 (Q i).1, .int .u32 ((Q i).2 : Nat)], RoS 2 a n cap (rows n fun i => [.int .i64 (Q i).1, .int .u32 ((Q i).2 : Nat)]), F]) (fun T => T.1.length) ⟨bf, fun _ h => h⟩ ?_
                rintro K4 ⟨T, hT2⟩ hK4
                dsimp only
                repeat' (first | refine sty ?_ | refine And.intro ?_ ?_ | (intro e; exfalso; omega) | (intro e; subst e) | intro _)
                refine tl_nextC (kk := .u32) (V := (fun z : Int => .int .i64 z)) (b := bm) (m := bf) (T := T) rfl (by (repeat (first | (with_reducible exact Rem.here _ _) | (with_reducible apply Rem.there) | fail)); done) (Nat.lt_of_ble_eq rfl) ?_ ?_ (by (first | exact want_none rfl | exact want_yes rfl rfl rfl rfl rfl | fail))
                · rintro rfl
                  refine TL.ent (ent_mapIt (.here _ _)) ?_
                  repeat' (first | ((fail_if_success (refine atMapUp ?_)); refine sty ?_) | refine And.intro ?_ ?_ | (intro e; exfalso; omega) | (intro e; subst e) | intro _)
                  rw [e2]
                  repeat' (first | refine sty ?_ | refine And.intro ?_ ?_ | (intro e; exfalso; omega) | (intro e; subst e) | intro _)
                  rw [e]
                  exact fin hK2 ⟨(useS N A (req, l) (Q i).2, mput (mdel ov uo) (Q i).2 1), by dsimp only; omega, u4⟩
                · intro k v hkv
                  have hv := mget_of_mem hB.nd (hT2 _ hkv)
                  obtain ⟨v1, v2⟩ := hB.of k v hv
                  have hmin := u8 k v1
                  have hlen : (T.filter fun q => q.1 != k).length < T.length := by
                    refine List.length_filter_lt_length_iff_exists.2 ⟨(k, v), hkv, by simp⟩
                  repeat' (first | refine sty ?_ | refine And.intro ?_ ?_ | (intro e; exfalso; omega) | (intro e; subst e) | intro _)
                  refine tl_q (opq_entry (by (first | exact want_none rfl | exact want_yes rfl rfl rfl rfl rfl | fail)) rfl (by (repeat (first | (with_reducible exact Rem.here _ _) | (with_reducible apply Rem.there) | fail)); done)) rfl (Nat.lt_of_ble_eq rfl) ?_
                  refine TL.ent ent_mapIc ?_
                  repeat' (first | refine sty ?_ | refine And.intro ?_ ?_ | (intro e; exfalso; omega) | (intro e; subst e) | intro _)
                  exact again hK4 ⟨T.filter fun q => q.1 != k, fun q hq => hT2 q (List.mem_filter.1 hq).1⟩
              · have hB2 : useB N l (Q i).2 = false := decide_eq_false (fun h => hfull h.2)
                have hO' : ((useO N l (Q i).2 : Nat) : Int) = 0 := by
                  have : useO N l (Q i).2 = 0 := by unfold useO; exact if_neg (fun h => hfull h.2)
                  rw [this]; rfl
                have hu := u2 hks hfull
                have e : mput (IM ov) (Q i).2 (0 + 1) = IM (mput ov (Q i).2 1) := im_put (n := 1)
                haveI : Known Try.prog 12 (SpecH Try.prog 12 #[.pointer (some ⟨p, 0, none⟩), .int .u32 ((Q i).2 : Nat)] [LfuAt p N A req l] (fun _ : Unit => .tuple #[.agg #[.bool false, .bool false, .int .u32 0], .int .i64 0]) (fun _ => [LfuAt p N A (useS N A (req, l) (Q i).2).1 (useS N A (req, l) (Q i).2).2])) := ⟨by
                  have := lf_use.out p N A req l ((Q i).2 : Nat) (Q i).2 hk (by omega)
                  rw [hH, hB2, hO'] at this; exact this⟩
                repeat' (first | refine sty ?_ | refine And.intro ?_ ?_ | (intro e; exfalso; omega) | (intro e; subst e) | intro _)
                rw [e]
                exact fin hK2 ⟨(useS N A (req, l) (Q i).2, mput ov (Q i).2 1), by dsimp only; omega, hu⟩
          · intro k v hkv
            have hkl2 := hin k v (hT _ hkv)
            have hlen : (T.filter fun q => q.1 != k).length < T.length := by
              refine List.length_filter_lt_length_iff_exists.2 ⟨(k, v), hkv, by simp⟩
            repeat' (first | refine sty ?_ | refine And.intro ?_ ?_ | (intro e; exfalso; omega) | (intro e; subst e) | intro _)
            refine tl_q (opq_entry (by (first | exact want_none rfl | exact want_yes rfl rfl rfl rfl rfl | fail)) rfl (by (repeat (first | (with_reducible exact Rem.here _ _) | (with_reducible apply Rem.there) | fail)); done)) rfl (Nat.lt_of_ble_eq rfl) ?_
            repeat' (first | refine sty ?_ | refine And.intro ?_ ?_ | (intro e; exfalso; omega) | (intro e; subst e) | intro _)
            refine again hK3 ⟨(T.filter fun q => q.1 != k, mput bf k ((cntOf l k : Nat) : Int)), fun q hq => hT q (List.mem_filter.1 hq).1, hB.step hkl2⟩ (he := ?_)
            exact (ent_mapIcR (by (repeat (first | (with_reducible exact Rem.here _ _) | (with_reducible apply Rem.there) | fail)); done)).trans en
        · by_cases h1 : (Q i).1 = 1
          · have hd := hI.drop (k := (Q i).2) o
            have e : mdel (IM ov) (Q i).2 = IM (mdel ov (Q i).2) := im_del
            by_cases hks : (Q i).2 ∈ ks l
            · obtain ⟨q, q1, q2, q3, q4, q5, q6⟩ := hI.some_of o hks
              have q1' := im_some q1
              haveI : Known Try.prog 13 (SpecH Try.prog 13 #[.pointer (some ⟨p, 0, none⟩), .int .u32 ((Q i).2 : Nat)] [LfuAt p N A req l] (fun _ : Unit => .tuple #[.bool true, .int .i64 0]) (fun _ => [LfuAt p N A req (Lf.wo l (Q i).2)])) := ⟨by
                have := lf_drop.out p N A req l ((Q i).2 : Nat) (Q i).2
                rw [show decide ((0 : Int) < (cntOf l (Q i).2 : Nat)) = true from decide_eq_true (by omega)] at this; exact this⟩
              repeat' (first | refine sty ?_ | refine And.intro ?_ ?_ | (intro e; exfalso; omega) | (intro e; subst e) | intro _)
              rw [e]
              exact fin hK2 ⟨((req, Lf.wo l (Q i).2), mdel ov (Q i).2), by dsimp only; omega, hd⟩
            · have g1' := im_none (hI.none_of hks)
              have hc0 := cntOf_not hks
              haveI : Known Try.prog 13 (SpecH Try.prog 13 #[.pointer (some ⟨p, 0, none⟩), .int .u32 ((Q i).2 : Nat)] [LfuAt p N A req l] (fun _ : Unit => .tuple #[.bool false, .int .i64 0]) (fun _ => [LfuAt p N A req (Lf.wo l (Q i).2)])) := ⟨by
                have := lf_drop.out p N A req l ((Q i).2 : Nat) (Q i).2
                rw [show decide ((0 : Int) < (cntOf l (Q i).2 : Nat)) = false from decide_eq_false (by omega)] at this; exact this⟩
              repeat' (first | refine sty ?_ | refine And.intro ?_ ?_ | (intro e; exfalso; omega) | (intro e; subst e) | intro _)
              rw [e]
              exact fin hK2 ⟨((req, Lf.wo l (Q i).2), mdel ov (Q i).2), by dsimp only; omega, hd⟩
          · repeat' (first | refine sty ?_ | refine And.intro ?_ ?_ | (intro e; exfalso; omega) | (intro e; subst e) | intro _)
            exact fin hK2 ⟨((req, l), ov), by dsimp only; omega, hI.later⟩
      · rintro ⟨⟨⟨req, l⟩, ov⟩, hr2, hI⟩
        dsimp only at hr2 hI ⊢
        refine LfuAt.facts fun o s1 s2 s3 hkl => ?_
        have hll := o.len
        have hil : (IM ov).length = l.length := by rw [im_len, hI.len]
        have hkl3 : (ks l).length = l.length := List.length_map _
        repeat' (first | refine sty ?_ | refine And.intro ?_ ?_ | (intro e; exfalso; omega) | (intro e; subst e) | intro _)
        rename_i a19 c19
        refine tc_lp (ι := {k : Nat // k ≤ l.length}) [20] (fun e k => (20, .int .i64 (k.1 : Nat)) :: e) (fun _ => [Vec 28 1 a19 l.length c19 (u32s (ks l)), obj b11 36 [.int .i64 (Q i).1, .int .u32 ((Q i).2 : Nat)], LfuAt p N A req l, MapA .u32 (fun z : Int => .int .i64 z) bw (IM ov), RoS 2 a n cap (rows n fun i => [.int .i64 (Q i).1, .int .u32 ((Q i).2 : Nat)]), F]) (fun k => l.length - k.1) ⟨0, by omega⟩ ?_
        rintro K3 ⟨k, hk2⟩ hK3
        dsimp only
        by_cases hkc : k < l.length
        · have hgk : (ks l).getD k 0 = l[k].1 := by rw [List.getD_eq_getElem?_getD, List.getElem?_eq_getElem (by omega)]; simp
          have hmk : (ks l).getD k 0 ∈ ks l := by rw [hgk]; exact List.mem_map.2 ⟨_, List.getElem_mem hkc, rfl⟩
          obtain ⟨q, q1, q2, q3, q4, q5, q6⟩ := hI.some_of o hmk
          have q1' := im_some q1
          have hck : cntOf l ((ks l).getD k 0) = l[k].2 := by rw [hgk]; exact cntOf_mem o.nd (List.getElem_mem hkc)
          rcases Nat.eq_zero_or_pos k with k0 | k0
          · rcases Nat.eq_zero_or_pos A with hA | hA
            · have q7 := q5 hA
              repeat' (first | refine sty ?_ | refine And.intro ?_ ?_ | (intro e; exfalso; omega) | (intro e; subst e) | intro _)
              exact again hK3 ⟨k + 1, by omega⟩
            · repeat' (first | refine sty ?_ | refine And.intro ?_ ?_ | (intro e; exfalso; omega) | (intro e; subst e) | intro _)
              exact again hK3 ⟨k + 1, by omega⟩
          · have hgj : (ks l).getD (k - 1) 0 = (l[k - 1]'(by omega)).1 := by rw [List.getD_eq_getElem?_getD, List.getElem?_eq_getElem (by omega)]; simp
            have hcj : cntOf l ((ks l).getD (k - 1) 0) = (l[k - 1]'(by omega)).2 := by rw [hgj]; exact cntOf_mem o.nd (List.getElem_mem _)
            have hle : (l[k - 1]'(by omega)).2 ≤ l[k].2 := List.pairwise_iff_getElem.1 o.srt (k - 1) k (by omega) hkc (by omega)
            rcases Nat.eq_zero_or_pos A with hA | hA
            · have q7 := q5 hA
              repeat' (first | refine sty ?_ | refine And.intro ?_ ?_ | (intro e; exfalso; omega) | (intro e; subst e) | intro _)
              exact again hK3 ⟨k + 1, by omega⟩
            · repeat' (first | refine sty ?_ | refine And.intro ?_ ?_ | (intro e; exfalso; omega) | (intro e; subst e) | intro _)
              exact again hK3 ⟨k + 1, by omega⟩
        · obtain rfl : k = l.length := by omega
          repeat' (first | refine sty ?_ | refine And.intro ?_ ?_ | (intro e; exfalso; omega) | (intro e; subst e) | intro _)
          exact again hK ⟨(i + 1, (req, l), ov), by omega, hr2, hI⟩
    · repeat' (first | refine sty ?_ | refine And.intro ?_ ?_ | (intro e; exfalso; omega) | (intro e; subst e) | intro _)
      exact rt1 () rfl
end Go.Proofs.Ytmiblmoppdgnjaa
