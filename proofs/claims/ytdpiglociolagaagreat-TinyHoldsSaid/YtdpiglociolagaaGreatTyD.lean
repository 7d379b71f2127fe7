/- TyD: TyW12, TySt, TyW13, TySeg, TyW14, TyUse, TyW15. -/
import Derived.Test.YtdpiglociolagaaGreatTyC
import Derived.Test.YtdpiglociolagaaGreatGhA
import Derived.Test.YtdpiglociolagaaGreatSlClone
import Derived.Test.YtdpiglociolagaaGreatSgA
/- tiny, walked: its table of slots. -/
namespace Go.Proofs.YtdpiglociolagaaGreat
open Go.Lk Go.Sl Go.Tb Go.Ty
theorem snocT {A : List Nat} {x : Nat} : u32s (A ++ [x]) = u32s A ++ [.int .u32 (x : Nat)] := by simp [u32s]
theorem ent_vecCutT {l r : List HP} {E b m cap : Nat} {L : List Nat} {z : Nat} (hr : Rem l (Vec E 1 (some ⟨b, 0, none⟩) (m + 1) cap (u32s (L ++ [z]))) r) : Ent l (Vec E 1 (some ⟨b, 0, none⟩) m cap (u32s L) :: r) := fun h x => by
  have y := hr.out x
  rw [snocT] at y
  rcases lst_vec y with ⟨h0, _⟩ | ⟨b', junk, e, h1, h2, h3, h4⟩
  · cases h0
  obtain rfl : b = b' := by simpa using e
  simp only [List.length_append, List.length_cons, List.length_nil] at h2 h3
  refine lst_vec_mk (junk := .int .u32 (z : Nat) :: junk) (by omega) (by omega) (by simp; omega) ?_
  rw [show u32s L ++ Value.int .u32 (z : Nat) :: junk = u32s L ++ [.int .u32 (z : Nat)] ++ junk by simp]
  exact h4
attribute [local irreducible] TK TL TC Th Bk Nx fnPost WA TQ OpQ OpN SpecH Rd Ent IterH RoundH Rb Rp fnPostM
set_option maxHeartbeats 4000000 in
instance ty_tadd : Known Tryz.prog 34 (∀ (p size bm aK cK : Nat) (af : Option Addr) (cf z k : Nat) (kv : List (Nat × Nat)) (K r : List Nat) (v0 v1 v5 v6 v7 v8 v9 v10 : Value), z < size → K.length = size → size ≤ 1025 → r.length < 1025 → k < 4294967296 → SpecH Tryz.prog 34 #[.pointer (some ⟨p, 2, none⟩), .int .u32 (k : Nat)] [obj p 76 [v0, v1, .map (some bm), .slice (some ⟨aK, 0, none⟩) size cK, .slice af (r.length + 1) cf, v5, v6, v7, v8, v9, v10], MapA .u32 (fun n : Nat => .int .u32 (n : Nat)) bm kv, Vec 41 1 (some ⟨aK, 0, none⟩) size cK (u32s K), Vec 41 1 af (r.length + 1) cf (u32s (r ++ [z]))] (fun _ : Unit => .int .u32 (z : Nat)) (fun _ => [obj p 76 [v0, v1, .map (some bm), .slice (some ⟨aK, 0, none⟩) size cK, .slice af r.length cf, v5, v6, v7, v8, v9, v10], MapA .u32 (fun n : Nat => .int .u32 (n : Nat)) bm (mput kv k z), Vec 41 1 (some ⟨aK, 0, none⟩) size cK (u32s (K.set z k)), Vec 41 1 af r.length cf (u32s r)])) := ⟨fun p size bm aK cK af cf z k kv K r v0 v1 v5 v6 v7 v8 v9 v10 hz hK hs hr hk => by
  refine spec_of Tryz.func34 rfl Tryz.ntmps34 rfl [(0, _), (1, _)] rfl ?_; intro base F l0 hl0; (try simp only [List.cons_append] at hl0); (try simp only [List.nil_append] at hl0); subst hl0
  refine TC.vecAt (a := af) (by (repeat (first | (with_reducible exact Rem.here _ _) | (with_reducible apply Rem.there) | fail)); done) (by omega) ?_
  rintro ⟨af, rfl⟩
  refine TC.vecLen (E := 41) (sz := 1) (a := some ⟨af, 0, none⟩) (k := r.length + 1) (cap := cf) (cs := u32s (r ++ [z])) (by (repeat (first | (with_reducible exact Rem.here _ _) | (with_reducible apply Rem.there) | fail)); done) fun hvl => ?_
  have hcap := hvl.2
  have hl : (r ++ [z]).length = r.length + 1 := by simp
  have hg : (r ++ [z]).getD r.length 0 = z := by simp
  haveI : AsNat (((r.length + 1 : Nat) : Int) - 1) r.length := ⟨fun _ => by omega⟩
  repeat' (first | refine sts ?_ | refine And.intro ?_ ?_ | (intro e; exfalso; omega) | (intro e; subst e) | intro _)
  refine tl_q (opq_sliceHi (by (first | exact want_none rfl | exact want_yes rfl rfl rfl rfl rfl | fail)) rfl rfl (by omega) (by omega)) rfl (Nat.lt_of_ble_eq rfl) ?_
  rw [show (((r.length + 1 : Nat) : Int) - 1).toNat = r.length by omega, show slA (some (⟨af, 0, none⟩ : Addr)) cf 0 1 = some ⟨af, 0, none⟩ by unfold slA; split <;> rfl]
  repeat' (first | ((fail_if_success (refine atD ?_)); refine sts ?_) | refine And.intro ?_ ?_ | (intro e; exfalso; omega) | (intro e; subst e) | intro _)
  rw [hg]
  refine drx [Vec 41 1 (some ⟨aK, 0, none⟩) size cK (u32s K), MapA .u32 (fun n : Nat => .int .u32 (n : Nat)) bm kv] ?_
  refine tks [0, 4, 5, 9, 10, 11, 1, 6, 2, 7, 3, 8] 5 ?_; repeat' (first | refine sts ?_ | refine And.intro ?_ ?_ | (intro e; exfalso; omega) | (intro e; subst e) | intro _)
  refine hvm 12 fun x12 => ?_
  refine tks [13] 3 ?_; repeat' (first | refine sts ?_ | refine And.intro ?_ ?_ | (intro e; exfalso; omega) | (intro e; subst e) | intro _)
  refine hvm0 14 fun x14 => ?_
  refine tks [15] 1 ?_; repeat' (first | refine sts ?_ | refine And.intro ?_ ?_ | (intro e; exfalso; omega) | (intro e; subst e) | intro _)
  refine hv0 16 fun x16 => ?_
  repeat' (first | refine sts ?_ | refine And.intro ?_ ?_ | (intro e; exfalso; omega) | (intro e; subst e) | intro _)
  refine TK.ent (ent_vecCutT (by (repeat (first | (with_reducible exact Rem.here _ _) | (with_reducible apply Rem.there) | fail)); done)) ?_
  exact rt1 () rfl⟩
set_option maxHeartbeats 4000000 in
instance ty_trem : Known Tryz.prog 40 (∀ (p size bm aK cK : Nat) (af : Option Addr) (cf z k : Nat) (kv : List (Nat × Nat)) (fr : List Nat) (v0 v1 v5 v6 v7 v8 v9 v10 : Value), mget kv k = some z → z < 1025 → fr.length ≤ 1025 → SpecH Tryz.prog 40 #[.pointer (some ⟨p, 2, none⟩), .int .u32 (k : Nat)] [obj p 76 [v0, v1, .map (some bm), .slice (some ⟨aK, 0, none⟩) size cK, .slice af fr.length cf, v5, v6, v7, v8, v9, v10], MapA .u32 (fun n : Nat => .int .u32 (n : Nat)) bm kv, Vec 41 1 af fr.length cf (u32s fr)] (fun _ : Option Addr × Nat => .tuple #[]) (fun q => [obj p 76 [v0, v1, .map (some bm), .slice (some ⟨aK, 0, none⟩) size cK, .slice q.1 (fr.length + 1) q.2, v5, v6, v7, v8, v9, v10], MapA .u32 (fun n : Nat => .int .u32 (n : Nat)) bm (mdel kv k), Vec 41 1 q.1 (fr.length + 1) q.2 (u32s (fr ++ [z]))])) := ⟨fun p size bm aK cK af cf z k kv fr v0 v1 v5 v6 v7 v8 v9 v10 hg hz hf => by
  refine spec_of Tryz.func40 rfl Tryz.ntmps40 rfl [(0, _), (1, _)] rfl ?_; intro base F l0 hl0; (try simp only [List.cons_append] at hl0); (try simp only [List.nil_append] at hl0); subst hl0
  refine TC.vecLen (E := 41) (sz := 1) (a := af) (k := fr.length) (cap := cf) (cs := u32s fr) (by (repeat (first | (with_reducible exact Rem.here _ _) | (with_reducible apply Rem.there) | fail)); done) fun hvl => ?_
  have hcap := hvl.2
  repeat' (first | ((fail_if_success (refine atD ?_)); refine sts ?_) | refine And.intro ?_ ?_ | (intro e; exfalso; omega) | (intro e; subst e) | intro _)
  refine drx [obj p 76 [v0, v1, .map (some bm), .slice (some ⟨aK, 0, none⟩) size cK, .slice af fr.length cf, v5, v6, v7, v8, v9, v10], Vec 41 1 af fr.length cf (u32s fr)] ?_
  refine tks [0, 1, 5, 9, 2, 6, 3, 7] 8 ?_; repeat' (first | refine sts ?_ | refine And.intro ?_ ?_ | (intro e; exfalso; omega) | (intro e; subst e) | intro _)
  refine hvB 4 8 (fun _ => ?_) (fun _ => ?_)
  · refine hvr 8 ?_
    refine hvr 10 ?_
    refine hv 11 fun x11 => ?_
    refine hv 12 fun x12 => ?_; refine tks [13, 14] 1 ?_; (repeat' (first | refine sts ?_ | refine And.intro ?_ ?_ | (intro e; exfalso; omega) | (intro e; subst e) | intro _)); refine hv0 15 fun x15 => ?_; (repeat' (first | refine sts ?_ | refine And.intro ?_ ?_ | (intro e; exfalso; omega) | (intro e; subst e) | intro _)); rw [← snocT]; exact re0 (x12.1, x12.2) rfl
  · refine hvB 4 10 (fun _ => ?_) (fun _ => ?_)
    · refine hvr 10 ?_
      refine hv 11 fun x11 => ?_
      refine hv 12 fun x12 => ?_; refine tks [13, 14] 1 ?_; (repeat' (first | refine sts ?_ | refine And.intro ?_ ?_ | (intro e; exfalso; omega) | (intro e; subst e) | intro _)); refine hv0 15 fun x15 => ?_; (repeat' (first | refine sts ?_ | refine And.intro ?_ ?_ | (intro e; exfalso; omega) | (intro e; subst e) | intro _)); rw [← snocT]; exact re0 (x12.1, x12.2) rfl
    · refine hvB 4 11 (fun _ => ?_) (fun x11 => ?_)
      · refine hv 11 fun x11 => ?_
        refine hv 12 fun x12 => ?_; refine tks [13, 14] 1 ?_; (repeat' (first | refine sts ?_ | refine And.intro ?_ ?_ | (intro e; exfalso; omega) | (intro e; subst e) | intro _)); refine hv0 15 fun x15 => ?_; (repeat' (first | refine sts ?_ | refine And.intro ?_ ?_ | (intro e; exfalso; omega) | (intro e; subst e) | intro _)); rw [← snocT]; exact re0 (x12.1, x12.2) rfl
      · refine hvr 4 ?_
        refine hv 12 fun x12 => ?_; refine tks [13, 14] 1 ?_; (repeat' (first | refine sts ?_ | refine And.intro ?_ ?_ | (intro e; exfalso; omega) | (intro e; subst e) | intro _)); refine hv0 15 fun x15 => ?_; (repeat' (first | refine sts ?_ | refine And.intro ?_ ?_ | (intro e; exfalso; omega) | (intro e; subst e) | intro _)); rw [← snocT]; exact re0 (x12.1, x12.2) rfl⟩
end Go.Proofs.YtdpiglociolagaaGreat

/- A window before two segments of slots that cost one, plainly. No program, no condition. -/
namespace Go.Ty
open Go.Lk Go.Sl Go.Tb
def ones (L : List Nat) : List Sg.It := L.map fun z => (z, 1)
section
variable {L M : List Nat} {z y : Nat}
theorem ones_app : ones (L ++ M) = ones L ++ ones M := List.map_append
theorem ones_len : (ones L).length = L.length := List.length_map _
theorem sl_ones : Sg.sl (ones L) = L := by unfold Sg.sl ones; rw [List.map_map]; exact (List.map_congr_left fun _ _ => rfl).trans (List.map_id L)
theorem sm_ones : ∀ {L : List Nat}, Sg.sm (ones L) = L.length
  | [] => rfl
  | z :: L => by show 1 + Sg.sm (ones L) = L.length + 1; rw [sm_ones]; omega
theorem rm_ones (h : L.Nodup) : Sg.rm (ones L) z = ones (L.erase z) := by
  rw [h.erase_eq_filter]
  unfold Sg.rm ones
  rw [List.filter_map]; rfl
theorem ones_take {n : Nat} : (ones L).take n = ones (L.take n) := by unfold ones; rw [List.map_take]
theorem ones_drop {n : Nat} : (ones L).drop n = ones (L.drop n) := by unfold ones; rw [List.map_drop]
theorem ones_getD {i : Nat} (h : i < L.length) : (ones L).getD i (0, 0) = (L.getD i 0, 1) := by
  unfold ones
  rw [List.getD_eq_getElem?_getD, List.getElem?_map, List.getD_eq_getElem?_getD, List.getElem?_eq_getElem h]; rfl
theorem need_ones {lim : Nat} : Sg.need (lim : Int) (ones L) ↔ lim < L.length := by
  unfold Sg.need
  rw [sm_ones]
  constructor
  · rintro ⟨_, h | h⟩
    · omega
    · omega
  · intro h
    refine ⟨fun e => ?_, .inr (by omega)⟩
    have := congrArg List.length e
    rw [ones_len] at this
    simp at this; subst this; simp at h
theorem dem_ones {lim : Nat} : ∀ {L : List Nat}, Sg.demN (lim : Int) (ones L) = L.length - lim
  | [] => by simp [ones, Sg.demN]
  | z :: L => by
    show (if Sg.need (lim : Int) (ones (z :: L)) then Sg.demN (lim : Int) (ones L) + 1 else 0) = L.length + 1 - lim
    by_cases h : lim < (z :: L).length
    · rw [if_pos (need_ones.2 h), dem_ones]
      rw [List.length_cons] at h; omega
    · rw [if_neg (fun x => h (need_ones.1 x))]
      rw [List.length_cons] at h; omega
end
structure St where
  W : List Nat
  A : List Nat
  B : List Nat
structure Ok (size most lim : Nat) (W A B : List Nat) : Prop where
  s2 : 2 ≤ size
  s3 : size ≤ 1024
  m1 : 1 ≤ most
  m2 : most < size
  l1 : lim ≤ size - most
  w : W.length ≤ most
  ab : A.length + B.length ≤ size - most
  b : B.length ≤ lim
def atL (n other : Nat) : Nat := if h : 0 < n ∧ n < other then atL (2 * n) other else n
termination_by other - n
theorem atL_yes {n other : Nat} (h : 0 < n ∧ n < other) : atL n other = atL (2 * n) other := by rw [atL, dif_pos h]
theorem atL_no {n other : Nat} (h : ¬ n < other) : atL n other = n := by rw [atL, dif_neg (fun x => h x.2)]
theorem atL_pow : ∀ (d n other e : Nat), other - n ≤ d → n = 2 ^ e → ∃ e', e ≤ e' ∧ atL n other = 2 ^ e' ∧ (2 ^ e' = n ∨ 2 ^ e' < 2 * other)
  | 0, n, other, e, hd, hn => ⟨e, Nat.le_refl _, (atL_no (by omega)).trans hn, .inl hn.symm⟩
  | d + 1, n, other, e, hd, hn => by
    have hp : 0 < n := by rw [hn]; exact Nat.pow_pos (by decide)
    by_cases h : n < other
    · obtain ⟨e', h1, h2, h3⟩ := atL_pow d (2 * n) other (e + 1) (by omega) (by rw [hn, Nat.pow_succ]; omega)
      refine ⟨e', by omega, by rw [atL_yes ⟨hp, h⟩, h2], .inr ?_⟩
      rcases h3 with h3 | h3
      · omega
      · exact h3
    · exact ⟨e, Nat.le_refl _, (atL_no h).trans hn, .inl hn.symm⟩
theorem pow_bound {e b : Nat} (h : 2 ^ e ≤ 2 ^ b) : e ≤ b := by
  rcases Nat.lt_or_ge b e with x | x
  · have : (2 : Nat) ^ b < 2 ^ e := Nat.pow_lt_pow_right (by decide) x
    omega
  · exact x
theorem width_ok {size : Nat} (h : size ≤ 1024) : ∃ e, 4 ≤ e ∧ e ≤ 16 ∧ atL 16 size = 2 ^ e := by
  obtain ⟨e, h1, h2, h3⟩ := atL_pow size 16 size 4 (by omega) rfl
  refine ⟨e, h1, pow_bound (b := 16) ?_, h2⟩
  have c : (2 : Nat) ^ 16 = 65536 := rfl
  omega
theorem bits_ok {size : Nat} (h : size ≤ 1024) : ∃ e, 6 ≤ e ∧ e ≤ 20 ∧ atL 64 (8 * size) = 2 ^ e := by
  obtain ⟨e, h1, h2, h3⟩ := atL_pow (8 * size) 64 (8 * size) 6 (by omega) rfl
  refine ⟨e, h1, pow_bound (b := 20) ?_, h2⟩
  have c : (2 : Nat) ^ 20 = 1048576 := rfl
  omega
end Go.Ty

/- tiny, walked: a cache; new tables, copies of tables. -/
namespace Go.Ty
open Go.Lk Go.Sl Go.Tb Go.Lr Go.Proofs.YtdpiglociolagaaGreat
structure TyS where
  kv : List (Nat × Nat)
  K : List Nat
  fr : List Nat
  Lw : List Nat
  Lp : List Nat
  Lt : List Nat
  bm : Nat
  aK : Nat
  cK : Nat
  af : Option Addr
  cf : Nat
  pw : Nat
  pm : Nat
  sk : Nat
  fl : Nat
def TinyAt (p size most lim w : Nat) (seed : BitVec 64) (W A B : List Nat) (m : Mem) : HP := Exs (ι := TyS) fun q => [fact (Thr (size + 1) W A B q.kv q.K q.fr q.Lw q.Lp q.Lt ∧ Ty.Ok size most lim W A B ∧ m.req < 10 * size), obj p 76 [.int .i64 (size : Nat), .int .i64 (most : Nat), .map (some q.bm), .slice (some ⟨q.aK, 0, none⟩) (size + 1) q.cK, .slice q.af q.fr.length q.cf, .pointer (some ⟨q.pw, 0, none⟩), .pointer (some ⟨q.pm, 0, none⟩), .pointer (some ⟨q.sk, 0, none⟩), .pointer (some ⟨q.fl, 0, none⟩), .int .i64 (m.req : Nat), .int .i64 (10 * size : Nat)], MapA .u32 (fun n : Nat => .int .u32 (n : Nat)) q.bm q.kv, Vec 41 1 (some ⟨q.aK, 0, none⟩) (size + 1) q.cK (u32s q.K), Vec 41 1 q.af q.fr.length q.cf (u32s q.fr), LruAt q.pw q.Lw, Sg.SegAt q.pm (ones q.Lp) (ones q.Lt) (lim : Int), MemX q.sk q.fl seed w m]
section
variable {r0 : Option Nat} {P : Program} {base : World} {n : Nat} {ds : List Deferred} {X : Exit → Act → World → Prop} {env : Env} {l r : List HP} {KK : Act → World → Prop} {c : Code} {all : Array Oper} {ro : List Oper} {p size most lim w : Nat} {seed : BitVec 64} {W A B : List Nat} {m : Mem}
theorem TinyAt.openK (h : ∀ (kv : List (Nat × Nat)) (K fr Lw Lp Lt : List Nat) (bm aK cK : Nat) (af : Option Addr) (cf pw pm sk fl : Nat), Thr (size + 1) W A B kv K fr Lw Lp Lt → Ty.Ok size most lim W A B → m.req < 10 * size → TK base n ds KK env (obj p 76 [.int .i64 (size : Nat), .int .i64 (most : Nat), .map (some bm), .slice (some ⟨aK, 0, none⟩) (size + 1) cK, .slice af fr.length cf, .pointer (some ⟨pw, 0, none⟩), .pointer (some ⟨pm, 0, none⟩), .pointer (some ⟨sk, 0, none⟩), .pointer (some ⟨fl, 0, none⟩), .int .i64 (m.req : Nat), .int .i64 (10 * size : Nat)] :: MapA .u32 (fun n : Nat => .int .u32 (n : Nat)) bm kv :: Vec 41 1 (some ⟨aK, 0, none⟩) (size + 1) cK (u32s K) :: Vec 41 1 af fr.length cf (u32s fr) :: LruAt pw Lw :: Sg.SegAt pm (ones Lp) (ones Lt) (lim : Int) :: MemX sk fl seed w m :: r)) (hr : Rem l (TinyAt p size most lim w seed W A B m) r := by (repeat (first | (with_reducible exact Rem.here _ _) | (with_reducible apply Rem.there) | fail)); done) : TK base n ds KK env l := by
  unfold TinyAt at hr
  refine TK.exs hr fun ⟨kv, K, fr, Lw, Lp, Lt, bm, aK, cK, af, cf, pw, pm, sk, fl⟩ => ?_
  refine TK.fact fun ⟨h1, h2, h3⟩ => ?_
  exact h kv K fr Lw Lp Lt bm aK cK af cf pw pm sk fl h1 h2 h3
theorem TinyAt.openC (h : ∀ (kv : List (Nat × Nat)) (K fr Lw Lp Lt : List Nat) (bm aK cK : Nat) (af : Option Addr) (cf pw pm sk fl : Nat), Thr (size + 1) W A B kv K fr Lw Lp Lt → Ty.Ok size most lim W A B → m.req < 10 * size → TC r0 P base n ds c X env (obj p 76 [.int .i64 (size : Nat), .int .i64 (most : Nat), .map (some bm), .slice (some ⟨aK, 0, none⟩) (size + 1) cK, .slice af fr.length cf, .pointer (some ⟨pw, 0, none⟩), .pointer (some ⟨pm, 0, none⟩), .pointer (some ⟨sk, 0, none⟩), .pointer (some ⟨fl, 0, none⟩), .int .i64 (m.req : Nat), .int .i64 (10 * size : Nat)] :: MapA .u32 (fun n : Nat => .int .u32 (n : Nat)) bm kv :: Vec 41 1 (some ⟨aK, 0, none⟩) (size + 1) cK (u32s K) :: Vec 41 1 af fr.length cf (u32s fr) :: LruAt pw Lw :: Sg.SegAt pm (ones Lp) (ones Lt) (lim : Int) :: MemX sk fl seed w m :: r)) (hr : Rem l (TinyAt p size most lim w seed W A B m) r := by (repeat (first | (with_reducible exact Rem.here _ _) | (with_reducible apply Rem.there) | fail)); done) : TC r0 P base n ds c X env l := TinyAt.openK h hr
theorem TinyAt.openL (h : ∀ (kv : List (Nat × Nat)) (K fr Lw Lp Lt : List Nat) (bm aK cK : Nat) (af : Option Addr) (cf pw pm sk fl : Nat), Thr (size + 1) W A B kv K fr Lw Lp Lt → Ty.Ok size most lim W A B → m.req < 10 * size → TL r0 P base n ds all ro X env (obj p 76 [.int .i64 (size : Nat), .int .i64 (most : Nat), .map (some bm), .slice (some ⟨aK, 0, none⟩) (size + 1) cK, .slice af fr.length cf, .pointer (some ⟨pw, 0, none⟩), .pointer (some ⟨pm, 0, none⟩), .pointer (some ⟨sk, 0, none⟩), .pointer (some ⟨fl, 0, none⟩), .int .i64 (m.req : Nat), .int .i64 (10 * size : Nat)] :: MapA .u32 (fun n : Nat => .int .u32 (n : Nat)) bm kv :: Vec 41 1 (some ⟨aK, 0, none⟩) (size + 1) cK (u32s K) :: Vec 41 1 af fr.length cf (u32s fr) :: LruAt pw Lw :: Sg.SegAt pm (ones Lp) (ones Lt) (lim : Int) :: MemX sk fl seed w m :: r)) (hr : Rem l (TinyAt p size most lim w seed W A B m) r := by (repeat (first | (with_reducible exact Rem.here _ _) | (with_reducible apply Rem.there) | fail)); done) : TL r0 P base n ds all ro X env l := TinyAt.openK h hr
theorem TinyAt.shutN {kv : List (Nat × Nat)} {K fr Lw Lp Lt : List Nat} {bm aK cK : Nat} {af : Option Addr} {cf pw pm sk fl nf : Nat} {zr : Int} (t : Thr (size + 1) W A B kv K fr Lw Lp Lt) (o : Ty.Ok size most lim W A B) (h : m.req < 10 * size) (hn : nf = fr.length) (hz : zr = (m.req : Nat)) : Ent (obj p 76 [.int .i64 (size : Nat), .int .i64 (most : Nat), .map (some bm), .slice (some ⟨aK, 0, none⟩) (size + 1) cK, .slice af nf cf, .pointer (some ⟨pw, 0, none⟩), .pointer (some ⟨pm, 0, none⟩), .pointer (some ⟨sk, 0, none⟩), .pointer (some ⟨fl, 0, none⟩), .int .i64 zr, .int .i64 (10 * size : Nat)] :: MapA .u32 (fun n : Nat => .int .u32 (n : Nat)) bm kv :: Vec 41 1 (some ⟨aK, 0, none⟩) (size + 1) cK (u32s K) :: Vec 41 1 af nf cf (u32s fr) :: LruAt pw Lw :: Sg.SegAt pm (ones Lp) (ones Lt) (lim : Int) :: MemX sk fl seed w m :: r) (TinyAt p size most lim w seed W A B m :: r) := by
  subst hn; subst hz
  refine Ent.exs (⟨kv, K, fr, Lw, Lp, Lt, bm, aK, cK, af, cf, pw, pm, sk, fl⟩ : TyS) ?_
  exact Ent.fact ⟨t, o, h⟩ (Ent.refl _)
end
end Go.Ty
namespace Go.Proofs.YtdpiglociolagaaGreat
open Go.Lk Go.Sl Go.Tb Go.Lr Go.Ty
attribute [local irreducible] TK TL TC Th Bk Nx fnPost WA TQ OpQ OpN SpecH Rd Ent IterH RoundH Rb Rp fnPostM
theorem opq_shlI {r : Option Nat} {P : Program} {all : Array Oper} {dst : Option Nat} {pos : String} {af : Array Edge} {g : Option (Nat × Bool)} {n : Nat} {ds : List Deferred} {env : Env} {lc : List HP} {ty t yt : TypeId} {x y : Operand} {i j : Int} {q m : Nat} {k : IntKind} (hw : Want all ⟨dst, .binOp .shl t x y yt, ty, pos, af, g⟩ env) (hx : ev env x = some (.int .i64 i)) (hy : ev env y = some (.int k j)) (ha : NatI i q) (hb : NatI j m) (hm : m ≤ 63) (hq : q * 2 ^ m < 9223372036854775808) : OpQ r P all ⟨dst, .binOp .shl t x y yt, ty, pos, af, g⟩ n ds env lc (.int .i64 ((q * 2 ^ m : Nat) : Int)) :=
  opq_bin hw hx hy (eqGuard_int _ _ _ _ _ _ _ _) fun w => by
    rw [ha.out, hb.out]
    have h1 : min (m : Int).toNat IntKind.i64.bits = m := by show min (m : Int).toNat 64 = m; omega
    have e : IntKind.i64.wrap ((q : Int) * 2 ^ min (m : Int).toNat IntKind.i64.bits) = ((q * 2 ^ m : Nat) : Int) := by
      have c : (q : Int) * 2 ^ m = ((q * 2 ^ m : Nat) : Int) := by rw [Int.natCast_mul, Int.natCast_pow]; rfl
      rw [h1, c, IntKind.wrap_i64]; omega
    have h0 : ¬ ((m : Int) < 0) := by omega
    have e2 : (binOp .shl t (.int .i64 (q : Int)) (.int k (m : Int))) = (pure (.int .i64 (IntKind.i64.wrap ((q : Int) * 2 ^ min (m : Int).toNat IntKind.i64.bits))) : Sem Value) := by
      show Op.shift .shl .i64 _ k _ = _
      unfold Op.shift
      rw [if_neg h0]
    rw [e2, e]; rfl
theorem ty_rows_zero {n : Nat} : rows n (fun _ => [Value.int .u32 0]) = u32s (List.replicate n 0) := by
  induction n with
  | zero => rfl
  | succ n ih => simp [rows, u32s, List.replicate_succ', List.range_succ] at ih ⊢; exact ih
set_option maxHeartbeats 4000000 in
instance ty_newTable : Known Tryz.prog 45 (∀ (xs : Int) (size : Nat) [NatI xs size], 1 ≤ size → size ≤ 1025 → SpecH Tryz.prog 45 #[.int .i64 xs] [] (fun q : Nat × Nat × Option Addr × Nat => .agg #[.map (some q.1), .slice (some ⟨q.2.1, 0, none⟩) size size, .slice q.2.2.1 size q.2.2.2]) (fun q => [MapA .u32 (fun n : Nat => .int .u32 (n : Nat)) q.1 [], Vec 41 1 (some ⟨q.2.1, 0, none⟩) size size (u32s (List.replicate size 0)), Vec 41 1 q.2.2.1 size q.2.2.2 (u32s (List.range size).reverse)])) := ⟨fun xs size _ h1 h2 => by
  obtain rfl : xs = (size : Int) := NatI.out
  refine spec_of Tryz.func45 rfl Tryz.ntmps45 rfl [(0, _)] rfl ?_; intro base F l0 hl0; (try simp only [List.cons_append] at hl0); (try simp only [List.nil_append] at hl0); subst hl0
  repeat' (first | refine sts ?_ | refine And.intro ?_ ?_ | (intro e; exfalso; omega) | (intro e; subst e) | intro _)
  rename_i b2 bm bK bt
  rw [ty_rows_zero]
  refine tc_lp (ι := {x : Nat × (Option Addr × Nat) × Int // x.1 ≤ size ∧ x.2.2 = (size : Nat) - 1 - (x.1 : Nat)}) [4] (fun e x => (4, .int .i64 x.1.2.2) :: e)
    (fun x => [obj bt 68 [.map (some bm), .slice (some ⟨bK, 0, none⟩) size size, .slice x.1.2.1.1 x.1.1 x.1.2.1.2], Vec 41 1 x.1.2.1.1 x.1.1 x.1.2.1.2 (u32s ((List.range size).reverse.take x.1.1)), Vec 41 1 (some ⟨bK, 0, none⟩) size size (u32s (List.replicate size 0)), MapA .u32 (fun n : Nat => .int .u32 (n : Nat)) bm [], obj b2 68 [.map none, .slice none 0 0, .slice none 0 0], F]) (fun x => size - x.1.1) ⟨(0, (none, 0), (size : Nat) - 1), by omega, by dsimp only; omega⟩ ?_
    (hl := by dsimp only; rw [List.take_zero]; show Ent _ [obj bt 68 [.map (some bm), .slice (some ⟨bK, 0, none⟩) size size, .slice none 0 0], Vec 41 1 none 0 0 [], Vec 41 1 (some ⟨bK, 0, none⟩) size size (u32s (List.replicate size 0)), MapA .u32 (fun n : Nat => .int .u32 (n : Nat)) bm [], obj b2 68 [.map none, .slice none 0 0, .slice none 0 0], F]; exact en)
  rintro KK ⟨⟨j, ⟨a, c⟩, w⟩, hj, hw⟩ hKK
  dsimp only at hj hw ⊢
  by_cases hlt : j < size
  · obtain rfl : w = ((size - 1 - j : Nat) : Int) := by omega
    have e : u32s ((List.range size).reverse.take j) ++ [.int .u32 (size - 1 - j : Nat)] = u32s ((List.range size).reverse.take (j + 1)) := by
      rw [← snocT, List.take_succ_eq_append_getElem (by simpa using hlt)]
      simp
    repeat' (first | refine sts ?_ | refine And.intro ?_ ?_ | (intro e; exfalso; omega) | (intro e; subst e) | intro _)
    rename_i a5 c5
    rw [e]
    exact again hKK ⟨(j + 1, (a5, c5), ((size - 1 - j : Nat) : Int) - 1), by omega, by dsimp only; omega⟩
  · obtain rfl : j = size := by omega
    rw [List.take_of_length_le (by simp)]
    repeat' (first | refine sts ?_ | refine And.intro ?_ ?_ | (intro e; exfalso; omega) | (intro e; subst e) | intro _)
    exact ra1 (bm, bK, a, c) rfl⟩
instance ty_atLeast : Known Tryz.prog 42 (∀ (xn xo : Int) (n o : Nat) [NatI xn n] [NatI xo o], 1 ≤ n → n ≤ 1000000 → o ≤ 1000000 → SpecH Tryz.prog 42 #[.int .i64 xn, .int .i64 xo] [] (fun _ : Unit => .int .i64 (atL n o : Nat)) (fun _ => [])) := ⟨fun xn xo n o _ _ h1 h2 h3 => by
  obtain rfl : xn = (n : Int) := NatI.out
  obtain rfl : xo = (o : Int) := NatI.out
  refine spec_of Tryz.func42 rfl Tryz.ntmps42 rfl [(0, _), (1, _)] rfl ?_; intro base F l0 hl0; (try simp only [List.cons_append] at hl0); (try simp only [List.nil_append] at hl0); subst hl0
  repeat' (first | refine sts ?_ | refine And.intro ?_ ?_ | (intro e; exfalso; omega) | (intro e; subst e) | intro _)
  refine tc_lp (ι := {v : Nat // 1 ≤ v ∧ v ≤ 2000000 ∧ atL v o = atL n o}) [0] (fun e v => (0, .int .i64 (v.1 : Nat)) :: e) (fun _ => _) (fun v => o - v.1) ⟨n, h1, by omega, rfl⟩ ?_ (hl := Ent.refl _)
  rintro K ⟨v, v1, v2, v3⟩ hK
  dsimp only at v1 v2 v3 ⊢
  by_cases hc : v < o
  · rw [atL_yes ⟨v1, hc⟩] at v3
    repeat' (first | refine sts ?_ | refine And.intro ?_ ?_ | (intro e; exfalso; omega) | (intro e; subst e) | intro _)
    refine tl_q (opq_shlI (q := v) (m := 1) (by (first | exact want_none rfl | exact want_yes rfl rfl rfl rfl rfl | fail)) rfl rfl ⟨rfl⟩ ⟨rfl⟩ (by omega) (by omega)) rfl (Nat.lt_of_ble_eq rfl) ?_
    rw [show v * 2 ^ 1 = 2 * v by omega]
    repeat' (first | refine sts ?_ | refine And.intro ?_ ?_ | (intro e; exfalso; omega) | (intro e; subst e) | intro _)
    exact again hK ⟨2 * v, by omega, by omega, v3⟩
  · rw [atL_no hc] at v3
    rw [← v3]
    repeat' (first | refine sts ?_ | refine And.intro ?_ ?_ | (intro e; exfalso; omega) | (intro e; subst e) | intro _)
    exact rt1 () rfl⟩
theorem ty_new_bad (a b c sd : Int) (h : a < 2 ∨ 1024 < a ∨ b < 1 ∨ a ≤ b ∨ c < 0 ∨ 99 < c) : SpecH Tryz.prog 16 #[.int .i64 a, .int .i64 b, .int .i64 c, .int .u64 sd] [] (fun _ : Unit => .tuple #[.pointer none, .int .i64 2]) (fun _ => []) := by
  refine spec_of Tryz.func16 rfl Tryz.ntmps16 rfl [(0, _), (1, _), (2, _), (3, _)] rfl ?_; intro base F l0 hl0; (try simp only [List.cons_append] at hl0); (try simp only [List.nil_append] at hl0); subst hl0
  repeat' (first | refine sts ?_ | refine And.intro ?_ ?_ | (intro e; exfalso; omega) | (intro e; subst e) | intro _)
  all_goals exact rt2 () rfl
set_option maxHeartbeats 4000000 in
instance ty_new : Known Tryz.prog 16 (∀ (xs : Int) (size : Nat) [NatI xs size] (xm : Int) (most : Nat) [NatI xm most] (xq : Int) (prot : Nat) [NatI xq prot] (x : Int) (seed : BitVec 64) [BV x seed], 2 ≤ size → size ≤ 1024 → 1 ≤ most → most < size → prot ≤ 99 → SpecH Tryz.prog 16 #[.int .i64 xs, .int .i64 xm, .int .i64 xq, .int .u64 x] [] (fun p : Nat => .tuple #[.pointer (some ⟨p, 0, none⟩), .int .i64 0]) (fun p => [TinyAt p size most (prot * (size - most) / 100) (atL 16 size) seed [] [] [] (Mem.new (atL 16 size) (atL 64 (8 * size)))])) := ⟨fun xs size _ xm most _ xq prot _ x seed _ h1 h2 h3 h4 h5 => by
  obtain rfl : xs = (size : Int) := NatI.out
  obtain rfl : xm = (most : Int) := NatI.out
  obtain rfl : xq = (prot : Int) := NatI.out
  have hw := width_ok h2
  have hb := bits_ok h2
  have hl : prot * (size - most) / 100 ≤ size - most := Nat.div_le_of_le_mul (Nat.mul_le_mul_right _ (by omega))
  have hX : prot * (size - most) ≤ 99 * 1024 := Nat.mul_le_mul h5 (by omega)
  have eX : IntKind.i64.wrap ((prot : Int) * ((size : Int) - (most : Int))) = ((prot * (size - most) : Nat) : Int) := by
    rw [show (prot : Int) * ((size : Int) - (most : Int)) = ((prot * (size - most) : Nat) : Int) by rw [Int.natCast_mul, Int.natCast_sub (by omega)], IntKind.wrap_i64]; omega
  generalize prot * (size - most) = Y at hl hX eX ⊢
  refine spec_of Tryz.func16 rfl Tryz.ntmps16 rfl [(0, _), (1, _), (2, _), (3, _)] rfl ?_; intro base F l0 hl0; (try simp only [List.cons_append] at hl0); (try simp only [List.nil_append] at hl0); subst hl0
  repeat' (first | refine sts ?_ | refine And.intro ?_ ?_ | (intro e; exfalso; omega) | (intro e; subst e) | intro _)
  rw [eX]
  repeat' (first | refine sts ?_ | refine And.intro ?_ ?_ | (intro e; exfalso; omega) | (intro e; subst e) | intro _)
  rename_i sk fl pm bm q2 pw p
  obtain ⟨bK, bf, cf⟩ := q2
  rw [show (10 * (size : Int)) = ((10 * size : Nat) : Int) from rfl, show (Y : Int) / 100 = ((Y / 100 : Nat) : Int) from rfl]
  rw [show Sg.SegAt pm [] [] ((Y / 100 : Nat) : Int) = Sg.SegAt pm (ones []) (ones []) ((Y / 100 : Nat) : Int) from rfl]
  dsimp only [Mem.new]
  exact rt2 p rfl (he := (en2 (MemX.shut (ad := 0) (req := 0) (Nat.zero_le _))).trans (en2 (TinyAt.shutN (nf := size + 1) (zr := 0) (m := ⟨List.replicate (atL 16 size) 0, List.replicate (atL 16 size) 0, List.replicate (atL 16 size) 0, List.replicate (atL 16 size) 0, List.replicate (atL 64 (8 * size)) false, 0⟩) Thr.new ⟨h1, h2, h3, h4, hl, Nat.zero_le _, Nat.zero_le _, Nat.zero_le _⟩ (by show 0 < 10 * size; omega) (by simp) rfl)))⟩
end Go.Proofs.YtdpiglociolagaaGreat

/- Slots that cost one in two segments: added, removed, used. -/
namespace Go.Ty
open Go.Lk Go.Sl Go.Tb Go.Sg
structure UseTo (P T : List It) (L : Int) (k : Nat) (z : Int) (P' T' : List It) (G : List Nat) (e : Int) : Prop where
  p : (Sg.useS ⟨P, T, L⟩ k z).P = P'
  t : (Sg.useS ⟨P, T, L⟩ k z).T = T'
  g : Sg.useG ⟨P, T, L⟩ k z = G
  e : Sg.useE ⟨P, T, L⟩ k z = e
structure AddTo (P T : List It) (L : Int) (k : Nat) (z : Int) (P' T' : List It) (e : Int) : Prop where
  p : (Sg.addS ⟨P, T, L⟩ k z).P = P'
  t : (Sg.addS ⟨P, T, L⟩ k z).T = T'
  e : Sg.addE ⟨P, T, L⟩ k z = e
structure RemTo (P T : List It) (L : Int) (k : Nat) (P' T' : List It) (e : Int) : Prop where
  p : (Sg.remS ⟨P, T, L⟩ k).P = P'
  t : (Sg.remS ⟨P, T, L⟩ k).T = T'
  e : Sg.remE ⟨P, T, L⟩ k = e
section
variable {Lp Lt : List Nat} {k lim : Nat}
theorem isIn_ones : isIn ⟨ones Lp, ones Lt, (lim : Int)⟩ k ↔ k ∈ Lp ∨ k ∈ Lt := by
  unfold isIn
  rw [sl_ones, sl_ones]
theorem fair_one (h : k < 4194304) : fair k 1 := by unfold fair; omega
theorem seg_add (h : k < 4194304) (h1 : k ∉ Lp) (h2 : k ∉ Lt) : AddTo (ones Lp) (ones Lt) (lim : Int) k 1 (ones (Lp ++ [k])) (ones Lt) 0 := by
  have hi : ¬ isIn ⟨ones Lp, ones Lt, (lim : Int)⟩ k := fun x => (isIn_ones.1 x).elim h1 h2
  have hs : Sg.addS ⟨ones Lp, ones Lt, (lim : Int)⟩ k 1 = ⟨ones Lp ++ [(k, 1)], ones Lt, (lim : Int)⟩ := by unfold Sg.addS; rw [if_pos ⟨fair_one h, hi⟩]; rfl
  refine ⟨by rw [hs, ones_app]; rfl, by rw [hs], ?_⟩
  unfold Sg.addE
  rw [if_neg (fun x => x (fair_one h)), if_neg hi]
theorem seg_rem (h : k < 4194304) (h1 : Lp.Nodup) (h2 : Lt.Nodup) : RemTo (ones Lp) (ones Lt) (lim : Int) k (ones (Lp.erase k)) (ones (Lt.erase k)) (if k ∈ Lp ∨ k ∈ Lt then 0 else 9) := by
  refine ⟨rm_ones h1, rm_ones h2, ?_⟩
  unfold Sg.remE
  rw [if_neg (by omega)]
  by_cases hi : k ∈ Lp ∨ k ∈ Lt
  · rw [if_pos hi, if_pos (isIn_ones.2 hi)]
  · rw [if_neg hi, if_neg (fun x => hi (isIn_ones.1 x))]
abbrev useT (Lt : List Nat) (k : Nat) : List Nat := Lt.erase k ++ [k]
theorem seg_use (h : k < 4194304) (h1 : Lp.Nodup) (h2 : Lt.Nodup) (hi : k ∈ Lp ∨ k ∈ Lt) {d : Nat} (hd : (useT Lt k).length - lim = d) : UseTo (ones Lp) (ones Lt) (lim : Int) k 1 (ones (Lp.erase k ++ (useT Lt k).take d)) (ones ((useT Lt k).drop d)) ((useT Lt k).take d) 0 := by
  have hs : midS ⟨ones Lp, ones Lt, (lim : Int)⟩ k 1 = ⟨ones (Lp.erase k), ones (useT Lt k), (lim : Int)⟩ := by
    unfold midS
    rw [if_neg (by show ¬ (lim : Int) = -1; omega), ones_app]
    show Sg.St.mk (rm (ones Lp) k) (rm (ones Lt) k ++ [(k, 1)]) _ = _
    rw [rm_ones h1, rm_ones h2]; rfl
  have hn : demN (lim : Int) (ones (useT Lt k)) = d := dem_ones.trans hd
  have hc : fair k 1 ∧ isIn ⟨ones Lp, ones Lt, (lim : Int)⟩ k := ⟨fair_one h, isIn_ones.2 hi⟩
  refine ⟨?_, ?_, ?_, ?_⟩
  · unfold Sg.useS demS; rw [if_pos hc, hs]; dsimp only; rw [hn, ones_take, ones_app]
  · unfold Sg.useS demS; rw [if_pos hc, hs]; dsimp only; rw [hn, ones_drop]
  · unfold Sg.useG demG; rw [if_pos hc, hs]; dsimp only; rw [hn, ones_take, sl_ones]
  · unfold Sg.useE; rw [if_neg (fun x => x hc.1), if_pos hc.2]
theorem seg_use0 (h : k < 4194304) (h1 : Lp.Nodup) (h2 : Lt.Nodup) (hi : k ∈ Lp ∨ k ∈ Lt) (hd : (Lt.erase k ++ [k]).length ≤ lim) : UseTo (ones Lp) (ones Lt) (lim : Int) k 1 (ones (Lp.erase k)) (ones (Lt.erase k ++ [k])) [] 0 := by
  have e := seg_use (lim := lim) (d := 0) h h1 h2 hi (by unfold useT; omega)
  rw [List.take_zero, List.append_nil, List.drop_zero] at e
  exact e
theorem seg_use1 {y : Nat} {M : List Nat} (h : k < 4194304) (h1 : Lp.Nodup) (h2 : Lt.Nodup) (hi : k ∈ Lp ∨ k ∈ Lt) (e0 : Lt.erase k ++ [k] = y :: M) (hd : (y :: M).length = lim + 1) : UseTo (ones Lp) (ones Lt) (lim : Int) k 1 (ones (Lp.erase k ++ [y])) (ones M) [y] 0 := by
  have e := seg_use (lim := lim) (d := 1) h h1 h2 hi (by unfold useT; rw [e0]; omega)
  rw [show useT Lt k = y :: M from e0] at e
  exact e
end
end Go.Ty
namespace Go.Proofs.YtdpiglociolagaaGreat
open Go.Lk Go.Sl Go.Sg Go.Ty
instance ty_sgUse : Known Tryz.prog 32 (∀ (p : Nat) (P T : List It) (L : Int) (xk : Int) (k : Nat) [NatI xk k] (z : Int) (P' T' : List It) (G : List Nat) (e : Int), UseTo P T L k z P' T' G e → SpecH Tryz.prog 32 #[.pointer (some ⟨p, 0, none⟩), .int .u32 xk, .int .i64 z] [SegAt p P T L] (fun q : Option Addr × Nat => .tuple #[.slice q.1 G.length q.2, .int .i64 e]) (fun q => [SegAt p P' T' L, RoS 1 q.1 G.length q.2 (u32s G)])) := ⟨fun p P T L xk k _ z P' T' G e u => by
  have h := sg_use.out p P T L xk k z
  rwa [u.p, u.t, u.g, u.e] at h⟩
instance ty_sgAdd : Known Tryz.prog 81 (∀ (p : Nat) (P T : List It) (L : Int) (xk : Int) (k : Nat) [NatI xk k] (z : Int) (P' T' : List It) (e : Int), AddTo P T L k z P' T' e → SpecH Tryz.prog 81 #[.pointer (some ⟨p, 0, none⟩), .int .u32 xk, .int .i64 z] [SegAt p P T L] (fun _ : Unit => .int .i64 e) (fun _ => [SegAt p P' T' L])) := ⟨fun p P T L xk k _ z P' T' e u => by
  have h := sg_add.out p P T L xk k z
  rwa [u.p, u.t, u.e] at h⟩
instance ty_sgRem : Known Tryz.prog 39 (∀ (p : Nat) (P T : List It) (L : Int) (xk : Int) (k : Nat) [NatI xk k] (P' T' : List It) (e : Int), RemTo P T L k P' T' e → SpecH Tryz.prog 39 #[.pointer (some ⟨p, 0, none⟩), .int .u32 xk] [SegAt p P T L] (fun _ : Unit => .int .i64 e) (fun _ => [SegAt p P' T' L])) := ⟨fun p P T L xk k _ P' T' e u => by
  have h := sg_remove.out p P T L xk k
  rwa [u.p, u.t, u.e] at h⟩
end Go.Proofs.YtdpiglociolagaaGreat

/- tiny, walked: the victim, keys that leave. -/
namespace Go.Proofs.YtdpiglociolagaaGreat
open Go.Lk Go.Sl Go.Tb Go.Lr Go.Ty
attribute [local irreducible] TK TL TC Th Bk Nx fnPost WA TQ OpQ OpN SpecH Rd Ent IterH RoundH Rb Rp fnPostM
instance ty_mainLen : Known Tryz.prog 80 (∀ (p pm lim : Nat) (Lp Lt : List Nat) (v0 v1 v2 v3 v4 v5 v7 v8 v9 v10 : Value), Lp.length ≤ 1025 → Lt.length ≤ 1025 → SpecH Tryz.prog 80 #[.pointer (some ⟨p, 0, none⟩)] [obj p 76 [v0, v1, v2, v3, v4, v5, .pointer (some ⟨pm, 0, none⟩), v7, v8, v9, v10], Sg.SegAt pm (ones Lp) (ones Lt) (lim : Int)] (fun _ : Unit => .int .i64 (Lp.length + Lt.length : Nat)) (fun _ => [obj p 76 [v0, v1, v2, v3, v4, v5, .pointer (some ⟨pm, 0, none⟩), v7, v8, v9, v10], Sg.SegAt pm (ones Lp) (ones Lt) (lim : Int)])) := ⟨fun p pm lim Lp Lt v0 v1 v2 v3 v4 v5 v7 v8 v9 v10 h1 h2 => by
  have g0 : Sg.ListG 0 (ones Lp) (ones Lt) (ones Lp) := ⟨.inl ⟨rfl, rfl⟩⟩
  have g1 : Sg.ListG 1 (ones Lp) (ones Lt) (ones Lt) := ⟨.inr (.inl ⟨rfl, rfl⟩)⟩
  have e0 := ones_len (L := Lp)
  have e1 := ones_len (L := Lt)
  refine spec_of Tryz.func80 rfl Tryz.ntmps80 rfl [(0, _)] rfl ?_; intro base F l0 hl0; (try simp only [List.cons_append] at hl0); (try simp only [List.nil_append] at hl0); subst hl0
  repeat' (first | refine sts ?_ | refine And.intro ?_ ?_ | (intro e; exfalso; omega) | (intro e; subst e) | intro _)
  rw [e0, e1]
  exact rt1 () rfl⟩
instance ty_victim : Known Tryz.prog 82 (∀ (p pm lim y : Nat) (Lp Lt X : List Nat) (v0 v1 v2 v3 v4 v5 v7 v8 v9 v10 : Value), (Lp = y :: X ∨ (Lp = [] ∧ Lt = y :: X)) → SpecH Tryz.prog 82 #[.pointer (some ⟨p, 0, none⟩)] [obj p 76 [v0, v1, v2, v3, v4, v5, .pointer (some ⟨pm, 0, none⟩), v7, v8, v9, v10], Sg.SegAt pm (ones Lp) (ones Lt) (lim : Int)] (fun _ : Unit => .int .u32 (y : Nat)) (fun _ => [obj p 76 [v0, v1, v2, v3, v4, v5, .pointer (some ⟨pm, 0, none⟩), v7, v8, v9, v10], Sg.SegAt pm (ones Lp) (ones Lt) (lim : Int)])) := ⟨fun p pm lim y Lp Lt X v0 v1 v2 v3 v4 v5 v7 v8 v9 v10 h => by
  have g0 : Sg.ListG 0 (ones Lp) (ones Lt) (ones Lp) := ⟨.inl ⟨rfl, rfl⟩⟩
  have g1 : Sg.ListG 1 (ones Lp) (ones Lt) (ones Lt) := ⟨.inr (.inl ⟨rfl, rfl⟩)⟩
  have e0 := ones_len (L := Lp)
  have e1 := ones_len (L := Lt)
  refine spec_of Tryz.func82 rfl Tryz.ntmps82 rfl [(0, _)] rfl ?_; intro base F l0 hl0; (try simp only [List.cons_append] at hl0); (try simp only [List.nil_append] at hl0); subst hl0
  rcases h with rfl | ⟨rfl, rfl⟩
  · have e2 : (ones (y :: X)).length = X.length + 1 := ones_len
    repeat' (first | refine sts ?_ | refine And.intro ?_ ?_ | (intro e; exfalso; omega) | (intro e; subst e) | intro _)
    rw [show ((ones (y :: X)).getD 0 (0, 0)).1 = y from rfl]
    exact rt1 () rfl
  · have e2 : (ones (y :: X)).length = X.length + 1 := ones_len
    repeat' (first | refine sts ?_ | refine And.intro ?_ ?_ | (intro e; exfalso; omega) | (intro e; subst e) | intro _)
    rw [show ((ones (y :: X)).getD 0 (0, 0)).1 = y from rfl]
    exact rt1 () rfl⟩
instance ty_leave : Known Tryz.prog 83 (∀ (p size bm aK cK : Nat) (af : Option Addr) (cf : Nat) (xz : Int) (z : Nat) [NatI xz z] (k : Nat) (kv : List (Nat × Nat)) (K fr : List Nat) (v0 v1 v5 v6 v7 v8 v9 v10 : Value), mget kv k = some z → K.getD z 0 = k → K.length = size → z < size → size ≤ 1025 → fr.length ≤ 1025 → k < 4294967296 → SpecH Tryz.prog 83 #[.pointer (some ⟨p, 0, none⟩), .int .u32 xz] [obj p 76 [v0, v1, .map (some bm), .slice (some ⟨aK, 0, none⟩) size cK, .slice af fr.length cf, v5, v6, v7, v8, v9, v10], MapA .u32 (fun n : Nat => .int .u32 (n : Nat)) bm kv, Vec 41 1 (some ⟨aK, 0, none⟩) size cK (u32s K), Vec 41 1 af fr.length cf (u32s fr)] (fun _ : Option Addr × Nat => .agg #[.bool false, .bool true, .int .u32 (k : Nat)]) (fun q => [obj p 76 [v0, v1, .map (some bm), .slice (some ⟨aK, 0, none⟩) size cK, .slice q.1 (fr.length + 1) q.2, v5, v6, v7, v8, v9, v10], MapA .u32 (fun n : Nat => .int .u32 (n : Nat)) bm (mdel kv k), Vec 41 1 (some ⟨aK, 0, none⟩) size cK (u32s K), Vec 41 1 q.1 (fr.length + 1) q.2 (u32s (fr ++ [z]))])) := ⟨fun p size bm aK cK af cf xz z _ k kv K fr v0 v1 v5 v6 v7 v8 v9 v10 hg hk hl hz hs hf h32 => by
  obtain rfl : xz = (z : Int) := NatI.out
  refine spec_of Tryz.func83 rfl Tryz.ntmps83 rfl [(0, _), (1, _)] rfl ?_; intro base F l0 hl0; (try simp only [List.cons_append] at hl0); (try simp only [List.nil_append] at hl0); subst hl0
  repeat' (first | refine sts ?_ | refine And.intro ?_ ?_ | (intro e; exfalso; omega) | (intro e; subst e) | intro _)
  rw [hk]
  repeat' (first | refine sts ?_ | refine And.intro ?_ ?_ | (intro e; exfalso; omega) | (intro e; subst e) | intro _)
  rename_i bt a5 c5
  exact ra1 (a5, c5) rfl⟩
end Go.Proofs.YtdpiglociolagaaGreat

/- Requests and their candidates, plainly. No program, no condition. -/
namespace Go.Tb.Thr
open Go.Lk Go.Sl Go.Tb
variable {size : Nat} {W A B : List Nat} {kv : List (Nat × Nat)} {K fr Lw Lp Lt : List Nat} {k z y x : Nat}
theorem head (t : Thr size W A B kv K fr (y :: Lw) Lp Lt) : K.getD y 0 = W.getLastD 0 ∧ mget kv (W.getLastD 0) = some y ∧ y < size ∧ W.getLastD 0 < 4294967296 ∧ y ∉ Lw ∧ y ∉ Lp ∧ y ∉ Lt := by
  obtain ⟨h1, h2, _⟩ := t.cand
  have h3 := t.slot (z := y) (inW (List.mem_cons_self ..))
  rw [h2] at h3
  obtain ⟨n1, _, _, n2, _⟩ := t.nd
  refine ⟨h2, h3, t.lt (inW (List.mem_cons_self ..)), ?_, (List.nodup_cons.1 n1).1, (n2 y (List.mem_cons_self ..)).1, (n2 y (List.mem_cons_self ..)).2⟩
  rw [← h2]
  exact t.tab.klt (t.lt (inW (List.mem_cons_self ..)))
theorem goes (t : Thr size W A B kv K fr (y :: Lw) Lp Lt) : Thr size W.dropLast A B (mdel kv (W.getLastD 0)) K (fr ++ [y]) Lw Lp Lt := by
  obtain ⟨h2, h3, _, _, n1, n2, n3⟩ := t.head
  obtain ⟨_, _, c⟩ := t.cand
  have d := (c.drop h3).tab
  rw [List.erase_of_not_mem n1, List.erase_of_not_mem n3, List.erase_append_right _ n2, List.erase_cons_head, List.append_nil] at d
  exact ⟨d, c.w, t.a, t.b⟩
theorem gives (t : Thr size W A B kv K fr (y :: Lw) Lp Lt) (hx : x ∈ Lp ∨ x ∈ Lt) : mget kv (K.getD x 0) = some x ∧ x < size ∧ K.getD x 0 < 4294967296 ∧ x ≠ y ∧ Thr size W.dropLast (W.getLastD 0 :: A.erase (K.getD x 0)) (B.erase (K.getD x 0)) (mdel kv (K.getD x 0)) K (fr ++ [x]) Lw (Lp.erase x ++ [y]) (Lt.erase x) := by
  have hm : x ∈ (y :: Lw) ++ (Lp ++ Lt) := hx.elim inP inT
  have h3 := t.slot hm
  obtain ⟨_, n4, n5, n2, n3⟩ := t.nd
  obtain ⟨_, h2, c⟩ := t.cand
  have hw : x ∉ y :: Lw := fun h => hx.elim (n2 x h).1 (n2 x h).2
  have hne : x ≠ y := fun h => hw (h ▸ List.mem_cons_self ..)
  have hw' : x ∉ Lw := fun h => hw (List.mem_cons_of_mem _ h)
  obtain ⟨e1, e2, e3⟩ := t.eraseP h3
  have d := (c.drop h3).tab
  have e : (Lp ++ [y]).erase x = Lp.erase x ++ [y] := by
    rw [List.erase_append]
    by_cases hp : x ∈ Lp
    · rw [if_pos hp]
    · rw [if_neg hp, List.erase_of_not_mem hp, List.erase_of_not_mem (by simpa using hne)]
  rw [List.erase_of_not_mem hw', e] at d
  refine ⟨h3, t.lt hm, t.tab.klt (t.lt hm), hne, d, c.w, ?_, e2.symm⟩
  rw [keysR_snoc, e1, h2]
end Go.Tb.Thr
namespace Go.Ty
open Go.Lk Go.Sl Go.Tb
def vic (A B : List Nat) : Nat := if A = [] then B.getLastD 0 else A.getLastD 0
theorem vic_at {size : Nat} {W A B : List Nat} {kv : List (Nat × Nat)} {K fr Lw Lp Lt : List Nat} (t : Thr size W A B kv K fr Lw Lp Lt) (h : 0 < A.length + B.length) : ∃ x X, (Lp = x :: X ∨ (Lp = [] ∧ Lt = x :: X)) ∧ K.getD x 0 = vic A B := by
  cases Lp with
  | cons x X =>
    have hA : A = keysR K X ++ [K.getD x 0] := by rw [t.a, keysR_cons]
    refine ⟨x, X, .inl rfl, ?_⟩
    unfold vic
    rw [if_neg (by rw [hA]; simp), hA, getLastD_snoc]
  | nil =>
    have hA : A = [] := t.a
    cases Lt with
    | nil => have hB : B = [] := t.b; rw [hA, hB] at h; simp at h
    | cons x X =>
      have hB : B = keysR K X ++ [K.getD x 0] := by rw [t.b, keysR_cons]
      refine ⟨x, X, .inr ⟨rfl, rfl⟩, ?_⟩
      unfold vic
      rw [if_pos hA, hB, getLastD_snoc]
def rooms (size most : Nat) (A B : List Nat) : Prop := A.length + B.length < size - most
instance {size most : Nat} {A B : List Nat} : Decidable (rooms size most A B) := by unfold rooms; infer_instance
def admS (size most : Nat) (g : Nat → Nat) (W A B : List Nat) : St :=
  if rooms size most A B then ⟨W.dropLast, W.getLastD 0 :: A, B⟩
  else if g (W.getLastD 0) ≤ g (vic A B) then ⟨W.dropLast, A, B⟩
  else ⟨W.dropLast, W.getLastD 0 :: A.erase (vic A B), B.erase (vic A B)⟩
def admO (size most : Nat) (g : Nat → Nat) (W A B : List Nat) : Nat := if rooms size most A B then 0 else if g (W.getLastD 0) ≤ g (vic A B) then W.getLastD 0 else vic A B
structure Ok1 (size most lim : Nat) (W A B : List Nat) : Prop where
  s2 : 2 ≤ size
  s3 : size ≤ 1024
  m1 : 1 ≤ most
  m2 : most < size
  l1 : lim ≤ size - most
  w : W.length = most + 1
  ab : A.length + B.length ≤ size - most
  b : B.length ≤ lim
section
variable {size most lim : Nat} {W A B : List Nat}
theorem Ok1.stay (o : Ok1 size most lim W A B) (h : rooms size most A B) : Ok size most lim W.dropLast (W.getLastD 0 :: A) B :=
  ⟨o.s2, o.s3, o.m1, o.m2, o.l1, by rw [List.length_dropLast, o.w]; omega, by unfold rooms at h; rw [List.length_cons]; omega, o.b⟩
theorem Ok1.goes (o : Ok1 size most lim W A B) : Ok size most lim W.dropLast A B :=
  ⟨o.s2, o.s3, o.m1, o.m2, o.l1, by rw [List.length_dropLast, o.w]; omega, o.ab, o.b⟩
theorem Ok1.gives (o : Ok1 size most lim W A B) {v : Nat} (h : v ∈ A ∨ v ∈ B) : Ok size most lim W.dropLast (W.getLastD 0 :: A.erase v) (B.erase v) := by
  have e1 := (List.erase_sublist (a := v) (l := A)).length_le
  have e2 := (List.erase_sublist (a := v) (l := B)).length_le
  have h3 := o.b
  have h4 := o.ab
  refine ⟨o.s2, o.s3, o.m1, o.m2, o.l1, by rw [List.length_dropLast, o.w]; omega, ?_, by omega⟩
  rw [List.length_cons]
  rcases h with h | h
  · have := List.length_erase_of_mem h
    have := List.length_pos_of_mem h
    omega
  · have := List.length_erase_of_mem h
    have := List.length_pos_of_mem h
    omega
end
def useW (size most lim : Nat) (g : Nat → Nat) (W A B : List Nat) (k : Nat) : St :=
  if k ∈ W then ⟨k :: W.erase k, A, B⟩
  else if k ∈ A ∨ k ∈ B then (if lim < (k :: B.erase k).length then ⟨W, (k :: B.erase k).getLastD 0 :: A.erase k, (k :: B.erase k).dropLast⟩ else ⟨W, A.erase k, k :: B.erase k⟩)
  else if (k :: W).length ≤ most then ⟨k :: W, A, B⟩ else admS size most g (k :: W) A B
def useHit (W A B : List Nat) (k : Nat) : Bool := decide (k ∈ W ∨ k ∈ A ∨ k ∈ B)
def useLeft (size most : Nat) (W A B : List Nat) (k : Nat) : Bool := if k ∈ W ∨ k ∈ A ∨ k ∈ B then false else if (k :: W).length ≤ most then false else decide (¬ rooms size most A B)
def useOut (size most : Nat) (g : Nat → Nat) (W A B : List Nat) (k : Nat) : Nat := if k ∈ W ∨ k ∈ A ∨ k ∈ B then 0 else if (k :: W).length ≤ most then 0 else admO size most g (k :: W) A B
section
variable {size most lim k : Nat} {W A B : List Nat}
theorem Ok.useW (o : Ok size most lim W A B) (h : k ∈ W) : Ok size most lim (k :: W.erase k) A B := by
  have e := List.length_erase_of_mem h
  have p := List.length_pos_of_mem h
  have w := o.w
  exact ⟨o.s2, o.s3, o.m1, o.m2, o.l1, by rw [List.length_cons]; omega, o.ab, o.b⟩
theorem Ok.lens (h : k ∈ A ∨ k ∈ B) (hd : ∀ x ∈ A, x ∉ B) : (A.erase k).length + (k :: B.erase k).length = A.length + B.length ∧ (k :: B.erase k).length ≤ B.length + 1 ∧ (k ∈ B → (k :: B.erase k).length = B.length) ∧ (k ∈ A → (k :: B.erase k).length = B.length + 1) := by
  by_cases hb : k ∈ B
  · have ha : k ∉ A := fun x => hd k x hb
    have e := List.length_erase_of_mem hb
    have p := List.length_pos_of_mem hb
    rw [List.erase_of_not_mem ha, List.length_cons]
    exact ⟨by omega, by omega, fun _ => by omega, fun x => absurd x ha⟩
  · have ha : k ∈ A := h.resolve_right hb
    have e := List.length_erase_of_mem ha
    have p := List.length_pos_of_mem ha
    rw [List.erase_of_not_mem hb, List.length_cons]
    exact ⟨by omega, by omega, fun x => absurd x hb, fun _ => rfl⟩
theorem Ok.useM (o : Ok size most lim W A B) (h : k ∈ A ∨ k ∈ B) (hd : ∀ x ∈ A, x ∉ B) (hl : ¬ lim < (k :: B.erase k).length) : Ok size most lim W (A.erase k) (k :: B.erase k) := by
  obtain ⟨e1, e2, _⟩ := Ok.lens h hd
  have := o.ab
  exact ⟨o.s2, o.s3, o.m1, o.m2, o.l1, o.w, by omega, by omega⟩
theorem Ok.useD (o : Ok size most lim W A B) (h : k ∈ A ∨ k ∈ B) (hd : ∀ x ∈ A, x ∉ B) : Ok size most lim W ((k :: B.erase k).getLastD 0 :: A.erase k) (k :: B.erase k).dropLast := by
  obtain ⟨e1, e2, _⟩ := Ok.lens h hd
  have h1 := o.ab
  have h2 := o.b
  have e3 : (k :: B.erase k).dropLast.length = (k :: B.erase k).length - 1 := List.length_dropLast
  have e4 : 0 < (k :: B.erase k).length := by simp
  exact ⟨o.s2, o.s3, o.m1, o.m2, o.l1, o.w, by rw [List.length_cons]; omega, by omega⟩
theorem Ok.add (o : Ok size most lim W A B) (h : (k :: W).length ≤ most) : Ok size most lim (k :: W) A B := ⟨o.s2, o.s3, o.m1, o.m2, o.l1, h, o.ab, o.b⟩
theorem Ok.one (o : Ok size most lim W A B) (h : ¬ (k :: W).length ≤ most) : Ok1 size most lim (k :: W) A B := by
  have w := o.w
  exact ⟨o.s2, o.s3, o.m1, o.m2, o.l1, by rw [List.length_cons] at h ⊢; omega, o.ab, o.b⟩
theorem Ok.drop (o : Ok size most lim W A B) : Ok size most lim (W.erase k) (A.erase k) (B.erase k) := by
  have e1 := (List.erase_sublist (a := k) (l := A)).length_le
  have e2 := (List.erase_sublist (a := k) (l := B)).length_le
  have e3 := (List.erase_sublist (a := k) (l := W)).length_le
  have h1 := o.w
  have h2 := o.ab
  have h3 := o.b
  exact ⟨o.s2, o.s3, o.m1, o.m2, o.l1, by omega, by omega, by omega⟩
end
end Go.Ty

/- tiny, walked: the decision about a candidate. -/
namespace Go.Proofs.YtdpiglociolagaaGreat
open Go.Lk Go.Sl Go.Tb Go.Lr Go.Ty
attribute [local irreducible] TK TL TC Th Bk Nx fnPost WA TQ OpQ OpN SpecH Rd Ent IterH RoundH Rb Rp fnPostM
attribute [local irreducible] Lr.remE Lr.addE Lr.addL Lr.useL Ty.ones Ty.Mem.guess
theorem ty_old : Known Tryz.prog 79 (∀ (p y : Nat) (L : List Nat), SpecH Tryz.prog 79 #[.pointer (some ⟨p, 0, none⟩)] [LruAt p (y :: L)] (fun _ : Unit => .tuple #[.int .u32 (y : Nat), .int .i64 0]) (fun _ => [LruAt p (y :: L)])) := ⟨fun p y L => by
  have := lr_oldest.out p (y :: L)
  rwa [if_neg (List.cons_ne_nil y L)] at this⟩
theorem ty_old1 : Known Tryz.prog 38 (∀ (p y : Nat) (L : List Nat), y < 4294967296 → SpecH Tryz.prog 38 #[.pointer (some ⟨p, 0, none⟩), .int .u32 (y : Nat)] [LruAt p (y :: L)] (fun _ : Unit => .int .i64 (Lr.remE (y :: L) y)) (fun _ => [LruAt p L])) := ⟨fun p y L h => by
  have := lr_remove.out p (y :: L) y y h
  rwa [List.erase_cons_head] at this⟩
set_option maxHeartbeats 8000000 in
instance ty_admit : Known Tryz.prog 36 (∀ (p size most lim w : Nat) (seed : BitVec 64) (W A B Lw Lp Lt : List Nat) (y : Nat) (m : Mem) (kv : List (Nat × Nat)) (K fr : List Nat) (bm aK cK : Nat) (af : Option Addr) (cf pw pm sk fl : Nat), Thr (size + 1) W A B kv K fr (y :: Lw) Lp Lt → Ok1 size most lim W A B → m.req < 10 * size → SpecH Tryz.prog 36 #[.pointer (some ⟨p, 0, none⟩)] [obj p 76 [.int .i64 (size : Nat), .int .i64 (most : Nat), .map (some bm), .slice (some ⟨aK, 0, none⟩) (size + 1) cK, .slice af fr.length cf, .pointer (some ⟨pw, 0, none⟩), .pointer (some ⟨pm, 0, none⟩), .pointer (some ⟨sk, 0, none⟩), .pointer (some ⟨fl, 0, none⟩), .int .i64 (m.req : Nat), .int .i64 (10 * size : Nat)], MapA .u32 (fun n : Nat => .int .u32 (n : Nat)) bm kv, Vec 41 1 (some ⟨aK, 0, none⟩) (size + 1) cK (u32s K), Vec 41 1 af fr.length cf (u32s fr), LruAt pw (y :: Lw), Sg.SegAt pm (ones Lp) (ones Lt) (lim : Int), MemX sk fl seed w m] (fun _ : Unit => .agg #[.bool false, .bool (decide (¬ rooms size most A B)), .int .u32 (admO size most (fun k => m.guess w (sumB seed (txt k))) W A B : Nat)]) (fun _ => [TinyAt p size most lim w seed (admS size most (fun k => m.guess w (sumB seed (txt k))) W A B).W (admS size most (fun k => m.guess w (sumB seed (txt k))) W A B).A (admS size most (fun k => m.guess w (sumB seed (txt k))) W A B).B m])) := ⟨fun p size most lim w seed W A B Lw Lp Lt y m kv K fr bm aK cK af cf pw pm sk fl t o hq => by
  refine spec_of Tryz.func36 rfl Tryz.ntmps36 rfl [(0, _)] rfl ?_; intro base F l0 hl0; (try simp only [List.cons_append] at hl0); (try simp only [List.nil_append] at hl0); subst hl0
  obtain ⟨hy, hg, hlt, h32, n1, n2, n3⟩ := t.head
  obtain ⟨o1, o2, o3, o4, o5, o6, o7, o8⟩ := o
  have o : Ok1 size most lim W A B := ⟨o1, o2, o3, o4, o5, o6, o7, o8⟩
  have la := t.alen
  have lb := t.blen
  have hkl := t.tab.kl
  have htot := t.tab.tot
  haveI := ty_old
  haveI := ty_old1
  have ad := seg_add (lim := lim) (k := y) (Lp := Lp) (Lt := Lt) (by omega) n2 n3
  by_cases hr : rooms size most A B
  · have e1 : admS size most (fun k => m.guess w (sumB seed (txt k))) W A B = ⟨W.dropLast, W.getLastD 0 :: A, B⟩ := if_pos hr
    have e2 : admO size most (fun k => m.guess w (sumB seed (txt k))) W A B = 0 := if_pos hr
    rw [e1, e2, decide_eq_false (fun x => x hr), show ((0 : Nat) : Int) = 0 from rfl]
    have hr' := hr
    unfold rooms at hr'
    repeat' (first | refine sts ?_ | refine And.intro ?_ ?_ | (intro e; exfalso; omega) | (intro e; subst e) | intro _)
    exact ra1 () rfl (he := en2 (TinyAt.shutN (nf := fr.length) t.cand.2.2 (o.stay hr) hq rfl rfl))
  · obtain ⟨x, X, hx, hv⟩ := vic_at t (by unfold rooms at hr; omega)
    have hr' := hr
    unfold rooms at hr'
    rw [decide_eq_true hr]
    have hin : x ∈ Lp ∨ x ∈ Lt := hx.elim (fun h => .inl (by rw [h]; exact List.mem_cons_self ..)) (fun h => .inr (by rw [h.2]; exact List.mem_cons_self ..))
    obtain ⟨x1, x2, x3, x4, x5⟩ := t.gives hin
    obtain ⟨_, n4, n5, _, _⟩ := t.nd
    have rm := seg_rem (lim := lim) (k := x) (Lp := Lp) (Lt := Lt) (by omega) n4 n5
    have ad2 := seg_add (lim := lim) (k := y) (Lp := Lp.erase x) (Lt := Lt.erase x) (by omega) (fun h => n2 (List.mem_of_mem_erase h)) (fun h => n3 (List.mem_of_mem_erase h))
    have hyg : mget kv (K.getD y 0) = some y := by rw [hy]; exact hg
    have hy32 : K.getD y 0 < 4294967296 := by rw [hy]; exact h32
    have ry : K.getD y 0 = K.getD y 0 := rfl
    have rx : K.getD x 0 = K.getD x 0 := rfl
    by_cases hgg : m.guess w (sumB seed (txt (K.getD y 0))) ≤ m.guess w (sumB seed (txt (K.getD x 0)))
    · have hgg' : m.guess w (sumB seed (txt (W.getLastD 0))) ≤ m.guess w (sumB seed (txt (vic A B))) := by rw [← hy, ← hv]; exact hgg
      have e1 : admS size most (fun k => m.guess w (sumB seed (txt k))) W A B = ⟨W.dropLast, A, B⟩ := (if_neg hr).trans (if_pos hgg')
      have e2 : admO size most (fun k => m.guess w (sumB seed (txt k))) W A B = W.getLastD 0 := (if_neg hr).trans (if_pos hgg')
      rw [e1, e2]
      repeat' (first | refine sts ?_ | refine And.intro ?_ ?_ | (intro e; exfalso; omega) | (intro e; subst e) | intro _)
      rw [hy]
      exact ra1 () rfl (he := en2 (TinyAt.shutN (nf := fr.length + 1) t.goes o.goes hq (by simp) rfl))
    · have hgg' : ¬ m.guess w (sumB seed (txt (W.getLastD 0))) ≤ m.guess w (sumB seed (txt (vic A B))) := by rw [← hy, ← hv]; exact hgg
      have e1 : admS size most (fun k => m.guess w (sumB seed (txt k))) W A B = ⟨W.dropLast, W.getLastD 0 :: A.erase (vic A B), B.erase (vic A B)⟩ := (if_neg hr).trans (if_neg hgg')
      have e2 : admO size most (fun k => m.guess w (sumB seed (txt k))) W A B = vic A B := (if_neg hr).trans (if_neg hgg')
      rw [e1, e2]
      repeat' (first | refine sts ?_ | refine And.intro ?_ ?_ | (intro e; exfalso; omega) | (intro e; subst e) | intro _)
      have hvm : vic A B ∈ A ∨ vic A B ∈ B := by
        obtain ⟨_, i2, i3, _⟩ := t.some_of x1
        rw [← hv]
        exact hin.imp i2.2 i3.2
      rw [hv] at x5 ⊢
      exact ra1 () rfl (he := en2 (TinyAt.shutN (nf := fr.length + 1) x5 (o.gives hvm) hq (by simp) rfl))⟩
end Go.Proofs.YtdpiglociolagaaGreat
