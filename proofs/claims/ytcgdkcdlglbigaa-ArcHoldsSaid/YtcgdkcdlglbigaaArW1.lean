/- arc, walked: a cache. -/
import Derived.Test.YtcgdkcdlglbigaaArSt
import Derived.Test.YtcgdkcdlglbigaaLrW3
import Derived.Test.YtcgdkcdlglbigaaSlClone
import Derived.Test.YtcgdkcdlglbigaaSlHq
import Derived.Test.YtcgdkcdlglbigaaEqTypes
namespace Go.Sl
open Go.Lk
theorem snocU' {A : List Nat} {x : Nat} : u32s (A ++ [x]) = u32s A ++ [.int .u32 (x : Nat)] := by simp [u32s]
/-- The last one of a slice is given up. -/
theorem ent_vecCut' {r : List HP} {E b m cap : Nat} {cs : List Value} {v : Value} : Ent (Vec E 1 (some ⟨b, 0, none⟩) (m + 1) cap (cs ++ [v]) :: r) (Vec E 1 (some ⟨b, 0, none⟩) m cap cs :: r) := fun _ x => by
  rcases lst_vec x with ⟨h0, _⟩ | ⟨b', junk, e, h1, h2, h3, h4⟩
  · cases h0
  obtain rfl : b = b' := by simpa using e
  simp only [List.length_append, List.length_cons, List.length_nil] at h2 h3
  refine lst_vec_mk (junk := v :: junk) (by omega) (by omega) (by simp; omega) ?_
  rw [show cs ++ v :: junk = cs ++ [v] ++ junk by simp]
  exact h4
theorem ent_vecCutR' {l r : List HP} {E b m cap : Nat} {L : List Nat} {z : Nat} (hr : Rem l (Vec E 1 (some ⟨b, 0, none⟩) (m + 1) cap (u32s (L ++ [z]))) r) : Ent l (Vec E 1 (some ⟨b, 0, none⟩) m cap (u32s L) :: r) := fun h x => by
  have y := hr.out x
  rw [snocU'] at y
  exact ent_vecCut' _ y
end Go.Sl
namespace Go.Ar
open Go.Lk Go.Sl Go.Tb Go.Lr Go.Gh Go.Proofs.Ytcgdkcdlglbigaa
structure AQs where
  kv : List (Nat × Nat)
  K : List Nat
  fr : List Nat
  Lo : List Nat
  Lf : List Nat
  bm : Nat
  aK : Nat
  cK : Nat
  af : Option Addr
  cf : Nat
/-- A cache, with its lists. -/
def ArcX (p po pa pf pb size : Nat) (O F A B : List Nat) (t : Nat) : HP := Exs (ι := AQs) fun q => [fact (Two size O F q.kv q.K q.fr q.Lo q.Lf ∧ 1 ≤ size ∧ size ≤ 1024 ∧ Inv size ⟨O, F, A, B, t⟩), obj p 90 [.int .i64 (size : Nat), .map (some q.bm), .slice (some ⟨q.aK, 0, none⟩) size q.cK, .slice q.af q.fr.length q.cf, .pointer (some ⟨po, 0, none⟩), .pointer (some ⟨pa, 0, none⟩), .pointer (some ⟨pf, 0, none⟩), .pointer (some ⟨pb, 0, none⟩), .int .i64 (t : Nat)], MapA .u32 (fun n : Nat => .int .u32 (n : Nat)) q.bm q.kv, Vec 31 1 (some ⟨q.aK, 0, none⟩) size q.cK (u32s q.K), Vec 31 1 q.af q.fr.length q.cf (u32s q.fr), LruAt po q.Lo, LruAt pf q.Lf, GhostAt pa (2 * size) A, GhostAt pb (2 * size) B]
/-- A cache. -/
def ArcAt (p size : Nat) (O F A B : List Nat) (t : Nat) : HP := Exs (ι := Nat × Nat × Nat × Nat) fun x => [ArcX p x.1 x.2.1 x.2.2.1 x.2.2.2 size O F A B t]
section
variable {r0 : Option Nat} {P : Program} {base : World} {n : Nat} {ds : List Deferred} {X : Exit → Act → World → Prop} {env : Env} {l r : List HP} {KK : Act → World → Prop} {c : Code} {all : Array Oper} {ro : List Oper} {p po pa pf pb size t : Nat} {O F A B : List Nat}
theorem ArcX.openK (h : ∀ (kv : List (Nat × Nat)) (K fr Lo Lf : List Nat) (bm aK cK : Nat) (af : Option Addr) (cf : Nat), Two size O F kv K fr Lo Lf → 1 ≤ size → size ≤ 1024 → Inv size ⟨O, F, A, B, t⟩ → TK base n ds KK env (obj p 90 [.int .i64 (size : Nat), .map (some bm), .slice (some ⟨aK, 0, none⟩) size cK, .slice af fr.length cf, .pointer (some ⟨po, 0, none⟩), .pointer (some ⟨pa, 0, none⟩), .pointer (some ⟨pf, 0, none⟩), .pointer (some ⟨pb, 0, none⟩), .int .i64 (t : Nat)] :: MapA .u32 (fun n : Nat => .int .u32 (n : Nat)) bm kv :: Vec 31 1 (some ⟨aK, 0, none⟩) size cK (u32s K) :: Vec 31 1 af fr.length cf (u32s fr) :: LruAt po Lo :: LruAt pf Lf :: GhostAt pa (2 * size) A :: GhostAt pb (2 * size) B :: r)) (hr : Rem l (ArcX p po pa pf pb size O F A B t) r := by (repeat (first | (with_reducible exact Rem.here _ _) | (with_reducible apply Rem.there) | fail)); done) : TK base n ds KK env l := by
  unfold ArcX at hr
  refine TK.exs hr fun ⟨kv, K, fr, Lo, Lf, bm, aK, cK, af, cf⟩ => ?_
  refine TK.fact fun ⟨h1, h2, h3, h4⟩ => ?_
  exact h kv K fr Lo Lf bm aK cK af cf h1 h2 h3 h4
theorem ArcX.openC (h : ∀ (kv : List (Nat × Nat)) (K fr Lo Lf : List Nat) (bm aK cK : Nat) (af : Option Addr) (cf : Nat), Two size O F kv K fr Lo Lf → 1 ≤ size → size ≤ 1024 → Inv size ⟨O, F, A, B, t⟩ → TC r0 P base n ds c X env (obj p 90 [.int .i64 (size : Nat), .map (some bm), .slice (some ⟨aK, 0, none⟩) size cK, .slice af fr.length cf, .pointer (some ⟨po, 0, none⟩), .pointer (some ⟨pa, 0, none⟩), .pointer (some ⟨pf, 0, none⟩), .pointer (some ⟨pb, 0, none⟩), .int .i64 (t : Nat)] :: MapA .u32 (fun n : Nat => .int .u32 (n : Nat)) bm kv :: Vec 31 1 (some ⟨aK, 0, none⟩) size cK (u32s K) :: Vec 31 1 af fr.length cf (u32s fr) :: LruAt po Lo :: LruAt pf Lf :: GhostAt pa (2 * size) A :: GhostAt pb (2 * size) B :: r)) (hr : Rem l (ArcX p po pa pf pb size O F A B t) r := by (repeat (first | (with_reducible exact Rem.here _ _) | (with_reducible apply Rem.there) | fail)); done) : TC r0 P base n ds c X env l := ArcX.openK h hr
theorem ArcX.openL (h : ∀ (kv : List (Nat × Nat)) (K fr Lo Lf : List Nat) (bm aK cK : Nat) (af : Option Addr) (cf : Nat), Two size O F kv K fr Lo Lf → 1 ≤ size → size ≤ 1024 → Inv size ⟨O, F, A, B, t⟩ → TL r0 P base n ds all ro X env (obj p 90 [.int .i64 (size : Nat), .map (some bm), .slice (some ⟨aK, 0, none⟩) size cK, .slice af fr.length cf, .pointer (some ⟨po, 0, none⟩), .pointer (some ⟨pa, 0, none⟩), .pointer (some ⟨pf, 0, none⟩), .pointer (some ⟨pb, 0, none⟩), .int .i64 (t : Nat)] :: MapA .u32 (fun n : Nat => .int .u32 (n : Nat)) bm kv :: Vec 31 1 (some ⟨aK, 0, none⟩) size cK (u32s K) :: Vec 31 1 af fr.length cf (u32s fr) :: LruAt po Lo :: LruAt pf Lf :: GhostAt pa (2 * size) A :: GhostAt pb (2 * size) B :: r)) (hr : Rem l (ArcX p po pa pf pb size O F A B t) r := by (repeat (first | (with_reducible exact Rem.here _ _) | (with_reducible apply Rem.there) | fail)); done) : TL r0 P base n ds all ro X env l := ArcX.openK h hr
theorem ArcX.shut {kv : List (Nat × Nat)} {K fr Lo Lf : List Nat} {bm aK cK : Nat} {af : Option Addr} {cf : Nat} (tw : Two size O F kv K fr Lo Lf) (h1 : 1 ≤ size) (h2 : size ≤ 1024) (h3 : Inv size ⟨O, F, A, B, t⟩) : Ent (obj p 90 [.int .i64 (size : Nat), .map (some bm), .slice (some ⟨aK, 0, none⟩) size cK, .slice af fr.length cf, .pointer (some ⟨po, 0, none⟩), .pointer (some ⟨pa, 0, none⟩), .pointer (some ⟨pf, 0, none⟩), .pointer (some ⟨pb, 0, none⟩), .int .i64 (t : Nat)] :: MapA .u32 (fun n : Nat => .int .u32 (n : Nat)) bm kv :: Vec 31 1 (some ⟨aK, 0, none⟩) size cK (u32s K) :: Vec 31 1 af fr.length cf (u32s fr) :: LruAt po Lo :: LruAt pf Lf :: GhostAt pa (2 * size) A :: GhostAt pb (2 * size) B :: r) (ArcX p po pa pf pb size O F A B t :: r) := by
  refine Ent.exs (⟨kv, K, fr, Lo, Lf, bm, aK, cK, af, cf⟩ : AQs) ?_
  exact Ent.fact ⟨tw, h1, h2, h3⟩ (Ent.refl _)
theorem ArcX.shutN {kv : List (Nat × Nat)} {K fr Lo Lf : List Nat} {bm aK cK : Nat} {af : Option Addr} {cf nf : Nat} (tw : Two size O F kv K fr Lo Lf) (h1 : 1 ≤ size) (h2 : size ≤ 1024) (h3 : Inv size ⟨O, F, A, B, t⟩) (hn : nf = fr.length) : Ent (obj p 90 [.int .i64 (size : Nat), .map (some bm), .slice (some ⟨aK, 0, none⟩) size cK, .slice af nf cf, .pointer (some ⟨po, 0, none⟩), .pointer (some ⟨pa, 0, none⟩), .pointer (some ⟨pf, 0, none⟩), .pointer (some ⟨pb, 0, none⟩), .int .i64 (t : Nat)] :: MapA .u32 (fun n : Nat => .int .u32 (n : Nat)) bm kv :: Vec 31 1 (some ⟨aK, 0, none⟩) size cK (u32s K) :: Vec 31 1 af nf cf (u32s fr) :: LruAt po Lo :: LruAt pf Lf :: GhostAt pa (2 * size) A :: GhostAt pb (2 * size) B :: r) (ArcX p po pa pf pb size O F A B t :: r) := by
  subst hn
  exact ArcX.shut tw h1 h2 h3
theorem ArcAt.openK (h : ∀ po pa pf pb : Nat, TK base n ds KK env (ArcX p po pa pf pb size O F A B t :: r)) (hr : Rem l (ArcAt p size O F A B t) r := by (repeat (first | (with_reducible exact Rem.here _ _) | (with_reducible apply Rem.there) | fail)); done) : TK base n ds KK env l := by
  unfold ArcAt at hr
  exact TK.exs hr fun ⟨po, pa, pf, pb⟩ => h po pa pf pb
theorem ArcAt.openC (h : ∀ po pa pf pb : Nat, TC r0 P base n ds c X env (ArcX p po pa pf pb size O F A B t :: r)) (hr : Rem l (ArcAt p size O F A B t) r := by (repeat (first | (with_reducible exact Rem.here _ _) | (with_reducible apply Rem.there) | fail)); done) : TC r0 P base n ds c X env l := ArcAt.openK h hr
theorem ArcAt.shut : Ent (ArcX p po pa pf pb size O F A B t :: r) (ArcAt p size O F A B t :: r) := Ent.exs (po, pa, pf, pb) (Ent.refl _)
/-- What a cache says of itself. -/
theorem ArcAt.facts (h : Inv size ⟨O, F, A, B, t⟩ → (∀ k, k ∈ O ∨ k ∈ F → k < 4294967296) → 1 ≤ size → size ≤ 1024 → TK base n ds KK env l) (hr : Rem l (ArcAt p size O F A B t) r := by (repeat (first | (with_reducible exact Rem.here _ _) | (with_reducible apply Rem.there) | fail)); done) : TK base n ds KK env l := by
  refine TK.know (p := Inv size ⟨O, F, A, B, t⟩ ∧ (∀ k, k ∈ O ∨ k ∈ F → k < 4294967296) ∧ 1 ≤ size ∧ size ≤ 1024) (fun _ y => ?_) fun ⟨a, b, c, d⟩ => h a b c d
  unfold ArcAt at hr
  obtain ⟨⟨po, pa, pf, pb⟩, y⟩ := exs_out hr y
  unfold ArcX at y
  obtain ⟨⟨kv, K, fr, Lo, Lf, bm, aK, cK, af, cf⟩, y⟩ := exs_out (.here _ _) y
  obtain ⟨⟨tw, h1, h2, h3⟩, y⟩ := lst_fact y
  exact ⟨h3, fun k hk => hk.elim (tw.qkl k) (tw.mkl k), h1, h2⟩
theorem ArcAt.factsC (h : Inv size ⟨O, F, A, B, t⟩ → (∀ k, k ∈ O ∨ k ∈ F → k < 4294967296) → 1 ≤ size → size ≤ 1024 → TC r0 P base n ds c X env l) (hr : Rem l (ArcAt p size O F A B t) r := by (repeat (first | (with_reducible exact Rem.here _ _) | (with_reducible apply Rem.there) | fail)); done) : TC r0 P base n ds c X env l := ArcAt.facts h hr
end
end Go.Ar
