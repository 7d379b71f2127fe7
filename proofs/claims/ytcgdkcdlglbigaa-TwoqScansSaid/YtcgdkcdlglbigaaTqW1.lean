/- twoq, walked: a cache. -/
import Derived.Test.YtcgdkcdlglbigaaTqSt
import Derived.Test.YtcgdkcdlglbigaaLrW3
import Derived.Test.YtcgdkcdlglbigaaSlClone
import Derived.Test.YtcgdkcdlglbigaaSlHq
import Derived.Test.YtcgdkcdlglbigaaEqTypes
namespace Go.Tq
open Go.Lk Go.Sl Go.Tb Go.Lr Go.Gh Go.Proofs.Ytcgdkcdlglbigaa
structure TQs where
  kv : List (Nat × Nat)
  K : List Nat
  fr : List Nat
  Lq : List Nat
  Lm : List Nat
  bm : Nat
  aK : Nat
  cK : Nat
  af : Option Addr
  cf : Nat
/-- A cache, with its lists. -/
def TwoqX (p pq pm pg size most gm : Nat) (Q M G : List Nat) : HP := Exs (ι := TQs) fun q => [fact (Two size Q M q.kv q.K q.fr q.Lq q.Lm ∧ 1 ≤ size ∧ size ≤ 1024 ∧ most ≤ size ∧ gm ≤ 1024 ∧ G.length ≤ gm), obj p 65 [.map (some q.bm), .slice (some ⟨q.aK, 0, none⟩) size q.cK, .slice q.af q.fr.length q.cf, .int .i64 (size : Nat), .int .i64 (most : Nat), .pointer (some ⟨pq, 0, none⟩), .pointer (some ⟨pm, 0, none⟩), .pointer (some ⟨pg, 0, none⟩)], MapA .u32 (fun n : Nat => .int .u32 (n : Nat)) q.bm q.kv, Vec 31 1 (some ⟨q.aK, 0, none⟩) size q.cK (u32s q.K), Vec 31 1 q.af q.fr.length q.cf (u32s q.fr), LruAt pq q.Lq, LruAt pm q.Lm, GhostAt pg gm G]
/-- A cache. -/
def TwoqAt (p size most gm : Nat) (Q M G : List Nat) : HP := Exs (ι := Nat × Nat × Nat) fun x => [TwoqX p x.1 x.2.1 x.2.2 size most gm Q M G]
section
variable {r0 : Option Nat} {P : Program} {base : World} {n : Nat} {ds : List Deferred} {X : Exit → Act → World → Prop} {env : Env} {l r : List HP} {KK : Act → World → Prop} {c : Code} {all : Array Oper} {ro : List Oper} {p pq pm pg size most gm : Nat} {Q M G : List Nat}
theorem TwoqX.openK (h : ∀ (kv : List (Nat × Nat)) (K fr Lq Lm : List Nat) (bm aK cK : Nat) (af : Option Addr) (cf : Nat), Two size Q M kv K fr Lq Lm → 1 ≤ size → size ≤ 1024 → most ≤ size → gm ≤ 1024 → G.length ≤ gm → TK base n ds KK env (obj p 65 [.map (some bm), .slice (some ⟨aK, 0, none⟩) size cK, .slice af fr.length cf, .int .i64 (size : Nat), .int .i64 (most : Nat), .pointer (some ⟨pq, 0, none⟩), .pointer (some ⟨pm, 0, none⟩), .pointer (some ⟨pg, 0, none⟩)] :: MapA .u32 (fun n : Nat => .int .u32 (n : Nat)) bm kv :: Vec 31 1 (some ⟨aK, 0, none⟩) size cK (u32s K) :: Vec 31 1 af fr.length cf (u32s fr) :: LruAt pq Lq :: LruAt pm Lm :: GhostAt pg gm G :: r)) (hr : Rem l (TwoqX p pq pm pg size most gm Q M G) r := by (repeat (first | (with_reducible exact Rem.here _ _) | (with_reducible apply Rem.there) | fail)); done) : TK base n ds KK env l := by
  unfold TwoqX at hr
  refine TK.exs hr fun ⟨kv, K, fr, Lq, Lm, bm, aK, cK, af, cf⟩ => ?_
  refine TK.fact fun ⟨h1, h2, h3, h4, h5, h6⟩ => ?_
  exact h kv K fr Lq Lm bm aK cK af cf h1 h2 h3 h4 h5 h6
theorem TwoqX.openC (h : ∀ (kv : List (Nat × Nat)) (K fr Lq Lm : List Nat) (bm aK cK : Nat) (af : Option Addr) (cf : Nat), Two size Q M kv K fr Lq Lm → 1 ≤ size → size ≤ 1024 → most ≤ size → gm ≤ 1024 → G.length ≤ gm → TC r0 P base n ds c X env (obj p 65 [.map (some bm), .slice (some ⟨aK, 0, none⟩) size cK, .slice af fr.length cf, .int .i64 (size : Nat), .int .i64 (most : Nat), .pointer (some ⟨pq, 0, none⟩), .pointer (some ⟨pm, 0, none⟩), .pointer (some ⟨pg, 0, none⟩)] :: MapA .u32 (fun n : Nat => .int .u32 (n : Nat)) bm kv :: Vec 31 1 (some ⟨aK, 0, none⟩) size cK (u32s K) :: Vec 31 1 af fr.length cf (u32s fr) :: LruAt pq Lq :: LruAt pm Lm :: GhostAt pg gm G :: r)) (hr : Rem l (TwoqX p pq pm pg size most gm Q M G) r := by (repeat (first | (with_reducible exact Rem.here _ _) | (with_reducible apply Rem.there) | fail)); done) : TC r0 P base n ds c X env l := TwoqX.openK h hr
theorem TwoqX.openL (h : ∀ (kv : List (Nat × Nat)) (K fr Lq Lm : List Nat) (bm aK cK : Nat) (af : Option Addr) (cf : Nat), Two size Q M kv K fr Lq Lm → 1 ≤ size → size ≤ 1024 → most ≤ size → gm ≤ 1024 → G.length ≤ gm → TL r0 P base n ds all ro X env (obj p 65 [.map (some bm), .slice (some ⟨aK, 0, none⟩) size cK, .slice af fr.length cf, .int .i64 (size : Nat), .int .i64 (most : Nat), .pointer (some ⟨pq, 0, none⟩), .pointer (some ⟨pm, 0, none⟩), .pointer (some ⟨pg, 0, none⟩)] :: MapA .u32 (fun n : Nat => .int .u32 (n : Nat)) bm kv :: Vec 31 1 (some ⟨aK, 0, none⟩) size cK (u32s K) :: Vec 31 1 af fr.length cf (u32s fr) :: LruAt pq Lq :: LruAt pm Lm :: GhostAt pg gm G :: r)) (hr : Rem l (TwoqX p pq pm pg size most gm Q M G) r := by (repeat (first | (with_reducible exact Rem.here _ _) | (with_reducible apply Rem.there) | fail)); done) : TL r0 P base n ds all ro X env l := TwoqX.openK h hr
theorem TwoqX.shut {kv : List (Nat × Nat)} {K fr Lq Lm : List Nat} {bm aK cK : Nat} {af : Option Addr} {cf : Nat} (t : Two size Q M kv K fr Lq Lm) (h1 : 1 ≤ size) (h2 : size ≤ 1024) (h3 : most ≤ size) (h4 : gm ≤ 1024) (h5 : G.length ≤ gm) : Ent (obj p 65 [.map (some bm), .slice (some ⟨aK, 0, none⟩) size cK, .slice af fr.length cf, .int .i64 (size : Nat), .int .i64 (most : Nat), .pointer (some ⟨pq, 0, none⟩), .pointer (some ⟨pm, 0, none⟩), .pointer (some ⟨pg, 0, none⟩)] :: MapA .u32 (fun n : Nat => .int .u32 (n : Nat)) bm kv :: Vec 31 1 (some ⟨aK, 0, none⟩) size cK (u32s K) :: Vec 31 1 af fr.length cf (u32s fr) :: LruAt pq Lq :: LruAt pm Lm :: GhostAt pg gm G :: r) (TwoqX p pq pm pg size most gm Q M G :: r) := by
  refine Ent.exs (⟨kv, K, fr, Lq, Lm, bm, aK, cK, af, cf⟩ : TQs) ?_
  exact Ent.fact ⟨t, h1, h2, h3, h4, h5⟩ (Ent.refl _)
theorem TwoqX.shutN {kv : List (Nat × Nat)} {K fr Lq Lm : List Nat} {bm aK cK : Nat} {af : Option Addr} {cf nf : Nat} (t : Two size Q M kv K fr Lq Lm) (h1 : 1 ≤ size) (h2 : size ≤ 1024) (h3 : most ≤ size) (h4 : gm ≤ 1024) (h5 : G.length ≤ gm) (hn : nf = fr.length) : Ent (obj p 65 [.map (some bm), .slice (some ⟨aK, 0, none⟩) size cK, .slice af nf cf, .int .i64 (size : Nat), .int .i64 (most : Nat), .pointer (some ⟨pq, 0, none⟩), .pointer (some ⟨pm, 0, none⟩), .pointer (some ⟨pg, 0, none⟩)] :: MapA .u32 (fun n : Nat => .int .u32 (n : Nat)) bm kv :: Vec 31 1 (some ⟨aK, 0, none⟩) size cK (u32s K) :: Vec 31 1 af nf cf (u32s fr) :: LruAt pq Lq :: LruAt pm Lm :: GhostAt pg gm G :: r) (TwoqX p pq pm pg size most gm Q M G :: r) := by
  subst hn
  exact TwoqX.shut t h1 h2 h3 h4 h5
theorem TwoqAt.openK (h : ∀ pq pm pg : Nat, TK base n ds KK env (TwoqX p pq pm pg size most gm Q M G :: r)) (hr : Rem l (TwoqAt p size most gm Q M G) r := by (repeat (first | (with_reducible exact Rem.here _ _) | (with_reducible apply Rem.there) | fail)); done) : TK base n ds KK env l := by
  unfold TwoqAt at hr
  exact TK.exs hr fun ⟨pq, pm, pg⟩ => h pq pm pg
theorem TwoqAt.openC (h : ∀ pq pm pg : Nat, TC r0 P base n ds c X env (TwoqX p pq pm pg size most gm Q M G :: r)) (hr : Rem l (TwoqAt p size most gm Q M G) r := by (repeat (first | (with_reducible exact Rem.here _ _) | (with_reducible apply Rem.there) | fail)); done) : TC r0 P base n ds c X env l := TwoqAt.openK h hr
theorem TwoqAt.shut : Ent (TwoqX p pq pm pg size most gm Q M G :: r) (TwoqAt p size most gm Q M G :: r) := Ent.exs (pq, pm, pg) (Ent.refl _)
/-- What a cache says of itself. -/
theorem TwoqAt.facts (h : Ok size gm ⟨Q, M, G⟩ → 1 ≤ size → size ≤ 1024 → most ≤ size → gm ≤ 1024 → TK base n ds KK env l) (hr : Rem l (TwoqAt p size most gm Q M G) r := by (repeat (first | (with_reducible exact Rem.here _ _) | (with_reducible apply Rem.there) | fail)); done) : TK base n ds KK env l := by
  refine TK.know (p := Ok size gm ⟨Q, M, G⟩ ∧ 1 ≤ size ∧ size ≤ 1024 ∧ most ≤ size ∧ gm ≤ 1024) (fun _ y => ?_) fun ⟨a, b, c, d, e⟩ => h a b c d e
  unfold TwoqAt at hr
  obtain ⟨⟨pq, pm, pg⟩, y⟩ := exs_out hr y
  unfold TwoqX at y
  obtain ⟨⟨kv, K, fr, Lq, Lm, bm, aK, cK, af, cf⟩, y⟩ := exs_out (.here _ _) y
  obtain ⟨⟨t, h1, h2, h3, h4, h5⟩, y⟩ := lst_fact y
  unfold GhostAt at y
  obtain ⟨q, y⟩ := exs_out (.there _ (.there _ (.there _ (.there _ (.there _ (.there _ (.here _ _))))))) y
  unfold parts at y
  exact ⟨⟨t.qnd, t.mnd, fun k => t.disj, t.le, (lst_fact y).1.nd, h5, fun k hk => hk.elim (t.qkl k) (t.mkl k)⟩, h1, h2, h3, h4⟩
theorem TwoqAt.factsC (h : Ok size gm ⟨Q, M, G⟩ → 1 ≤ size → size ≤ 1024 → most ≤ size → gm ≤ 1024 → TC r0 P base n ds c X env l) (hr : Rem l (TwoqAt p size most gm Q M G) r := by (repeat (first | (with_reducible exact Rem.here _ _) | (with_reducible apply Rem.there) | fail)); done) : TC r0 P base n ds c X env l := TwoqAt.facts h hr
theorem snocU {A : List Nat} {x : Nat} : u32s (A ++ [x]) = u32s A ++ [.int .u32 (x : Nat)] := by simp [u32s]
/-- The last one of a slice is given up. -/
theorem ent_vecCut {E b m cap : Nat} {cs : List Value} {v : Value} : Ent (Vec E 1 (some ⟨b, 0, none⟩) (m + 1) cap (cs ++ [v]) :: r) (Vec E 1 (some ⟨b, 0, none⟩) m cap cs :: r) := fun _ x => by
  rcases lst_vec x with ⟨h0, _⟩ | ⟨b', junk, e, h1, h2, h3, h4⟩
  · cases h0
  obtain rfl : b = b' := by simpa using e
  simp only [List.length_append, List.length_cons, List.length_nil] at h2 h3
  refine lst_vec_mk (junk := v :: junk) (by omega) (by omega) (by simp; omega) ?_
  rw [show cs ++ v :: junk = cs ++ [v] ++ junk by simp]
  exact h4
theorem ent_vecCutR {E b m cap : Nat} {L : List Nat} {z : Nat} (hr : Rem l (Vec E 1 (some ⟨b, 0, none⟩) (m + 1) cap (u32s (L ++ [z]))) r) : Ent l (Vec E 1 (some ⟨b, 0, none⟩) m cap (u32s L) :: r) := fun h x => by
  have y := hr.out x
  rw [show u32s (L ++ [z]) = u32s L ++ [.int .u32 (z : Nat)] by simp [u32s]] at y
  exact ent_vecCut _ y
end
end Go.Tq
