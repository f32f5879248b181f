/-
  append of a row of int slices to another, as a step of a region that draws its order.
-/
import Derived.Test.YtageojkepoejiaaInsL
namespace Go.Proofs.Ytageojkepoejiaa
open Go.RowKit

theorem step_appV {w : World} {ops : Array Oper} {o : Oper} {ac : Act} {K : Act → World → Prop} {Q : Exit → Act → World → Prop} (hwant : Region.wanted o (yielded ops ac.tmps) = true) (s x : Operand)
    (ho : o.op = .call { callee := .builtin .append, args := #[s, x], argTypes := #[23, 23] })
    {B : Nat} {a : Option Addr} {n c : Nat} {vs : List Value} (hown : w.ownsRow B 22 1 (.slice a n c) n vs) (hs : ac.eval s = .slice a n c)
    {b : Option Addr} {m d : Nat} (us : List Value) (hx : ac.eval x = .slice b m d) (hl : us.length = m) (hna : b = none → m = 0)
    (hnews : ∀ ad, b = some ad → ∀ j u, us[j]? = some u → w.cell? (ad.add j) = some u) (h1 : ∀ u ∈ us, u.oneCell' = true) {N : Nat} (hN : n + m = N) (hn : N ≤ 16777216) (hbase : B ≤ w.heap.size)
    (h : ∀ a' c' w', w'.ownsRow B 22 1 (.slice a' N c') N (vs ++ us) → Grows w w' (.slice a n c) (.slice a' N c') → K (ac.put o.dst (.slice a' N c')) w') :
    if Region.wanted o (yielded ops ac.tmps) = true then Oper.wp Try.prog o ac w K Q else K (ac.put o.dst undef) w := by
  subst hN
  rw [if_pos hwant]
  obtain ⟨i0, hi, hz0, hz1, hz2⟩ := info_parts Try.info22
  obtain ⟨v', w', hr, h2, h3⟩ := run_app (P := Try.prog) w B 23 o.type 22 i0 (.slice none 0 0) 24 Try.underlying23 hi hz0 hz1 hz2 rfl (.slice a n c) n vs hown b m d us hl hna hnews h1 hn (by omega) hbase
  obtain ⟨a', c', rfl, _⟩ := slice_of h2
  unfold Oper.wp execOp
  simp only [ho, resolve, invoke, builtin, Sem.run_bind, Sem.run_pure, Result.andThen_ok, List.map_toArray, List.map_cons, List.map_nil, hs, hx, hr]
  exact h a' c' w' h2 h3
end Go.Proofs.Ytageojkepoejiaa
