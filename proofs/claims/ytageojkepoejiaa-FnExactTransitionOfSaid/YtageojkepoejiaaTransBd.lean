/-
  TransitionOf: how large its answers are.
-/
import Derived.Test.YtageojkepoejiaaTransS
namespace Go.Proofs.Ytageojkepoejiaa
open Go.RowKit

theorem implTrans_capany (a : Option Addr) (n c : Nat) (xs : List Int) (w : World) (hr : RI w a xs) (hn : xs.length = n) (hb : n ≤ 1048576) (_hcap : n ≤ c) :
    Calls Try.prog 10 #[.slice a n c] w (PostTr xs w) := implTrans_any a n c xs w hr hn hb
theorem tr1_len (xs : List Int) : (tr1 xs).length ≤ 7 := by
  cases h : trOk xs with
  | false => rw [(tr_no h).2.1]; simp
  | true =>
    rw [(tr_yes h).2.1, (trV_facts h).2.1]
    exact ((isPerm_iff xs).1 (tr_facts h).1).2.1
theorem sz_II_bound {m : Nat} : ∀ {xss : List (List Int)}, (∀ p ∈ xss, p.length ≤ m) → sz_II xss ≤ xss.length * m
  | [], _ => by simp [sz_II]
  | x :: l, h => by
    have := sz_II_bound (xss := l) (fun p hp => h p (List.mem_cons_of_mem _ hp))
    have := h x List.mem_cons_self
    rw [sz_II, List.length_cons, Nat.add_mul]
    omega
theorem tr2_few (xs : List Int) : (tr2 xs).length ≤ 7 ∧ sz_II (tr2 xs) ≤ 49 ∧ ShortII (tr2 xs) := by
  cases h : trOk xs with
  | false => rw [(tr_no h).2.2.1]; exact ⟨by simp, by simp [sz_II], fun p hp => by cases hp⟩
  | true =>
    rw [(tr_yes h).2.2]
    have h7 : (trV xs).length ≤ 7 := by
      rw [(trV_facts h).2.1]
      exact ((isPerm_iff xs).1 (tr_facts h).1).2.1
    have h1 : (ascOf (trTo (trV xs) (trR xs) (trR xs))).length ≤ 7 := by
      have h2 := trTo_len (trV xs) (trR xs) (trR xs)
      have h3 := ascOf_length (trTo (trV xs) (trR xs) (trR xs))
      have h4 := (tr_facts h).2.1
      have h5 := ((isPerm_iff xs).1 (tr_facts h).1).2.1
      omega
    have h2 := ascOf_short (v := trV xs) (r := trR xs) (k := trR xs) h7
    refine ⟨h1, ?_, fun p hp => Nat.le_trans (h2 p hp) (by omega)⟩
    have := sz_II_bound h2
    omega
end Go.Proofs.Ytageojkepoejiaa
