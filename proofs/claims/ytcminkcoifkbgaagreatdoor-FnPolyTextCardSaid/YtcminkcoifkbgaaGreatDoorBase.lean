/-
  What the contracts speak of: slices of integers in memory, worlds that have moved on.
-/
import Derived.Test.YtcminkcoifkbgaaGreatDoorRows
import Derived.WalkKit
import Derived.WalkSpells
import Derived.WalkLawsBesides
import Derived.Deep.QuietTactic
import Derived.BigQuiet
import Derived.Lib.Hide
namespace Go.Proofs.YtcminkcoifkbgaaGreatDoor
open Go.RowKit

/-- the slice at address a reads as xs -/
def RI (w : World) (a : Option Addr) (xs : List Int) : Prop :=
  xs = [] ∨ ∃ b off, a = some ⟨b, off, none⟩ ∧ ∀ k x, xs[k]? = some x → w.cell? ⟨b, off + k, none⟩ = some (.int .i64 x)

theorem ret_bool {a b : Bool} (h : a = b) : Ending.returned (.bool a) = .returned (.bool b) := by rw [h]
theorem ret_int {k : IntKind} {a b : Int} (h : a = b) : Ending.returned (.int k a) = .returned (.int k b) := by rw [h]

theorem RI.at {w : World} {a : Option Addr} {xs : List Int} (h : RI w a xs) {k : Nat} (hk : k < xs.length) :
    ∃ b off, a = some ⟨b, off, none⟩ ∧ ∀ k x, xs[k]? = some x → w.cell? ⟨b, off + k, none⟩ = some (.int .i64 x) := by
  rcases h with rfl | h
  · simp at hk
  · exact h

/-- the world has moved on by draws alone -/
def Drew (w w' : World) : Prop := ∃ m, w' = w.drewN m
theorem Drew.refl (w : World) : Drew w w := ⟨0, rfl⟩
theorem Drew.drewN (w : World) (n : Nat) : Drew w (w.drewN n) := ⟨n, rfl⟩
theorem Drew.trans {a b c : World} (h : Drew a b) (k : Drew b c) : Drew a c := by
  obtain ⟨m, rfl⟩ := h; obtain ⟨n, rfl⟩ := k; exact ⟨m + n, World.drewN_drewN ..⟩
theorem Drew.cell {w w' : World} (h : Drew w w') (p : Addr) : w'.cell? p = w.cell? p := by obtain ⟨m, rfl⟩ := h; simp
theorem Drew.below {w w' : World} (h : Drew w w') (B : Nat) : Below B w w' := by obtain ⟨m, rfl⟩ := h; exact ⟨rfl, rfl, rfl, Nat.le_refl _, fun _ _ => rfl⟩
theorem RI.drew {w w' : World} {a : Option Addr} {xs : List Int} (h : RI w a xs) (d : Drew w w') : RI w' a xs := by
  rcases h with h | ⟨b, off, ha, hc⟩
  · exact .inl h
  · exact .inr ⟨b, off, ha, fun k x hx => by rw [d.cell]; exact hc k x hx⟩
/-- a callee's contract, met inside a region that is walked quietly -/
theorem quiet {P : Program} {f : FuncId} {args : Array Value} {w : World} {n : Nat} {v : Value}
    (h : Calls P f args (w.drewN n) fun e w' => e = .returned v ∧ Drew (w.drewN n) w') : Calls P f args (w.drewN n) fun e w'' => e = .returned v ∧ ∃ m, w'' = w.drewN m :=
  h.mono fun _ _ ⟨he, hd⟩ => ⟨he, (Drew.drewN w n).trans hd⟩

theorem Tryz.info3 : (Tryz.prog.info? 3).map (fun i => (i.zero, i.size, i.bytes)) = some (some (.int .i64 0), 1, 8) := by kernel_rfl

def ints (xs : List Int) : List Value := xs.map (Value.int .i64)
/-- the slice v is a row of the call's own, from block B on, and holds xs -/
def OI (w : World) (B : Nat) (v : Value) (xs : List Int) : Prop := w.ownsRow B 3 1 v xs.length (ints xs)
/-- the same of a slice value that is written out -/
def OS (w : World) (B : Nat) (a : Option Addr) (n c : Nat) (xs : List Int) : Prop := xs.length = n ∧ OI w B (.slice a n c) xs
theorem OI.below {w w' : World} {B : Nat} {v : Value} {xs : List Int} (h : OI w B v xs) (hb : Below w.heap.size w w') : OI w' B v xs := by
  refine ⟨h.1, ?_⟩
  rcases h.2 with h2 | ⟨g, cap, cur, hv, hg, hh, r⟩
  · exact .inl h2
  · exact .inr ⟨g, cap, cur, hv, hg, by rw [hb.block g (Array.getElem?_eq_some_iff.1 hh).1]; exact hh, r⟩
theorem OS.below {w w' : World} {B : Nat} {a : Option Addr} {n c : Nat} {xs : List Int} (h : OS w B a n c xs) (hb : Below w.heap.size w w') : OS w' B a n c xs := ⟨h.1, h.2.below hb⟩
theorem RI.below {w w' : World} {a : Option Addr} {xs : List Int} (h : RI w a xs) (hb : Below w.heap.size w w') : RI w' a xs := by
  rcases h with h | ⟨b, off, ha, hc⟩
  · exact .inl h
  · exact .inr ⟨b, off, ha, fun k x hx => by rw [hb.cell (World.block_lt_of_cell? w _ (hc k x hx))]; exact hc k x hx⟩
theorem OS.ri {w : World} {B : Nat} {a : Option Addr} {n c : Nat} {xs : List Int} (h : OS w B a n c xs) : RI w a xs := by
  obtain ⟨rfl, h⟩ := h
  rcases h.2 with ⟨_, h2⟩ | ⟨g, cap, cur, hv, _⟩
  · exact .inl (List.eq_nil_of_length_eq_zero h2)
  · simp only [Value.slice.injEq] at hv
    obtain ⟨rfl, _, rfl⟩ := hv
    refine .inr ⟨g, 0, rfl, fun k x hx => ?_⟩
    have hk : k < xs.length := (List.getElem?_eq_some_iff.1 hx).1
    have := h.cellAt k (by omega)
    rw [Nat.zero_add, this]
    simp [ints, hx]
/-- the n elements are the first n of the capacity -/
theorem OS.lt {w : World} {B : Nat} {a : Option Addr} {n c : Nat} {xs : List Int} (h : OS w B a n c xs) : n ≤ c := by
  obtain ⟨rfl, h⟩ := h
  rcases h.2 with ⟨h1, h2⟩ | ⟨g, cap, cur, hv, _, _, hl, _⟩
  · omega
  · simp only [Value.slice.injEq] at hv
    omega
/-- a callee whose answer is known -/
theorem is {P : Program} {f : FuncId} {args : Array Value} {w : World} {x b : Bool} {Q : World → Prop} (h : Calls P f args w fun e w' => e = .returned (.bool x) ∧ Q w') (hx : x = b) :
    Calls P f args w fun e w' => e = .returned (.bool b) ∧ Q w' := by rw [← hx]; exact h
theorem isInt {P : Program} {f : FuncId} {args : Array Value} {w : World} {x b : Int} {Q : World → Prop} (h : Calls P f args w fun e w' => e = .returned (.int .i64 x) ∧ Q w') (hx : x = b) :
    Calls P f args w fun e w' => e = .returned (.int .i64 b) ∧ Q w' := by rw [← hx]; exact h
theorem getD_of {xs : List Int} {k : Nat} {x : Int} (h : xs[k]? = some x) : xs.getD k 0 = x := by rw [List.getD_eq_getElem?_getD, h]; rfl
theorem some_at {xs : List Int} {n k : Nat} (h : xs.length = n) (hk : k < n) : ∃ x, xs[k]? = some x := ⟨xs[k]'(by omega), by simp⟩
end Go.Proofs.YtcminkcoifkbgaaGreatDoor
