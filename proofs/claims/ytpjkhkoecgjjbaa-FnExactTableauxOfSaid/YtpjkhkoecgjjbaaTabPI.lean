/-
  What is known when the program fills on; the steps between.
-/
import Derived.Test.YtpjkhkoecgjjbaaTabClo
namespace Go.Proofs.Ytpjkhkoecgjjbaa
open Go.RowKit

theorem IIS.at {w : World} {B S : Nat} {a : Option Addr} {n c : Nat} {xss : List (List Int)} (h : IIS w B S a n c xss) {k : Nat} (hk : k < xss.length) :
    ∃ g, a = some ⟨g, 0, none⟩ ∧ ∀ k xs, xss[k]? = some xs → ∃ a' c', w.cell? ⟨g, k, none⟩ = some (.slice a' xs.length c') ∧ RI w a' xs := by
  obtain ⟨vs, h1, _, h3⟩ := h
  rcases ownsRow_shape h1 with ⟨_, _, _, hv⟩ | ⟨g, rfl, _, _, hc, _⟩
  · have := h3.len
    rw [hv] at this
    simp at this
    omega
  · refine ⟨g, rfl, fun k xs hx => ?_⟩
    obtain ⟨a', c', hk, ho⟩ := h3.each k xs hx
    exact ⟨a', c', hc k _ hk, ho.rd⟩
theorem IIS.nil (w : World) (B S : Nat) : IIS w B S none 0 0 [] := ⟨[], World.ownsRow_nil _ _ _ _, by simp [Value.ownBlock], rfl, by simp⟩
/-- a tableau stays where the list and the box are written -/
theorem IIS.keep {w wr : World} {A B T S : Nat} {at' al : Option Addr} {m ct k cl : Nat} {t : List (List Int)} {L : List (List (List Int))} (ht : IIS w B S at' m ct t) (hl : LB w A B T al k cl L) (hA : A < B) (hb : But (fun q => q = A ∨ (Value.slice al k cl).ownBlock = some q) w wr) : IIS wr B S at' m ct t := by
  refine ht.but hb (fun q hq hp => ?_) (fun q cur h1 h2 h3 hp => ?_)
  · rcases hp with rfl | hp
    · have := ht.lo _ hq; omega
    · obtain ⟨cur, hc⟩ := ht.type q hq
      obtain ⟨cur2, hc2⟩ := (hl.weak hA).type q hp
      rw [hc] at hc2
      simp at hc2
  · rcases hp with rfl | hp
    · omega
    · obtain ⟨cur2, hc2⟩ := (hl.weak hA).type q hp
      rw [h3] at hc2
      simp at hc2
structure FillPreI (shape : List Int) (A B T : Nat) (ash : Option Addr) (ns : Nat) (at' : Option Addr) (m ct : Nat) (t : List (List Int)) (al : Option Addr) (k cl : Nat) (L : List (List (List Int))) (w : World) : Prop where
  psh : ShB w (A - 1) ash shape
  pns : shape.length = ns
  pt : IIS w B w.heap.size at' m ct t
  pA : A < B
  pB : B ≤ w.heap.size
  pBT : B ≤ T
  pT : T ≤ w.heap.size
  pl : LB w A B T al k cl L
  pbox : w.cell? ⟨A, 0, none⟩ = some (.slice al k cl)
  pfz : w.frozen? ⟨A, 0, none⟩ = false
  ptl : ∀ q, (Value.slice at' m ct).ownBlock = some q → T ≤ q
  pok : TOk shape t
  pk : k ≤ 400
def FillPostI (w : World) (A B : Nat) (at' : Option Addr) (m ct : Nat) (al : Option Addr) (k cl : Nat) (L D : List (List (List Int))) (e : Ending) (w' : World) : Prop :=
  ∃ (a' : Option Addr) (k' c' : Nat) (L' : List (List (List Int))), e = .returned (.bool (decide ((k' : Int) ≤ 400))) ∧ w'.cell? ⟨A, 0, none⟩ = some (.slice a' k' c') ∧ w'.frozen? ⟨A, 0, none⟩ = false ∧ LB w' A B w'.heap.size a' k' c' L' ∧ Hid (Cut L D L') ∧
    But (fun q => q = A ∨ (Value.slice al k cl).ownBlock = some q ∨ (Value.slice at' m ct).ownBlock = some q) w w' ∧ ((Value.slice a' k' c').ownBlock = (Value.slice al k cl).ownBlock ∨ ∀ q, (Value.slice a' k' c').ownBlock = some q → w.heap.size ≤ q)
def FillIhI (shape : List Int) (n : Int) (N : Nat) : Prop := ∀ (A B T : Nat) (ash : Option Addr) (ns csh : Nat) (at' : Option Addr) (m ct : Nat) (t : List (List Int)) (al : Option Addr) (k cl : Nat) (L : List (List (List Int))) (w : World), FillPreI shape A B T ash ns at' m ct t al k cl L w → leftT shape t < N →
    Calls Try.prog 20 #[.slice ash ns csh, .int .i64 n, .slice at' m ct, .func (.func 21) #[] #[.pointer (some ⟨A, 0, none⟩)]] w (FillPostI w A B at' m ct al k cl L (tabsOf shape n t))
/-- the search goes on with one row more -/
theorem FillPostI.before {w w2 w' : World} {A B : Nat} {at' a2 al : Option Addr} {m ct m2 c2 k cl : Nat} {L D : List (List (List Int))} {e : Ending} (hb : But (fun q => q = A ∨ (Value.slice al k cl).ownBlock = some q ∨ (Value.slice at' m ct).ownBlock = some q) w w2) (ht : (Value.slice a2 m2 c2).ownBlock = (Value.slice at' m ct).ownBlock ∨ ∀ q, (Value.slice a2 m2 c2).ownBlock = some q → w.heap.size ≤ q)
    (h : FillPostI w2 A B a2 m2 c2 al k cl L D e w') : FillPostI w A B at' m ct al k cl L D e w' := by
  obtain ⟨a', k', c', L', h1, h2, h3, h4, h5, h6, h7⟩ := h
  refine ⟨a', k', c', L', h1, h2, h3, h4, h5, hb.trans h6 fun i hi hq => ?_, ?_⟩
  · rcases hq with h | h | h
    · exact .inl h
    · exact .inr (.inl h)
    · rcases ht with ht | ht
      · rw [ht] at h; exact .inr (.inr h)
      · have := ht i h; omega
  · rcases h7 with h | h
    · exact .inl h
    · exact .inr fun q hq => Nat.le_trans hb.size (h q hq)
/-- what holds whenever the loop begins a round -/
def FillAtI (shape : List Int) (n : Int) (A B : Nat) (t : List (List Int)) (al : Option Addr) (k cl : Nat) (L : List (List (List Int))) (w : World) (x : Value) (wr : World) : Prop :=
  ∃ (i : Nat) (ak : Option Addr) (kk ck : Nat) (L' : List (List (List Int))), x = .int .i64 (lowT t + i) ∧ wr.cell? ⟨A, 0, none⟩ = some (.slice ak kk ck) ∧ wr.frozen? ⟨A, 0, none⟩ = false ∧ LB wr A B wr.heap.size ak kk ck L' ∧ Cut L (preT shape n t i) L' ∧ kk ≤ 400 ∧
    But (fun q => q = A ∨ (Value.slice al k cl).ownBlock = some q) w wr ∧ ((Value.slice ak kk ck).ownBlock = (Value.slice al k cl).ownBlock ∨ ∀ q, (Value.slice ak kk ck).ownBlock = some q → w.heap.size ≤ q) ∧ (i = 0 ∨ lowT t + i ≤ n)
theorem FillAtI.start {shape : List Int} {n : Int} {A B T : Nat} {ash at' : Option Addr} {ns m ct : Nat} {t : List (List Int)} {al : Option Addr} {k cl : Nat} {L : List (List (List Int))} {w : World} {x : Int} (hp : FillPreI shape A B T ash ns at' m ct t al k cl L w) (hx : x = lowT t) (d : Nat) : FillAtI shape n A B t al k cl L w (.int .i64 x) (w.drewN d) := by
  have hb : Below w.heap.size w (w.drewN d) := (Drew.drewN w d).below _
  refine ⟨0, al, k, cl, L, by subst hx; simp, by rw [(Drew.drewN w d).cell]; exact hp.pbox, ?_, (hp.pl.below hb).mono (Nat.le_trans hp.pT hb.size), by rw [preT_zero]; exact Cut.nil (by rw [hp.pl.len]; have := hp.pk; omega), hp.pk, But.of_below hb, .inl rfl, .inl rfl⟩
  rw [hb.frozen (p := ⟨A, 0, none⟩) (by have := hp.pA; have := hp.pB; show A < _; omega)]
  exact hp.pfz
/-- the next tableau is ready to be filled on -/
theorem FillPreI.next {shape : List Int} {A B T m c1 ns : Nat} {ash at' a1 al ak : Option Addr} {ct k cl kk ck S3 : Nat} {t : List (List Int)} {L L' : List (List (List Int))} {w wr w5 : World} {x : Int} (hp : FillPreI shape A B T ash ns at' m ct t al k cl L w) (hf : fullT shape t = false) (hx : 0 ≤ x ∧ x ≤ 7)
    (hbut : But (fun q => q = A ∨ (Value.slice al k cl).ownBlock = some q) w wr) (hl : LB wr A B wr.heap.size ak kk ck L') (hbox : wr.cell? ⟨A, 0, none⟩ = some (.slice ak kk ck)) (hfz : wr.frozen? ⟨A, 0, none⟩ = false) (hkk : kk ≤ 400)
    (hb5 : Below wr.heap.size wr w5) (h3 : IIS w5 B S3 a1 m c1 (putT t x)) (hS : S3 ≤ w5.heap.size) (hlo : ∀ q, (Value.slice a1 m c1).ownBlock = some q → wr.heap.size ≤ q) :
    FillPreI shape A B wr.heap.size ash ns a1 m c1 (putT t x) ak kk ck L' w5 := by
  have hA := hp.pA
  have hB := hp.pB
  have hsz := hbut.size
  have hsz5 := hb5.size
  have hbA : Below (A - 1) w wr := ⟨hbut.os, hbut.tape, hbut.output, hbut.size, fun q hq => hbut.block q (by omega) fun h => by
    rcases h with rfl | h
    · omega
    · have := (hp.pl.ne hA q h).1; omega⟩
  exact ⟨(hp.psh.below hbA).below (hb5.mono (by omega)), hp.pns, h3.mono hS, hA, by omega, by omega, hsz5, hl.below hb5, by rw [hb5.cell (p := ⟨A, 0, none⟩) (show A < _ by omega)]; exact hbox, by rw [hb5.frozen (p := ⟨A, 0, none⟩) (show A < _ by omega)]; exact hfz, hlo, hp.pok.put (notFull hp.pok hf).1 hf hx, hkk⟩
theorem FillAtI.core {shape : List Int} {n : Int} {A B : Nat} {t : List (List Int)} {al ak a4 a1 : Option Addr} {k cl kk ck k4 c4 i m c1 : Nat} {L L' L4 : List (List (List Int))} {w wr w5 w4 : World} {x : Int} (hi : lowT t + (i : Int) = x) (hx : x < n) (hcut : Cut L (preT shape n t i) L') (hkl : L'.length = kk) (hkk : kk ≤ 400)
    (hbut : But (fun q => q = A ∨ (Value.slice al k cl).ownBlock = some q) w wr) (hhome : (Value.slice ak kk ck).ownBlock = (Value.slice al k cl).ownBlock ∨ ∀ q, (Value.slice ak kk ck).ownBlock = some q → w.heap.size ≤ q) (hb5 : Below wr.heap.size wr w5) (hlo : ∀ q, (Value.slice a1 m c1).ownBlock = some q → wr.heap.size ≤ q)
    (_hl4 : LB w4 A B w4.heap.size a4 k4 c4 L4) (hc4 : Cut L' (tabsOf shape n (putT t x)) L4)
    (hb4 : But (fun q => q = A ∨ (Value.slice ak kk ck).ownBlock = some q ∨ (Value.slice a1 m c1).ownBlock = some q) w5 w4) (hh4 : (Value.slice a4 k4 c4).ownBlock = (Value.slice ak kk ck).ownBlock ∨ ∀ q, (Value.slice a4 k4 c4).ownBlock = some q → w5.heap.size ≤ q) :
    Cut L (preT shape n t (i + 1)) L4 ∧ But (fun q => q = A ∨ (Value.slice al k cl).ownBlock = some q) w w4 ∧ ((Value.slice a4 k4 c4).ownBlock = (Value.slice al k cl).ownBlock ∨ ∀ q, (Value.slice a4 k4 c4).ownBlock = some q → w.heap.size ≤ q) := by
  have hs5 := hb5.size
  have hsz := hbut.size
  refine ⟨?_, (hbut.trans (But.of_below (p := fun q => q = A ∨ (Value.slice al k cl).ownBlock = some q) hb5) fun _ _ h => h).trans hb4 fun j hj hq => ?_, ?_⟩
  · rw [preT_succ (by omega), hi]
    exact hcut.then (by omega) hc4
  · rcases hq with h | h | h
    · exact .inl h
    · rcases hhome with hh | hh
      · rw [hh] at h; exact .inr h
      · have := hh j h; omega
    · have := hlo j h; omega
  · rcases hh4 with h | h
    · rcases hhome with hh | hh
      · exact .inl (h.trans hh)
      · exact .inr fun q hq => hh q (by rw [← h]; exact hq)
    · exact .inr fun q hq => by have := h q hq; omega
theorem FillAtI.step {shape : List Int} {n : Int} {A B : Nat} {t : List (List Int)} {al ak a4 a1 : Option Addr} {k cl kk ck k4 c4 i m c1 : Nat} {L L' L4 : List (List (List Int))} {w wr w5 w4 : World} {x : Int} (hi : lowT t + (i : Int) = x) (hx : x < n) (hcut : Cut L (preT shape n t i) L') (hkl : L'.length = kk) (hkk : kk ≤ 400)
    (hbut : But (fun q => q = A ∨ (Value.slice al k cl).ownBlock = some q) w wr) (hhome : (Value.slice ak kk ck).ownBlock = (Value.slice al k cl).ownBlock ∨ ∀ q, (Value.slice ak kk ck).ownBlock = some q → w.heap.size ≤ q) (hb5 : Below wr.heap.size wr w5) (hlo : ∀ q, (Value.slice a1 m c1).ownBlock = some q → wr.heap.size ≤ q)
    (hbox : w4.cell? ⟨A, 0, none⟩ = some (.slice a4 k4 c4)) (hfz : w4.frozen? ⟨A, 0, none⟩ = false) (hl4 : LB w4 A B w4.heap.size a4 k4 c4 L4) (hc4 : Cut L' (tabsOf shape n (putT t x)) L4) (hk4 : k4 ≤ 400)
    (hb4 : But (fun q => q = A ∨ (Value.slice ak kk ck).ownBlock = some q ∨ (Value.slice a1 m c1).ownBlock = some q) w5 w4) (hh4 : (Value.slice a4 k4 c4).ownBlock = (Value.slice ak kk ck).ownBlock ∨ ∀ q, (Value.slice a4 k4 c4).ownBlock = some q → w5.heap.size ≤ q) (hr : -100 ≤ x ∧ x ≤ 100) :
    FillAtI shape n A B t al k cl L w (.int .i64 (IntKind.i64.wrap (x + 1))) w4 := by
  obtain ⟨h1, h2, h3⟩ := FillAtI.core (x := x) hi hx hcut hkl hkk hbut hhome hb5 hlo hl4 hc4 hb4 hh4
  exact ⟨i + 1, a4, k4, c4, L4, by rw [IntWalk.i64_in _ (by omega)]; congr 1; omega, hbox, hfz, hl4, h1, hk4, h2, h3, .inr (by omega)⟩
/-- the loop ends, for there are no more numbers -/
theorem FillPostI.done {shape : List Int} {n : Int} {A B : Nat} {t : List (List Int)} {al ak at' : Option Addr} {k cl kk ck i m ct : Nat} {L L' : List (List (List Int))} {w wr : World} {b : Bool} (hs : ShOk shape) (hn : n ≤ 7) (hok : TOk shape t) (hf : fullT shape t = false)
    (hbut : But (fun q => q = A ∨ (Value.slice al k cl).ownBlock = some q) w wr) (hhome : (Value.slice ak kk ck).ownBlock = (Value.slice al k cl).ownBlock ∨ ∀ q, (Value.slice ak kk ck).ownBlock = some q → w.heap.size ≤ q) (hcut : Cut L (preT shape n t i) L') (hkl : L'.length = kk) (h : 400 < kk ∨ n ≤ lowT t + i) (hb : b = decide ((kk : Int) ≤ 400))
    (hbox : wr.cell? ⟨A, 0, none⟩ = some (.slice ak kk ck)) (hfz : wr.frozen? ⟨A, 0, none⟩ = false) (hl : LB wr A B wr.heap.size ak kk ck L') :
    FillPostI w A B at' m ct al k cl L (tabsOf shape n t) (.returned (.bool b)) wr := by
  subst hb
  refine ⟨ak, kk, ck, L', rfl, hbox, hfz, hl, Lib.hid ?_, ⟨hbut.os, hbut.tape, hbut.output, hbut.size, fun q hq h => hbut.block q hq fun h2 => h (h2.imp_right .inl)⟩, hhome⟩
  rcases h with h | h
  · exact hcut.over (by omega) (preT_le hs hn hok hf i)
  · rw [← preT_all hs hn hok hf h]; exact hcut
/-- the loop ends, for there are too many -/
theorem FillPostI.gone {at' : Option Addr} {ct : Nat} {shape : List Int} {n : Int} {A B : Nat} {t : List (List Int)} {al ak a4 a1 : Option Addr} {k cl kk ck k4 c4 i m c1 : Nat} {L L' L4 : List (List (List Int))} {w wr w5 w4 : World} {x : Int} (hi : lowT t + (i : Int) = x) (hx : x < n) (hcut : Cut L (preT shape n t i) L') (hkl : L'.length = kk) (hkk : kk ≤ 400)
    (hbut : But (fun q => q = A ∨ (Value.slice al k cl).ownBlock = some q) w wr) (hhome : (Value.slice ak kk ck).ownBlock = (Value.slice al k cl).ownBlock ∨ ∀ q, (Value.slice ak kk ck).ownBlock = some q → w.heap.size ≤ q) (hb5 : Below wr.heap.size wr w5) (hlo : ∀ q, (Value.slice a1 m c1).ownBlock = some q → wr.heap.size ≤ q)
    (hbox : w4.cell? ⟨A, 0, none⟩ = some (.slice a4 k4 c4)) (hfz : w4.frozen? ⟨A, 0, none⟩ = false) (hl4 : LB w4 A B w4.heap.size a4 k4 c4 L4) (hc4 : Cut L' (tabsOf shape n (putT t x)) L4) (hs : ShOk shape) (hn : n ≤ 7) (hok : TOk shape t) (hf : fullT shape t = false) (hk4 : ¬ k4 ≤ 400)
    (hb4 : But (fun q => q = A ∨ (Value.slice ak kk ck).ownBlock = some q ∨ (Value.slice a1 m c1).ownBlock = some q) w5 w4) (hh4 : (Value.slice a4 k4 c4).ownBlock = (Value.slice ak kk ck).ownBlock ∨ ∀ q, (Value.slice a4 k4 c4).ownBlock = some q → w5.heap.size ≤ q) :
    FillPostI w A B at' m ct al k cl L (tabsOf shape n t) (.returned (.bool false)) w4 := by
  obtain ⟨h1, h2, h3⟩ := FillAtI.core (x := x) hi hx hcut hkl hkk hbut hhome hb5 hlo hl4 hc4 hb4 hh4
  exact FillPostI.done hs hn hok hf h2 h3 h1 hl4.len (.inl (by omega)) (by rw [eq_comm, decide_eq_false_iff_not]; omega) hbox hfz hl4
end Go.Proofs.Ytpjkhkoecgjjbaa
