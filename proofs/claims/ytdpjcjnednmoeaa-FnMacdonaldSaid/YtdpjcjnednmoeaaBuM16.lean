/-
  Contract of beginnings: the letters with which a reduced word can begin, the permutations behind them.
  Contract of allReduced: all reduced words.
  Contract of strings.Join; given by the kit's shelf: Any.strings_Join.
  Contract of FormatInt, the program's.
-/
import Derived.Test.YtdpjcjnednmoeaaBuM5
import Derived.Test.YtdpjcjnednmoeaaBuM3
import Derived.Deep.RegionHeld3
import Derived.Laws.OwnMore
import Derived.Test.YtdpjcjnednmoeaaBase
import Derived.Shelf.Strings.OnBuilder
namespace Go.Proofs.Ytdpjcjnednmoeaa
open Go.RowKit

theorem IIS.made (w : World) : IIS (w.alloc (.cells #[] 24)) w.heap.size (w.alloc (.cells #[] 24)).heap.size (some ⟨w.heap.size, 0, none⟩) 0 0 [] :=
  ⟨[], World.ownsRow_made w #[] 0 (Nat.le_refl _) (Nat.zero_le _) rfl, fun k hk => by simp [Value.ownBlock] at hk; simp; omega, rfl, by simp⟩
/-- rows of int slices in blocks from R on, none of them the block x; the row of them from B on -/
def IIN (w : World) (B R : Nat) (x : Option Nat) (a : Option Addr) (n c : Nat) (xss : List (List Int)) : Prop :=
  ∃ vs, w.ownsRow B 24 1 (.slice a n c) n vs ∧ vs.length = xss.length ∧ ∀ (k : Nat) (xs : List Int), xss[k]? = some xs → ∃ (a' : Option Addr) (c' : Nat), vs[k]? = some (Value.slice a' xs.length c') ∧ OwI w R w.heap.size a' xs.length c' xs ∧ ∀ g, (Value.slice a' xs.length c').ownBlock = some g → x ≠ some g
theorem IIN.iis {w : World} {B B' R : Nat} {x : Option Nat} {a : Option Addr} {n c : Nat} {xss : List (List Int)} (h : IIN w B R x a n c xss) (hB : B' ≤ B) (hR : B' ≤ R) : IIS w B' w.heap.size a n c xss := by
  obtain ⟨vs, h1, h2, h3⟩ := h
  exact ⟨vs, ownsRow_base h1 hB, fun k hk => (h1.lt k hk).2, h2, fun k xs hx => by obtain ⟨a', c', e1, e2, _⟩ := h3 k xs hx; exact ⟨a', c', e1, e2.mono hR (Nat.le_refl _)⟩⟩
theorem IIN.lo {w : World} {B R : Nat} {x : Option Nat} {a : Option Addr} {n c : Nat} {xss : List (List Int)} (h : IIN w B R x a n c xss) : ∀ k, (Value.slice a n c).ownBlock = some k → B ≤ k := by
  obtain ⟨vs, h1, _⟩ := h
  exact fun k hk => (h1.lt k hk).1
theorem IIN.len {w : World} {B R : Nat} {x : Option Nat} {a : Option Addr} {n c : Nat} {xss : List (List Int)} (h : IIN w B R x a n c xss) : xss.length = n := by
  obtain ⟨vs, h1, h2, _⟩ := h
  rw [← h2]; have := h1.1; omega
theorem IIN.below {w w' : World} {B R : Nat} {x : Option Nat} {a : Option Addr} {n c : Nat} {xss : List (List Int)} (h : IIN w B R x a n c xss) (hb : Below w.heap.size w w') : IIN w' B R x a n c xss := by
  obtain ⟨vs, h1, h2, h3⟩ := h
  exact ⟨vs, ownsRow_only h1 (fun k hk => (h1.lt k hk).2) (Only.of_below hb) (.inr (Nat.zero_le _)), h2, fun k xs hx => by obtain ⟨a', c', e1, e2, e3⟩ := h3 k xs hx; exact ⟨a', c', e1, (e2.below hb).mono (Nat.le_refl _) hb.size, e3⟩⟩
/-- the other row, of numbers, grows -/
theorem IIN.num {w w' : World} {B R B1 S : Nat} {a a1 : Option Addr} {n c m c1 : Nat} {xss : List (List Int)} {l : List Int} {v' : Value} (h : IIN w B R (Value.slice a1 m c1).ownBlock a n c xss) (ho : OwI w B1 S a1 m c1 l) (hg : Grows w w' (.slice a1 m c1) v') : IIN w' B R v'.ownBlock a n c xss := by
  obtain ⟨vs, h1, h2, h3⟩ := h
  refine ⟨vs, grown_keeps h1 hg.grown (fun k hk e => ne_block h1 ho k hk e), h2, fun k xs hx => ?_⟩
  obtain ⟨a', c', e1, e2, e3⟩ := h3 k xs hx
  refine ⟨a', c', e1, ⟨e2.1.kept hg.grown fun k hk e => e3 k hk e, fun k hk => Nat.lt_of_lt_of_le (e2.2 k hk) hg.grown.size⟩, fun g hgb => ?_⟩
  rcases hg.home with e | e
  · rw [e]; exact e3 g hgb
  · intro e4
    have := e g e4
    have := e2.2 g hgb
    omega
/-- append of a row of integers, as a step of a region that draws its order -/
theorem step_pushIIN {w : World} {W : World} {b : Option Addr} {m d : Nat} (hW : W = w.alloc (.cells #[.slice b m d] 24)) {ops : Array Oper} {o : Oper} {ac : Act} {K : Act → World → Prop} {Q : Exit → Act → World → Prop} (hwant : Region.wanted o (yielded ops ac.tmps) = true) (s x : Operand)
    (ho : o.op = .call { callee := .builtin .append, args := #[s, x], argTypes := #[28, 28] })
    {B R : Nat} {y : Option Nat} {a : Option Addr} {n c : Nat} {xss : List (List Int)} (hown : IIN w B R y a n c xss) (hs : ac.eval s = .slice a n c)
    {ys : List Int} (hr : OwI w R w.heap.size b m d ys) (hne : ∀ g, (Value.slice b m d).ownBlock = some g → y ≠ some g) (hx : ac.eval x = .slice (some ⟨w.heap.size, 0, none⟩) 1 1) (hn : n + 1 ≤ 16777216) (hbase : B ≤ w.heap.size)
    (h : ∀ a' c' w', IIN w' B R y a' (n + 1) c' (xss ++ [ys]) → Grows w w' (.slice a n c) (.slice a' (n + 1) c') → K (ac.put o.dst (.slice a' (n + 1) c')) w') :
    if Region.wanted o (yielded ops ac.tmps) = true then Oper.wp Try.prog o ac W K Q else K (ac.put o.dst undef) W := by
  rw [if_pos hwant]
  subst hW
  obtain ⟨i0, hi, hz0, hz1, hz2⟩ := info_parts Try.info24
  obtain ⟨vs, h1, h2, h3⟩ := hown
  have hlen := hr.len
  obtain ⟨v', w', hrun, h4, h5⟩ := run_app (P := Try.prog) (w.alloc (.cells #[.slice b m d] 24)) B 28 o.type 24 i0 (.slice none 0 0) 24 Try.underlying28 hi hz0 hz1 hz2 rfl (.slice a n c) n vs (h1.alloc _) (some ⟨w.heap.size, 0, none⟩) 1 1 [.slice b m d] rfl (by simp)
    (by
      intro ad had j u hu
      obtain rfl := Option.some.inj had
      match j, hu with
      | 0, hu => simp at hu; subst hu; simp [Addr.add])
    (by intro u hu; simp at hu; subst hu; rfl) hn (by omega) (by simp; omega)
  obtain ⟨a', c', rfl, _⟩ := slice_of h4
  unfold Oper.wp execOp
  simp only [ho, resolve, invoke, builtin, Sem.run_bind, Sem.run_pure, Result.andThen_ok, List.map_toArray, List.map_cons, List.map_nil, hs, hx, hrun]
  have hb0 : Below w.heap.size w (w.alloc (.cells #[.slice b m d] 24)) := (Below.refl _ _).alloc (Nat.le_refl _) _
  have hg := (Grows.of_below (.slice a n c) hb0).trans h5
  have hsz := hg.grown.size
  refine h a' c' w' ⟨vs ++ [.slice b m d], h4, by simp [h2], fun k zs hz => ?_⟩ hg
  rcases Nat.lt_or_ge k xss.length with hk | hk
  · rw [List.getElem?_append_left hk] at hz
    obtain ⟨a2, c2, e1, e2, e3⟩ := h3 k zs hz
    exact ⟨a2, c2, by rw [List.getElem?_append_left (by rw [h2]; exact hk)]; exact e1, (e2.grows hg h1).mono (Nat.le_refl _) hsz, e3⟩
  · rw [List.getElem?_append_right hk] at hz
    have hk0 : k - xss.length = 0 := by have := lt_of_some hz; simp at this; omega
    rw [hk0] at hz
    obtain rfl : ys = zs := by simpa using hz
    refine ⟨b, d, by rw [List.getElem?_append_right (by rw [h2]; exact hk), h2, hk0, hlen]; rfl, ?_⟩
    rw [hlen]
    exact ⟨(hr.grows hg h1).mono (Nat.le_refl _) hsz, hne⟩
def BegsPost (w : World) (u : List Int) (e : Ending) (w' : World) : Prop :=
  ∃ a1 c1 a2 c2 m, e = .returned (.tuple #[.slice a1 m c1, .slice a2 m c2]) ∧ Hid (m = (begs u).length) ∧ OwI w' w.heap.size w'.heap.size a1 m c1 ((begs u).map fun p => p.1) ∧ IIS w' w.heap.size w'.heap.size a2 m c2 ((begs u).map fun p => p.2) ∧ Below w.heap.size w w'
set_option maxRecDepth 100000 in
set_option maxHeartbeats 3200000 in
theorem begs_any (n : Nat) (h1 : 1 ≤ n) (h5 : n ≤ 5) (a : Option Addr) (c : Nat) (u : List Int) (w : World) (hr : RI w a u) (hu : u ∈ perms n) :
    Calls Try.prog 43 #[.slice a n c] w (BegsPost w u) := by
  obtain ⟨hul, hup⟩ := perms_ok hu h1 h5
  have hf := redFacts h1 h5 hu
  have Hin := Lib.hid hf.inv
  have Hu := Lib.hid hul
  clear hf hu hul
  go_enter Try.func43, Try.ntmps43
  go_wp2_with fail
  refine (implInverse_any _ _ _ u _ hr Hu.out (by omega) hup (fun x hx => by
    have := isPerm_iff u
    rw [hup] at this
    have := (this.1 rfl).2.2.1 x hx
    rw [Hu.out] at this
    exact this)).mono ?_
  rintro e w1 ⟨a1, c1, rfl, ho1, hB1⟩
  have hs1 := hB1.size
  have hI0 : OwI (w1.alloc (.cells #[] 3)) w1.heap.size (w1.alloc (.cells #[] 3)).heap.size (some ⟨w1.heap.size, 0, none⟩) 0 0 [] := OwI.mk (World.ownsRow_made _ #[] 0 (Nat.le_refl _) (Nat.zero_le _) rfl)
  have hz1 : (w1.alloc (.cells #[] 3)).heap.size = w1.heap.size + 1 := by simp
  have hz2 : ((w1.alloc (.cells #[] 3)).alloc (.cells #[] 24)).heap.size = w1.heap.size + 2 := by simp
  have hb01 : Below (w1.alloc (.cells #[] 3)).heap.size (w1.alloc (.cells #[] 3)) ((w1.alloc (.cells #[] 3)).alloc (.cells #[] 24)) := (Below.refl _ _).alloc (Nat.le_refl _) _
  have HI := Lib.hid ((hI0.below hb01).mono (Nat.le_refl _) (show (w1.alloc (.cells #[] 3)).heap.size ≤ ((w1.alloc (.cells #[] 3)).alloc (.cells #[] 24)).heap.size by omega))
  have HN0 := Lib.hid (show IIN ((w1.alloc (.cells #[] 3)).alloc (.cells #[] 24)) w1.heap.size w1.heap.size (Value.slice (some ⟨w1.heap.size, 0, none⟩) 0 0).ownBlock (some ⟨w1.heap.size + 1, 0, none⟩) 0 0 [] from
    ⟨[], by have : ((w1.alloc (.cells #[] 3)).alloc (.cells #[] 24)).ownsRow w1.heap.size 24 1 (.slice (some ⟨(w1.alloc (.cells #[] 3)).heap.size, 0, none⟩) 0 0) 0 [] := World.ownsRow_made _ #[] 0 (by simp) (Nat.zero_le _) rfl; simpa using this, rfl, by simp⟩)
  have hb0 : Below w1.heap.size w1 ((w1.alloc (.cells #[] 3)).alloc (.cells #[] 24)) := ((Below.refl _ _).alloc (Nat.le_refl _) _).alloc (by omega) _
  have Ho1 := Lib.hid ho1
  clear hI0 hz1 hz2 hb01 ho1
  go_wp2
  go_loopw [5, 6, 15] (fun v1 v2 i wr => Hid (∃ k a2 c2 a3 c3 m, k ≤ n - 1 ∧ i = .int .i64 (k : Nat) ∧ v1 = .slice a2 m c2 ∧ v2 = .slice a3 m c3 ∧ OwI wr w1.heap.size wr.heap.size a2 m c2 ((begTo u k).map fun p => p.1) ∧ IIN wr w1.heap.size w1.heap.size (Value.slice a2 m c2).ownBlock a3 m c3 ((begTo u k).map fun p => p.2)) ∧ Below w1.heap.size w1 wr) (fun _ _ i _ => n - (intOf i).toNat)
  case atStart => exact ⟨⟨0, _, _, _, _, 0, Nat.zero_le _, rfl, rfl, rfl, HI.out, HN0.out⟩, hb0⟩
  case round =>
    clear hb0 HI HN0
    obtain ⟨HV, hB⟩ := hrel
    obtain ⟨wo, rfl⟩ : ∃ wo : World, wo = wr := ⟨_, rfl⟩
    obtain ⟨k, a2, c2, a3, c3, m, hk, rfl, rfl, rfl, hi2, hn3⟩ := HV.out
    clear HV
    by_cases hlt : k < n - 1
    · have q1 : (k : Int) < (n : Int) - 1 := by omega
      have hil : (inv u).length = n := Ho1.out.len
      obtain ⟨b, off, rfl, hcell⟩ := Ho1.out.rd.at (k := k) (by omega)
      obtain ⟨x, hx⟩ := some_at (k := k) hil (by omega)
      obtain ⟨y, hy⟩ := some_at (k := k + 1) hil (by omega)
      have hcx := hcell k x hx
      have hcy := hcell (k + 1) y hy
      have hbl : b < w1.heap.size := World.block_lt_of_cell? _ _ hcx
      have hxr := Hin.out x (List.mem_of_getElem? hx)
      have hyr := Hin.out y (List.mem_of_getElem? hy)
      have gx : (inv u).getD k 0 = x := getD_of hx
      have gy : (inv u).getD (k + 1) 0 = y := getD_of hy
      obtain ⟨i, rfl⟩ : ∃ i : Nat, x = i := ⟨x.toNat, by omega⟩
      obtain ⟨j, rfl⟩ : ∃ j : Nat, y = j := ⟨y.toNat, by omega⟩
      have S_of : ∀ w2, Below w1.heap.size w1 w2 → w2.cell? ⟨b, off + k, none⟩ = some (.int .i64 (i : Int)) ∧ w2.cell? ⟨b, off + (k + 1), none⟩ = some (.int .i64 (j : Int)) := fun w2 hb => ⟨by rw [hb.cell (p := ⟨b, off + k, none⟩) hbl]; exact hcx, by rw [hb.cell (p := ⟨b, off + (k + 1), none⟩) hbl]; exact hcy⟩
      have y0 := S_of _ hB
      have hst : begTo u (k + 1) = begTo u k ++ begStep u k := rfl
      unfold begStep at hst
      rw [gx, gy] at hst
      have hml := hn3.len
      rw [List.length_map] at hml
      have hmk : m ≤ 5 := by
        have : ∀ k, (begTo u k).length ≤ k := fun k => by
          induction k with
          | zero => simp [begTo]
          | succ k ih =>
            rw [begTo, List.length_append]
            unfold begStep
            split <;> simp <;> omega
        have := this k
        omega
      have hbs := hB.size
      by_cases hyx : (j : Int) < (i : Int)
      · rw [if_pos hyx] at hst
        have Hst := Lib.hid hst
        have HI2 := Lib.hid hi2
        have HN3 := Lib.hid hn3
        clear hcell hcx hcy hx hy gx gy hst hil hi2 hn3
        go_wp2
        go_quiet (fail)
        have hdr : Below wo.heap.size wo (wo.drewN nq) := Drew.below ⟨nq, rfl⟩ _
        have hod := HI2.out.below hdr
        have hnd := HN3.out.below hdr
        have hBd := hB.trans (hdr.mono hbs)
        have y1 := S_of _ hBd
        go_wp2_with (first | (at_builtin; go_loud (refine wpList_pushI (by rfl) (by rfl) _ _ (by rfl) hod (by rfl) (by rfl) (by omega) (by simp; omega) ?_)))
        intro a4 c4 w4 ho4 hg4
        have hB4 := hg4.below hBd (by simp; omega) (fun k hk => hod.1.lo k hk)
        have HN4 := Lib.hid (hnd.num hod hg4)
        have HO4 := Lib.hid ho4
        have y4 := S_of _ hB4
        have d1 : Below w1.heap.size w1 w4.drew := hB4.trans (Drew.below ⟨1, rfl⟩ _)
        have HR4 := Lib.hid (hr.below ((hB1.trans (d1.mono hs1))))
        have hs4 := hB4.size
        clear hod hnd hg4 ho4 y0 y1
        have q2 : (k : Int) < (n : Int) := by omega
        have q3 : (k : Int) + 1 < (n : Int) := by omega
        have q4 : IntKind.i64.wrap ((k : Int) + 1) = (k : Int) + 1 := IntWalk.i64_in _ (by omega)
        have q6 : (0 : Int) ≤ (k : Int) + 1 := by omega
        go_wp2
        go_region_held3 (fun w' => w'.cell? ⟨b, off + k, none⟩ = some (.int .i64 (i : Int)) ∧ w'.cell? ⟨b, off + (k + 1), none⟩ = some (.int .i64 (j : Int))) ((first | exact S_of _ hB4 | exact S_of _ d1 | exact S_of _ ‹_›))
          ((first | (go_at_call 58; refine (exchanged_any _ _ _ u i j _ _ _ HR4.out Hu.out (by omega) (by rfl) (by rfl) (by omega) (by omega) (by omega)).mono ?_; rintro e w5 ⟨a5, c5, rfl, ho5, hb5⟩; have d2 := Below.trans d1 (hb5.mono (Below.size d1)); have d2' := Below.alloc d2 (Below.size d2) (.cells #[.slice a5 n c5] 24)) | (refine step_pushIIN (by rfl) (by rfl) _ _ (by rfl) ((HN4.out.below (Drew.below ⟨1, rfl⟩ _)).below hb5) (by rfl) (ho5.mono (by simp; omega) (Nat.le_refl _)) (fun g hg e => by have h1 := ho5.1.lo g hg; have h2 := HO4.out.2 g e; simp at h1; omega) (by rfl) (by omega) (Below.size d2) ?_; intro a6 c6 w6 ho6 hg6; have d3 : Below w1.heap.size w1 w6 := hg6.below d2 (Below.size d2) (fun q hq => HN4.out.lo q hq))))
        have hO5 := (HO4.out.below (Drew.below ⟨1, rfl⟩ _)).below hb5
        have hO6 : OwI w6 w1.heap.size w6.heap.size a4 (m + 1) c4 ((begTo u k).map (fun p => p.1) ++ [(k : Int)]) := by
          obtain ⟨vs, hvs, _⟩ := (HN4.out.below (Drew.below ⟨1, rfl⟩ _)).below hb5
          have h6 := hg6.grown.size
          have h5 := hb5.size
          exact (hO5.grows hg6 hvs).mono (Nat.le_refl _) (by simp at h5; omega)
        have H6 := Lib.hid hO6
        have HN6 := Lib.hid ho6
        clear hO5 hO6 ho6 hg6 ho5 hb5 d2 d2' d1 S_of hB4
        go_wp2
        go_roundw
        case rel => exact ⟨⟨k + 1, _, _, _, _, m + 1, by omega, by go_num, rfl, rfl, by rw [Hst.out, List.map_append]; exact H6.out, by rw [Hst.out, List.map_append]; simpa using HN6.out⟩, d3⟩
        case measure => simp [intOf]; omega
      · rw [if_neg hyx, List.append_nil] at hst
        have Hst := Lib.hid hst
        have HI2 := Lib.hid hi2
        have HN3 := Lib.hid hn3
        clear hcell hcx hcy hx hy gx gy hst hil hi2 hn3
        go_wp2
        go_quiet (fail)
        have hdr : Below wo.heap.size wo (wo.drewN nq) := Drew.below ⟨nq, rfl⟩ _
        have hod := HI2.out.below hdr
        have hnd := HN3.out.below hdr
        have hBd := hB.trans (hdr.mono hbs)
        go_wp2
        go_roundw
        case rel => exact ⟨⟨k + 1, _, _, _, _, m, by omega, by go_num, rfl, rfl, by rw [Hst.out]; exact hod, by rw [Hst.out]; exact hnd⟩, hBd⟩
        case measure => simp [intOf]; omega
    · obtain rfl : k = n - 1 := by omega
      have q1 : ¬ ((n - 1 : Nat) : Int) < (n : Int) - 1 := by omega
      have hk2 : begs u = begTo u (n - 1) := by unfold begs; rw [Hu.out]
      have hlen := hi2.len
      rw [List.length_map] at hlen
      have HO := Lib.hid (hi2.mono hs1 (Nat.le_refl _))
      have HN := Lib.hid (hn3.iis hs1 hs1)
      have HK := Lib.hid hk2
      clear hi2 hn3 hk2
      go_wp2
      go_ret2
      exact ⟨_, _, _, _, m, rfl, Lib.hid (by rw [HK.out, hlen]), by rw [HK.out]; exact HO.out, by rw [HK.out]; exact HN.out, hB1.trans (hB.mono hs1)⟩
end Go.Proofs.Ytdpjcjnednmoeaa

namespace Go.Proofs.Ytdpjcjnednmoeaa
open Go.RowKit

theorem IIS.at {w : World} {B S : Nat} {a : Option Addr} {n c : Nat} {xss : List (List Int)} (h : IIS w B S a n c xss) {k : Nat} (hk : k < xss.length) :
    ∃ g, a = some ⟨g, 0, none⟩ ∧ g < w.heap.size ∧ ∀ k xs, xss[k]? = some xs → ∃ a' c', w.cell? ⟨g, k, none⟩ = some (.slice a' xs.length c') ∧ OwI w B S a' xs.length c' xs := by
  obtain ⟨vs, h1, _, h3⟩ := h
  rcases ownsRow_shape h1 with ⟨_, _, _, hv⟩ | ⟨g, rfl, _, hlt, hc, _⟩
  · have := h3.len
    rw [hv] at this
    simp at this
    omega
  · refine ⟨g, rfl, hlt, fun k xs hx => ?_⟩
    obtain ⟨a', c', hk, ho⟩ := h3.each k xs hx
    exact ⟨a', c', hc k _ hk, ho⟩
theorem IIS.hi {w : World} {B S : Nat} {a : Option Addr} {n c : Nat} {xss : List (List Int)} (h : IIS w B S a n c xss) : ∀ k, (Value.slice a n c).ownBlock = some k → k < S := by
  obtain ⟨vs, _, h2, _⟩ := h
  exact h2
theorem IIS.lo {w : World} {B S : Nat} {a : Option Addr} {n c : Nat} {xss : List (List Int)} (h : IIS w B S a n c xss) : ∀ k, (Value.slice a n c).ownBlock = some k → B ≤ k := by
  obtain ⟨vs, h1, _⟩ := h
  exact fun k hk => (h1.lt k hk).1
theorem IIS.grows3 {w w' : World} {T H m k ct cl : Nat} {at' al : Option Addr} {t : List (List Int)} {v' : Value} (h : IIS w T H at' m ct t) (hg : Grows w w' (.slice al k cl) v') (hoff : ∀ q, (Value.slice al k cl).ownBlock = some q → q < T ∨ H ≤ q) : IIS w' T H at' m ct t := by
  cases hv : (Value.slice al k cl).ownBlock with
  | none => exact h.only (Only.of_grown (B := 0) (S := 0) hg.grown (fun k hk => by rw [hv] at hk; cases hk) (fun k hk => by rw [hv] at hk; cases hk)) (.inr (Nat.zero_le _))
  | some q0 =>
    have hon : Only q0 (q0 + 1) w w' := Only.of_grown hg.grown (fun k hk => by rw [hv] at hk; obtain rfl := Option.some.inj hk; exact Nat.le_refl _) (fun k hk => by rw [hv] at hk; obtain rfl := Option.some.inj hk; exact Nat.lt_succ_self _)
    have := hoff q0 hv
    exact h.only hon (by omega)
theorem begTo_len (u : List Int) : ∀ k, (begTo u k).length ≤ k
  | 0 => Nat.le_refl _
  | k + 1 => by
    rw [begTo, List.length_append]
    have := begTo_len u k
    unfold begStep
    split <;> simp <;> omega
theorem IIS.one (w : World) : IIS ((w.alloc (.cells #[] 3)).alloc (.cells #[.slice (some ⟨w.heap.size, 0, none⟩) 0 0] 24)) w.heap.size ((w.alloc (.cells #[] 3)).alloc (.cells #[.slice (some ⟨w.heap.size, 0, none⟩) 0 0] 24)).heap.size (some ⟨w.heap.size + 1, 0, none⟩) 1 1 [[]] := by
  have h1 : ((w.alloc (.cells #[] 3)).alloc (.cells #[.slice (some ⟨w.heap.size, 0, none⟩) 0 0] 24)).ownsRow w.heap.size 24 1 (.slice (some ⟨(w.alloc (.cells #[] 3)).heap.size, 0, none⟩) 1 1) 1 [.slice (some ⟨w.heap.size, 0, none⟩) 0 0] := World.ownsRow_lit _ #[.slice (some ⟨w.heap.size, 0, none⟩) 0 0] 1 (by simp) (by unfold maxLen; omega) rfl
  have hI0 : OwI (w.alloc (.cells #[] 3)) w.heap.size (w.alloc (.cells #[] 3)).heap.size (some ⟨w.heap.size, 0, none⟩) 0 0 [] := OwI.mk (World.ownsRow_made _ #[] 0 (Nat.le_refl _) (Nat.zero_le _) rfl)
  have hb : Below (w.alloc (.cells #[] 3)).heap.size (w.alloc (.cells #[] 3)) ((w.alloc (.cells #[] 3)).alloc (.cells #[.slice (some ⟨w.heap.size, 0, none⟩) 0 0] 24)) := (Below.refl _ _).alloc (Nat.le_refl _) _
  refine ⟨_, by simpa using h1, fun k hk => by simp [Value.ownBlock] at hk; simp; omega, rfl, fun k xs hx => ?_⟩
  match k, hx with
  | 0, hx =>
    simp at hx
    subst hx
    exact ⟨_, 0, rfl, (hI0.below hb).mono (Nat.le_refl _) (by simp)⟩
theorem IIS.base {w : World} {B B' S : Nat} {a : Option Addr} {n c : Nat} {xss : List (List Int)} (h : IIS w B S a n c xss) (hB : B' ≤ B) : IIS w B' S a n c xss := by
  obtain ⟨vs, h1, h2, h3⟩ := h
  exact ⟨vs, ownsRow_base h1 hB, h2, h3.len, fun k xs hx => by obtain ⟨a', c', e1, e2⟩ := h3.each k xs hx; exact ⟨a', c', e1, e2.mono hB (Nat.le_refl _)⟩⟩
def RedPost (w : World) (u : List Int) (e : Ending) (w' : World) : Prop := ∃ a' m c', e = .returned (.slice a' m c') ∧ IIS w' w.heap.size w'.heap.size a' m c' (rws u) ∧ Below w.heap.size w w'
def RedIh (n N : Nat) : Prop := ∀ (a : Option Addr) (c : Nat) (u : List Int) (w : World), RI w a u → u ∈ perms n → sumI (code u) < N →
    Calls Try.prog 22 #[.slice a n c] w (RedPost w u)
set_option maxRecDepth 100000 in
set_option maxHeartbeats 3200000 in
theorem allRed_step (n : Nat) (h1 : 1 ≤ n) (h5 : n ≤ 5) (N : Nat) (ih : RedIh n N) (a : Option Addr) (c : Nat) (u : List Int) (w : World) (hr : RI w a u) (hu : u ∈ perms n) (hN : sumI (code u) < ((N + 1 : Nat) : Int)) :
    Calls Try.prog 22 #[.slice a n c] w (RedPost w u) := by
  have Hih := Lib.hid ih
  have Hf := Lib.hid (redFacts h1 h5 hu)
  have He := Lib.hid (red_eq h1 h5 hu)
  have HN := Lib.hid hN
  have Hu := Lib.hid hu
  clear ih hN
  go_enter Try.func22, Try.ntmps22
  go_wp2_with fail
  refine (begs_any n h1 h5 _ _ u _ hr hu).mono ?_
  rintro e w1 ⟨a1, c1, a2, c2, m, rfl, hm, ho1, ho2, hB1⟩
  have hs1 := hB1.size
  clear hu
  by_cases hm0 : m = 0
  · subst hm0
    have HE := Lib.hid (show rws u = [[]] by rw [He.out, if_pos hm.out.symm])
    have hI0 : OwI (w1.alloc (.cells #[] 3)) w1.heap.size (w1.alloc (.cells #[] 3)).heap.size (some ⟨w1.heap.size, 0, none⟩) 0 0 [] := OwI.mk (World.ownsRow_made _ #[] 0 (Nat.le_refl _) (Nat.zero_le _) rfl)
    have hb1 : Below w1.heap.size w1 (w1.alloc (.cells #[] 3)) := (Below.refl _ _).alloc (Nat.le_refl _) _
    have HI := Lib.hid hI0
    have HB := Lib.hid hb1
    clear hI0 hb1
    have HO := Lib.hid ((IIS.one w1).base hs1)
    have HB2 := Lib.hid (show Below w.heap.size w ((w1.alloc (.cells #[] 3)).alloc (.cells #[.slice (some ⟨w1.heap.size, 0, none⟩) 0 0] 24)) from (hB1.alloc hs1 _).alloc (by simp; omega) _)
    go_wp2
    go_ret
    exact ⟨_, 1, 1, rfl, by rw [HE.out]; exact HO.out, HB2.out⟩
  · have HE := Lib.hid (show rws u = redTo u m by rw [He.out, if_neg (by rw [← hm.out]; exact hm0), hm.out])
    have hm8 : m ≤ 800 := by
      have := begTo_len u (u.length - 1)
      have h2 := hm.out
      have h3 := (perms_ok Hu.out h1 h5).1
      unfold begs at h2
      omega
    have HM := Lib.hid (IIS.made w1)
    have hb1 : Below w1.heap.size w1 (w1.alloc (.cells #[] 24)) := (Below.refl _ _).alloc (Nat.le_refl _) _
    have HO1 := Lib.hid ho1
    have HO2 := Lib.hid ho2
    have q0 : ((m : Int) == 0) = false := by rw [beq_eq_false_iff_ne]; omega
    clear ho1 ho2
    go_wp2
    go_loopw [5, 23] (fun v i wr => Hid (∃ k a3 c3 l, k ≤ m ∧ i = .int .i64 (k : Nat) ∧ v = .slice a3 l c3 ∧ IIS wr w1.heap.size wr.heap.size a3 l c3 (redTo u k)) ∧ Below w1.heap.size w1 wr) (fun _ i _ => m - (intOf i).toNat)
    case atStart => exact ⟨⟨0, _, _, 0, Nat.zero_le _, rfl, rfl, HM.out⟩, hb1⟩
    case round =>
      clear hb1 HM
      obtain ⟨HV, hB⟩ := hrel
      obtain ⟨wo, rfl⟩ : ∃ wo : World, wo = wr := ⟨_, rfl⟩
      obtain ⟨k, a3, c3, l, hk, rfl, rfl, ho⟩ := HV.out
      clear HV
      have hbs := hB.size
      by_cases hlt : k < m
      · have q1 : (k : Int) < (m : Int) := by omega
        obtain ⟨p, hp⟩ := some_of (show k < (begs u).length by rw [← hm.out]; exact hlt)
        have hmem := List.mem_of_getElem? hp
        obtain ⟨hp0, hp1, hpn, hpl⟩ := Hf.out.next p hmem
        obtain ⟨hvl, hvp⟩ := perms_ok hpn h1 h5
        obtain ⟨x, v⟩ := p
        have hsucc := redTo_succ hp
        obtain ⟨b1, o1, rfl, hc1⟩ := (HO1.out.below (hB.mono (Nat.le_refl _))).rd.at (k := k) (by rw [List.length_map]; have := hm.out; omega)
        have hcx := hc1 k x (by rw [List.getElem?_map, hp]; rfl)
        obtain ⟨g2, rfl, _, hc2⟩ := (HO2.out.below (hB.mono (Nat.le_refl _))).at (k := k) (by rw [List.length_map]; have := hm.out; omega)
        obtain ⟨a4, c4, hcv, hov⟩ := hc2 k v (by rw [List.getElem?_map, hp]; rfl)
        rw [show v.length = n from hvl] at hcv hov
        have Hsucc := Lib.hid hsucc
        have Hpl := Lib.hid hpl
        have Hpn := Lib.hid hpn
        have HV := Lib.hid hov.rd
        have Hfew := Lib.hid (redTo_few h1 h5 Hu.out (k + 1))
        clear hc1 hc2 hp hmem hsucc hpl hpn hov hvl hvp
        go_wp2_with fail
        refine (Hih.out _ _ v _ HV.out Hpn.out (by have := Hpl.out; have := HN.out; omega)).mono ?_
        rintro e w5 ⟨a5, m5, c5, rfl, ho5, hB5⟩
        have hs5 := hB5.size
        have hl5 := ho5.len
        have hB15 := hB.trans (hB5.mono hbs)
        have hlo := ho.lo
        have Hl5 := Lib.hid hl5
        have H5 := Lib.hid ho5
        have HB5 := Lib.hid hB15
        have HoB := Lib.hid (ho.below hB5)
        have Hhi := Lib.hid ho.hi
        have Hlo := Lib.hid hlo
        have hm5 : m5 ≤ 800 := by rw [← hl5]; exact (redFacts h1 h5 Hpn.out).few
        have hll := ho.len
        clear ho5 hB15 hB5 hl5 ho hlo
        go_wp2
        go_loopw [5, 34] (fun v2 i2 wr2 => Hid (∃ k2 a6 c6 l6, k2 ≤ m5 ∧ i2 = .int .i64 (k2 : Nat) ∧ v2 = .slice a6 l6 c6 ∧ IIS wr2 w1.heap.size wr2.heap.size a6 l6 c6 (redTo u k ++ ((rws v).take k2).map fun z => x :: z) ∧ Grows w5 wr2 (.slice a3 l c3) (.slice a6 l6 c6))) (fun _ i2 _ => m5 - (intOf i2).toNat)
        case atStart => exact ⟨0, _, _, l, Nat.zero_le _, rfl, rfl, by simpa using HoB.out.mono hs5, Grows.refl _ _⟩
        case round =>
          clear HoB
          have HV2 := hrel
          obtain ⟨wi, rfl⟩ : ∃ wi : World, wi = wr := ⟨_, rfl⟩
          obtain ⟨k2, a6, c6, l6, hk2, rfl, rfl, ho6, hg6⟩ := HV2.out
          clear HV2 hrel
          have hsi := hg6.grown.size
          have hl6 := ho6.len
          rw [List.length_append, List.length_map, List.length_take, Hl5.out, hll] at hl6
          have hfew := Hfew.out
          rw [Hsucc.out, List.length_append, List.length_map, Hl5.out, hll] at hfew
          have HB6 := Lib.hid (hg6.below HB5.out HB5.out.size Hlo.out)
          have hsw := HB6.out.size
          by_cases hlt2 : k2 < m5
          · have q2 : (k2 : Int) < (m5 : Int) := by omega
            obtain ⟨g5, rfl, _, hc5⟩ := (H5.out.grows3 hg6 (fun q hq => .inl (Hhi.out q hq))).at (k := k2) (by have := Hl5.out; omega)
            obtain ⟨z, hz⟩ := some_of (show k2 < (rws v).length by have := Hl5.out; omega)
            obtain ⟨az, cz, hcz, hoz⟩ := hc5 k2 z hz
            have hzl := (redFacts h1 h5 Hpn.out).short z (List.mem_of_getElem? hz)
            have Hst := Lib.hid (show (rws v).take (k2 + 1) = (rws v).take k2 ++ [z] by rw [List.take_add_one, hz]; rfl)
            have hbW : Below wi.heap.size wi (wi.alloc (.cells #[.int .i64 x] 3)) := (Below.refl _ _).alloc (Nat.le_refl _) _
            have HI := Lib.hid (OwI.one wi x)
            have HZ := Lib.hid (hoz.rd.below hbW)
            have H6 := Lib.hid ho6
            have HG6 := Lib.hid hg6
            have HbW := Lib.hid hbW
            clear hc5 hz hoz hbW ho6 hg6
            go_wp2_with (first | (at_builtin; go_loud (refine wpList_appI (by rfl) _ _ (by rfl) HI.out (by rfl) HZ.out rfl (by rfl) (by omega) (by simp) ?_)))
            intro a7 c7 w7 ho7 hg7
            have hb7 : Below wi.heap.size wi w7 := hg7.below HbW.out (by simp) (fun q hq => by simp [Value.ownBlock] at hq; omega)
            have hs7 := hb7.size
            have HO67 := Lib.hid (H6.out.below hb7)
            have HO7 := Lib.hid (ho7.mono (B' := w1.heap.size) (by omega) (Nat.le_refl _))
            have Hb7 := Lib.hid hb7
            clear ho7 hg7 hb7
            go_wp2_with (first | (at_builtin; go_loud (refine wpList_pushIIS (by rfl) (by rfl) _ _ (by rfl) HO67.out (by rfl) HO7.out (by rfl) (by omega) (by omega) hs7 (Nat.le_refl _) ?_)))
            intro a8 c8 w8 ho8 hg8
            have HG8 := Lib.hid (HG6.out.trans ((Grows.of_below _ Hb7.out).trans hg8))
            have H8 := Lib.hid ho8
            clear ho8 hg8
            go_wp2
            go_roundw
            case rel => exact ⟨k2 + 1, a8, c8, l6 + 1, by omega, by go_num, rfl, by rw [Hst.out, List.map_append, ← List.append_assoc]; simpa using H8.out, HG8.out⟩
            case measure => simp [intOf]; omega
          · obtain rfl : k2 = m5 := by omega
            have H6 := Lib.hid (show IIS wi w1.heap.size wi.heap.size a6 l6 c6 (redTo u (k + 1)) by rw [Hsucc.out]; rw [List.take_of_length_le (by rw [Hl5.out]; exact Nat.le_refl _)] at ho6; exact ho6)
            clear ho6 hg6
            go_wp2
            go_roundw
            case rel => exact ⟨⟨k + 1, _, _, _, by omega, by go_num, rfl, H6.out⟩, HB6.out⟩
            case measure => simp [intOf]; omega
      · obtain rfl : k = m := by omega
        have HO := Lib.hid (ho.base hs1)
        have HB2 := Lib.hid (hB1.trans (hB.mono hs1))
        clear ho
        go_wp2
        go_ret
        exact ⟨_, _, _, rfl, by rw [HE.out]; exact HO.out, HB2.out⟩
theorem allRed_any (n : Nat) (h1 : 1 ≤ n) (h5 : n ≤ 5) : ∀ N, RedIh n N
  | 0 => fun a c u w _ hu h => by have := (redFacts h1 h5 hu).low; omega
  | N + 1 => fun a c u w hr hu h => allRed_step n h1 h5 N (allRed_any n h1 h5 N) a c u w hr hu h
end Go.Proofs.Ytdpjcjnednmoeaa

namespace Go.Proofs.Ytdpjcjnednmoeaa
open Go.RowKit Go.Shelf

end Go.Proofs.Ytdpjcjnednmoeaa

namespace Go.Proofs.Ytdpjcjnednmoeaa
open Go.RowKit

/-- the digits of a number, the greatest first -/
def digits : Nat → Nat → List Nat
  | 0, m => [m]
  | f + 1, m => if m < 10 then [m] else digits f (m / 10) ++ [m % 10]
theorem digits_small {m : Nat} (h : m < 10) (f : Nat) : digits f m = [m] := by
  cases f with
  | zero => rfl
  | succ f => rw [digits, if_pos h]
theorem digits_fuel : ∀ (f g m : Nat), m ≤ f → m ≤ g → digits f m = digits g m := by
  intro f
  induction f with
  | zero => intro g m h1 h2; rw [digits_small (by omega), digits_small (by omega)]
  | succ f ih =>
    intro g m h1 h2
    by_cases hm : m < 10
    · rw [digits_small hm, digits_small hm]
    · cases g with
      | zero => omega
      | succ g => rw [digits, if_neg hm, digits, if_neg hm, ih g (m / 10) (by omega) (by omega)]
theorem digits_big {m : Nat} (h : ¬ m < 10) : digits m m = digits (m / 10) (m / 10) ++ [m % 10] := by
  obtain ⟨f, rfl⟩ : ∃ f, m = f + 1 := ⟨m - 1, by omega⟩
  rw [digits, if_neg h, digits_fuel f ((f + 1) / 10) ((f + 1) / 10) (by omega) (Nat.le_refl _)]
def glyph (d : Nat) : UInt8 := UInt8.ofNat (48 + d)
def text (ds : List Nat) : ByteArray := ⟨(ds.map glyph).toArray⟩
def minus : ByteArray := ⟨#[45]⟩
def fmt (n : Int) : ByteArray := (if n < 0 then minus else ⟨#[]⟩) ++ text (digits n.natAbs n.natAbs)
theorem text_append (a b : List Nat) : text a ++ text b = text (a ++ b) := by
  apply ByteArray.ext
  simp [text, ByteArray.data_append]
theorem empty_append (s : ByteArray) : (⟨#[]⟩ : ByteArray) ++ s = s := by
  apply ByteArray.ext
  simp [ByteArray.data_append]
theorem append_assoc (a b c : ByteArray) : a ++ b ++ c = a ++ (b ++ c) := by
  apply ByteArray.ext
  simp [ByteArray.data_append]
theorem digits_len : ∀ (k f m : Nat), 0 < k → m < 10 ^ k → (digits f m).length ≤ k := by
  intro k
  induction k with
  | zero => intro f m h; omega
  | succ k ih =>
    intro f m _ h2
    cases f with
    | zero => simp [digits]
    | succ f =>
      rw [digits]
      split
      · simp
      · rename_i hm
        have hk : 0 < k := by
          rcases Nat.eq_zero_or_pos k with h | h
          · subst h; simp at h2; omega
          · exact h
        have h3 : m / 10 < 10 ^ k := by rw [Nat.pow_succ] at h2; omega
        have := ih f (m / 10) hk h3
        simp; omega
theorem text_size (ds : List Nat) : (text ds).size = ds.length := by simp [text, ByteArray.size]
theorem append_size (a b : ByteArray) : (a ++ b).size = a.size + b.size := by
  show (a ++ b).data.size = a.data.size + b.data.size
  rw [ByteArray.data_append, Array.size_append]
theorem fmt_size {n : Int} (h : -9223372036854775808 ≤ n ∧ n ≤ 9223372036854775807) : (fmt n).size ≤ 20 := by
  have h2 : n.natAbs ≤ 9223372036854775808 := by omega
  have h3 : (10 : Nat) ^ 19 = 10000000000000000000 := by rfl
  have h1 := digits_len 19 n.natAbs n.natAbs (by omega) (by omega)
  rw [fmt, append_size, text_size]
  split
  · have : minus.size = 1 := rfl
    omega
  · have : (⟨#[]⟩ : ByteArray).size = 0 := rfl
    omega
theorem encode_digit {d : Nat} (h : d < 10) : Utf8.encode (48 + (d : Int)) = text [d] := by
  have h1 : (List.range 10).all (fun d => decide (Utf8.encode (48 + (d : Int)) = text [d])) = true := by decide +kernel
  rw [List.all_eq_true] at h1
  exact of_decide_eq_true (h1 d (by rw [List.mem_range]; exact h))
theorem fmt_small {m : Nat} (h : m < 10) : fmt (m : Int) = text [m] := by
  have e : ¬ ((m : Int) < 0) := by omega
  rw [fmt, if_neg e, empty_append, Int.natAbs_natCast, digits_small h]
theorem fmt_nat (m : Nat) : fmt (m : Int) = text (digits m m) := by
  have e : ¬ ((m : Int) < 0) := by omega
  rw [fmt, if_neg e, empty_append, Int.natAbs_natCast]
theorem fmt_neg {m : Nat} (h : 0 < m) : fmt (-(m : Int)) = minus ++ text (digits m m) := by
  have e : (-(m : Int)) < 0 := by omega
  rw [fmt, if_pos e, Int.natAbs_neg, Int.natAbs_natCast]

set_option maxRecDepth 100000 in
set_option maxHeartbeats 1600000 in
theorem implFmt_digit (m : Nat) (h : m < 10) (w : World) :
    Calls Try.prog 56 #[.int .i64 (m : Int)] w fun e w' => e = .returned (.string (fmt (m : Int))) ∧ w = w' := by
  have h0 : (m : Int) < 10 := by omega
  have h1 : ¬ ((m : Int) < 0) := by omega
  have H := Lib.hid ((encode_digit h).trans (fmt_small h).symm)
  go_enter Try.func56, Try.ntmps56
  go_wp2
  go_ret
  exact ⟨by simp [← H.out], rfl⟩
theorem digit_at (M : Int) (m : Nat) (hM : M = (m : Int)) (h : m < 10) (w : World) :
    Calls Try.prog 56 #[.int .i64 M] w fun e w' => e = .returned (.string (fmt (m : Int))) ∧ w = w' := by subst hM; exact implFmt_digit m h w
set_option maxRecDepth 100000 in
set_option maxHeartbeats 1600000 in
theorem implFmt_nat : ∀ (B m : Nat) (w : World), m ≤ B → m ≤ 9223372036854775807 →
    Calls Try.prog 56 #[.int .i64 (m : Int)] w fun e w' => e = .returned (.string (fmt (m : Int))) ∧ w = w' := by
  intro B
  induction B with
  | zero => intro m w hB _; exact implFmt_digit m (by omega) w
  | succ B ih =>
    intro m w hB hu
    by_cases h : m < 10
    · exact implFmt_digit m h w
    · have h1 : ¬ ((m : Int) < 0) := by omega
      have H := Lib.hid (show fmt ((m / 10 : Nat) : Int) ++ Utf8.encode (48 + ((m % 10 : Nat) : Int)) = fmt (m : Int) by
        rw [encode_digit (by omega), fmt_nat, fmt_nat, text_append, ← digits_big h])
      obtain ⟨q, hq⟩ : ∃ q, fmt ((m / 10 : Nat) : Int) = q := ⟨_, rfl⟩
      have hih : ∀ N : Int, N = ((m / 10 : Nat) : Int) → Calls Try.prog 56 #[.int .i64 N] w fun e w' => e = .returned (.string q) ∧ w = w' := by
        intro N hN; subst hN; rw [← hq]; exact ih (m / 10) w (by omega) (by omega)
      have hqs : q.size ≤ 20 := by rw [← hq]; exact fmt_size (by omega)
      rw [hq] at H
      have HI := Lib.hid hih
      have h3 : (10 : Int) ≤ (m : Int) := by omega
      have h4 : (m : Int) ≤ 9223372036854775807 := by omega
      have em : ((m % 10 : Nat) : Int) = (m : Int) % 10 := by omega
      rw [em] at H
      have hes : (Utf8.encode (48 + (m : Int) % 10)).size = 1 := by rw [← em, encode_digit (by omega), text_size]; rfl
      clear ih hih hB hq em
      obtain ⟨n, hn⟩ : ∃ n : Int, (m : Int) = n := ⟨_, rfl⟩
      have Hn := Lib.hid hn
      rw [hn] at h1 h3 h4 hes H ⊢
      clear hn
      have hns : ¬ 9223372036854775807 < q.size + (Utf8.encode (48 + n % 10)).size := by omega
      clear hes
      go_enter Try.func56, Try.ntmps56
      go_wp2_with fail
      refine (HI.out (n / 10) (by rw [← Hn.out]; omega)).mono ?_
      rintro e w1 ⟨rfl, rfl⟩
      go_wp2
      go_ret
      exact ⟨by rw [← H.out]; rfl, rfl⟩
theorem implFmt_at (N : Int) (m : Nat) (hN : N = (m : Int)) (h : m ≤ 9223372036854775807) (w : World) :
    Calls Try.prog 56 #[.int .i64 N] w fun e w' => e = .returned (.string (fmt (m : Int))) ∧ w = w' := by subst hN; exact implFmt_nat m m w (Nat.le_refl _) h

set_option maxRecDepth 100000 in
set_option maxHeartbeats 1600000 in
theorem implFmt_neg : ∀ (B m : Nat) (w : World), m ≤ B → 0 < m → m ≤ 9223372036854775808 →
    Calls Try.prog 56 #[.int .i64 (-(m : Int))] w fun e w' => e = .returned (.string (fmt (-(m : Int)))) ∧ w = w' := by
  intro B
  induction B with
  | zero => intro m w hB h0 _; omega
  | succ B ih =>
    intro m w hB h0 hu
    by_cases h : m < 10
    · obtain ⟨q, hq⟩ : ∃ q, fmt (m : Int) = q := ⟨_, rfl⟩
      have H := Lib.hid (show minus ++ q = fmt (-(m : Int)) by rw [← hq, fmt_neg h0, fmt_nat])
      have hqs : q.size ≤ 20 := by rw [← hq]; exact fmt_size (by omega)
      have HI := Lib.hid (show ∀ N : Int, N = (m : Int) → Calls Try.prog 56 #[.int .i64 N] w fun e w' => e = .returned (.string q) ∧ w = w' by
        intro N hN; rw [← hq]; exact digit_at N m hN h w)
      have hns : ¬ 9223372036854775807 < (⟨#[45]⟩ : ByteArray).size + q.size := by have : (⟨#[45]⟩ : ByteArray).size = 1 := rfl; omega
      clear ih hB hq hqs
      obtain ⟨n, hn⟩ : ∃ n : Int, -(m : Int) = n := ⟨_, rfl⟩
      have Hn := Lib.hid hn
      have h1 : n < 0 := by omega
      have h2 : -10 < n := by omega
      rw [hn] at H ⊢
      clear hn
      go_enter Try.func56, Try.ntmps56
      go_wp2_with fail
      refine (HI.out _ (by have := Hn.out; omega)).mono ?_
      rintro e w1 ⟨rfl, rfl⟩
      go_wp2
      go_ret
      exact ⟨by rw [← H.out]; rfl, rfl⟩
    · obtain ⟨q, hq⟩ : ∃ q, fmt (-((m / 10 : Nat) : Int)) = q := ⟨_, rfl⟩
      obtain ⟨r, hrr⟩ : ∃ r, fmt ((m % 10 : Nat) : Int) = r := ⟨_, rfl⟩
      have H := Lib.hid (show q ++ r = fmt (-(m : Int)) by rw [← hq, ← hrr, fmt_neg h0, fmt_neg (by omega), fmt_small (by omega), append_assoc, text_append, ← digits_big h])
      have hqs : q.size ≤ 20 := by rw [← hq]; exact fmt_size (by omega)
      have hrs : r.size ≤ 20 := by rw [← hrr]; exact fmt_size (by omega)
      have HI := Lib.hid (show ∀ N : Int, N = -((m / 10 : Nat) : Int) → Calls Try.prog 56 #[.int .i64 N] w fun e w' => e = .returned (.string q) ∧ w = w' by
        intro N hN; subst hN; rw [← hq]; exact ih (m / 10) w (by omega) (by omega) (by omega))
      have HJ := Lib.hid (show ∀ N : Int, N = ((m % 10 : Nat) : Int) → Calls Try.prog 56 #[.int .i64 N] w fun e w' => e = .returned (.string r) ∧ w = w' by
        intro N hN; rw [← hrr]; exact digit_at N (m % 10) hN (by omega) w)
      have hns : ¬ 9223372036854775807 < q.size + r.size := by omega
      clear ih hB hq hrr hqs hrs
      have t1 : (-(m : Int)).tdiv 10 = -((m / 10 : Nat) : Int) := by rw [Int.neg_tdiv]; congr 1
      have t2 : -((-(m : Int)).tmod 10) = ((m % 10 : Nat) : Int) := by rw [Int.neg_tmod]; simp only [Int.neg_neg]; rfl
      obtain ⟨n, hn⟩ : ∃ n : Int, -(m : Int) = n := ⟨_, rfl⟩
      have h1 : n < 0 := by omega
      have h2 : ¬ (-10 < n) := by omega
      have h3 : -9223372036854775808 ≤ n := by omega
      rw [hn] at H t1 t2 ⊢
      have T1 := Lib.hid t1
      have T2 := Lib.hid t2
      clear hn t1 t2
      go_enter Try.func56, Try.ntmps56
      go_wp2_with fail
      refine (HI.out _ (by first | exact T1.out | (have := T1.out; omega))).mono ?_
      rintro e w1 ⟨rfl, rfl⟩
      go_wp2_with fail
      refine (HJ.out _ (by first | exact T2.out | (rw [IntWalk.wrap64_in _ (by have := T2.out; omega)]; exact T2.out))).mono ?_
      rintro e w2 ⟨rfl, rfl⟩
      go_wp2
      go_ret
      exact ⟨by rw [← H.out]; rfl, rfl⟩
theorem implFmt_any (n : Int) (hl : -9223372036854775808 ≤ n) (hu : n ≤ 9223372036854775807) (w : World) :
    Calls Try.prog 56 #[.int .i64 n] w fun e w' => e = .returned (.string (fmt n)) ∧ w = w' := by
  rcases (show n < 0 ∨ 0 ≤ n by omega) with h | h
  · obtain ⟨m, rfl⟩ : ∃ m : Nat, n = -(m : Int) := ⟨n.natAbs, by omega⟩
    exact implFmt_neg m m w (Nat.le_refl _) (by omega) (by omega)
  · obtain ⟨m, rfl⟩ : ∃ m : Nat, n = (m : Int) := ⟨n.toNat, by omega⟩
    exact implFmt_nat m m w (Nat.le_refl _) (by omega)
end Go.Proofs.Ytdpjcjnednmoeaa
