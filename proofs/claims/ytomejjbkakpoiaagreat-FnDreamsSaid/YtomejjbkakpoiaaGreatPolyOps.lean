/-
  What the operators of polynomials make of lists of monomials; keys and their digits.
-/
import Derived.Test.YtomejjbkakpoiaaGreatPolyMap
namespace Go.Proofs.YtomejjbkakpoiaaGreat
open Go.RowKit

def unit (i : Nat) : Int := 128 ^ i
theorem unit0 : unit 0 = 1 := by decide
theorem unit1 : unit 1 = 128 := by decide
theorem unit2 : unit 2 = 16384 := by decide
theorem unit3 : unit 3 = 2097152 := by decide
theorem unit4 : unit 4 = 268435456 := by decide
theorem unit5 : unit 5 = 34359738368 := by decide
theorem unit6 : unit 6 = 4398046511104 := by decide
theorem dig0 (k : Int) : dig k 0 = k % 128 := by unfold dig; simp
theorem dig1 (k : Int) : dig k 1 = k / 128 % 128 := by unfold dig; simp
theorem dig2 (k : Int) : dig k 2 = k / 16384 % 128 := by unfold dig; simp
theorem dig3 (k : Int) : dig k 3 = k / 2097152 % 128 := by unfold dig; simp
theorem dig4 (k : Int) : dig k 4 = k / 268435456 % 128 := by unfold dig; simp
theorem dig5 (k : Int) : dig k 5 = k / 34359738368 % 128 := by unfold dig; simp
theorem dig6 (k : Int) : dig k 6 = k / 4398046511104 % 128 := by unfold dig; simp
/-- a key out of its digits -/
def pack (a b c d e f g : Int) : Int := a + 128 * b + 16384 * c + 2097152 * d + 268435456 * e + 34359738368 * f + 4398046511104 * g
def isD (x : Int) : Prop := 0 ≤ x ∧ x < 128
theorem pack_digs {a b c d e f g : Int} (ha : isD a) (hb : isD b) (hc : isD c) (hd : isD d) (he : isD e) (hf : isD f) (hg : isD g) :
    inK (pack a b c d e f g) ∧ dig (pack a b c d e f g) 0 = a ∧ dig (pack a b c d e f g) 1 = b ∧ dig (pack a b c d e f g) 2 = c ∧ dig (pack a b c d e f g) 3 = d ∧ dig (pack a b c d e f g) 4 = e ∧ dig (pack a b c d e f g) 5 = f ∧ dig (pack a b c d e f g) 6 = g := by
  unfold isD at *
  rw [dig0, dig1, dig2, dig3, dig4, dig5, dig6]
  unfold pack inK
  omega
theorem key_pack {k : Int} (h : inK k) : k = pack (dig k 0) (dig k 1) (dig k 2) (dig k 3) (dig k 4) (dig k 5) (dig k 6) := digs_key h
theorem dig_isD (k : Int) (i : Nat) : isD (dig k i) := dig_range k i
/-- one digit put anew -/
def dset (k : Int) (i : Nat) (x : Int) : Int := k + (x - dig k i) * unit i
theorem dset_pack0 {a b c d e f g x : Int} (ha : isD a) (hb : isD b) (hc : isD c) (hd : isD d) (he : isD e) (hf : isD f) (hg : isD g) : dset (pack a b c d e f g) 0 x = pack x b c d e f g := by
  have := pack_digs ha hb hc hd he hf hg
  unfold dset
  rw [this.2.1, unit0]
  unfold pack
  omega
theorem dset_pack1 {a b c d e f g x : Int} (ha : isD a) (hb : isD b) (hc : isD c) (hd : isD d) (he : isD e) (hf : isD f) (hg : isD g) : dset (pack a b c d e f g) 1 x = pack a x c d e f g := by
  have := pack_digs ha hb hc hd he hf hg
  unfold dset
  rw [this.2.2.1, unit1]
  unfold pack
  omega
theorem dset_pack2 {a b c d e f g x : Int} (ha : isD a) (hb : isD b) (hc : isD c) (hd : isD d) (he : isD e) (hf : isD f) (hg : isD g) : dset (pack a b c d e f g) 2 x = pack a b x d e f g := by
  have := pack_digs ha hb hc hd he hf hg
  unfold dset
  rw [this.2.2.2.1, unit2]
  unfold pack
  omega
theorem dset_pack3 {a b c d e f g x : Int} (ha : isD a) (hb : isD b) (hc : isD c) (hd : isD d) (he : isD e) (hf : isD f) (hg : isD g) : dset (pack a b c d e f g) 3 x = pack a b c x e f g := by
  have := pack_digs ha hb hc hd he hf hg
  unfold dset
  rw [this.2.2.2.2.1, unit3]
  unfold pack
  omega
theorem dset_pack4 {a b c d e f g x : Int} (ha : isD a) (hb : isD b) (hc : isD c) (hd : isD d) (he : isD e) (hf : isD f) (hg : isD g) : dset (pack a b c d e f g) 4 x = pack a b c d x f g := by
  have := pack_digs ha hb hc hd he hf hg
  unfold dset
  rw [this.2.2.2.2.2.1, unit4]
  unfold pack
  omega
theorem dset_pack5 {a b c d e f g x : Int} (ha : isD a) (hb : isD b) (hc : isD c) (hd : isD d) (he : isD e) (hf : isD f) (hg : isD g) : dset (pack a b c d e f g) 5 x = pack a b c d e x g := by
  have := pack_digs ha hb hc hd he hf hg
  unfold dset
  rw [this.2.2.2.2.2.2.1, unit5]
  unfold pack
  omega
theorem dset_pack6 {a b c d e f g x : Int} (ha : isD a) (hb : isD b) (hc : isD c) (hd : isD d) (he : isD e) (hf : isD f) (hg : isD g) : dset (pack a b c d e f g) 6 x = pack a b c d e f x := by
  have := pack_digs ha hb hc hd he hf hg
  unfold dset
  rw [this.2.2.2.2.2.2.2, unit6]
  unfold pack
  omega
theorem dset_digs {k : Int} (h : inK k) {i : Nat} (hi : i ≤ 6) {x : Int} (hx : isD x) : inK (dset k i x) ∧ dig (dset k i x) i = x ∧ ∀ j, j < 7 → j ≠ i → dig (dset k i x) j = dig k j := by
  have h0 := dig_isD k 0
  have h1 := dig_isD k 1
  have h2 := dig_isD k 2
  have h3 := dig_isD k 3
  have h4 := dig_isD k 4
  have h5 := dig_isD k 5
  have h6 := dig_isD k 6
  have hk := key_pack h
  have hd := pack_digs h0 h1 h2 h3 h4 h5 h6
  rw [← hk] at hd
  generalize dig k 0 = a at *
  generalize dig k 1 = b at *
  generalize dig k 2 = c at *
  generalize dig k 3 = d at *
  generalize dig k 4 = e at *
  generalize dig k 5 = f at *
  generalize dig k 6 = g at *
  clear hd
  subst hk
  have q := pack_digs h0 h1 h2 h3 h4 h5 h6
  have hc : i = 0 ∨ i = 1 ∨ i = 2 ∨ i = 3 ∨ i = 4 ∨ i = 5 ∨ i = 6 := by omega
  rcases hc with rfl | rfl | rfl | rfl | rfl | rfl | rfl
  · have r := pack_digs hx h1 h2 h3 h4 h5 h6
    rw [dset_pack0 h0 h1 h2 h3 h4 h5 h6]
    refine ⟨r.1, r.2.1, fun j hj hne => ?_⟩
    have hc : j = 0 ∨ j = 1 ∨ j = 2 ∨ j = 3 ∨ j = 4 ∨ j = 5 ∨ j = 6 := by omega
    rcases hc with rfl | rfl | rfl | rfl | rfl | rfl | rfl <;> omega
  · have r := pack_digs h0 hx h2 h3 h4 h5 h6
    rw [dset_pack1 h0 h1 h2 h3 h4 h5 h6]
    refine ⟨r.1, r.2.2.1, fun j hj hne => ?_⟩
    have hc : j = 0 ∨ j = 1 ∨ j = 2 ∨ j = 3 ∨ j = 4 ∨ j = 5 ∨ j = 6 := by omega
    rcases hc with rfl | rfl | rfl | rfl | rfl | rfl | rfl <;> omega
  · have r := pack_digs h0 h1 hx h3 h4 h5 h6
    rw [dset_pack2 h0 h1 h2 h3 h4 h5 h6]
    refine ⟨r.1, r.2.2.2.1, fun j hj hne => ?_⟩
    have hc : j = 0 ∨ j = 1 ∨ j = 2 ∨ j = 3 ∨ j = 4 ∨ j = 5 ∨ j = 6 := by omega
    rcases hc with rfl | rfl | rfl | rfl | rfl | rfl | rfl <;> omega
  · have r := pack_digs h0 h1 h2 hx h4 h5 h6
    rw [dset_pack3 h0 h1 h2 h3 h4 h5 h6]
    refine ⟨r.1, r.2.2.2.2.1, fun j hj hne => ?_⟩
    have hc : j = 0 ∨ j = 1 ∨ j = 2 ∨ j = 3 ∨ j = 4 ∨ j = 5 ∨ j = 6 := by omega
    rcases hc with rfl | rfl | rfl | rfl | rfl | rfl | rfl <;> omega
  · have r := pack_digs h0 h1 h2 h3 hx h5 h6
    rw [dset_pack4 h0 h1 h2 h3 h4 h5 h6]
    refine ⟨r.1, r.2.2.2.2.2.1, fun j hj hne => ?_⟩
    have hc : j = 0 ∨ j = 1 ∨ j = 2 ∨ j = 3 ∨ j = 4 ∨ j = 5 ∨ j = 6 := by omega
    rcases hc with rfl | rfl | rfl | rfl | rfl | rfl | rfl <;> omega
  · have r := pack_digs h0 h1 h2 h3 h4 hx h6
    rw [dset_pack5 h0 h1 h2 h3 h4 h5 h6]
    refine ⟨r.1, r.2.2.2.2.2.2.1, fun j hj hne => ?_⟩
    have hc : j = 0 ∨ j = 1 ∨ j = 2 ∨ j = 3 ∨ j = 4 ∨ j = 5 ∨ j = 6 := by omega
    rcases hc with rfl | rfl | rfl | rfl | rfl | rfl | rfl <;> omega
  · have r := pack_digs h0 h1 h2 h3 h4 h5 hx
    rw [dset_pack6 h0 h1 h2 h3 h4 h5 h6]
    refine ⟨r.1, r.2.2.2.2.2.2.2, fun j hj hne => ?_⟩
    have hc : j = 0 ∨ j = 1 ∨ j = 2 ∨ j = 3 ∨ j = 4 ∨ j = 5 ∨ j = 6 := by omega
    rcases hc with rfl | rfl | rfl | rfl | rfl | rfl | rfl <;> omega
/-- two digits that stand one beside the other put anew -/
def put2 (k : Int) (i : Nat) (x y : Int) : Int := k - dig k i * unit i - dig k (i + 1) * unit (i + 1) + x * unit i + y * unit (i + 1)
theorem put2_dset {k : Int} (h : inK k) {i : Nat} (hi : i ≤ 5) {x y : Int} (hx : isD x) : put2 k i x y = dset (dset k i x) (i + 1) y := by
  obtain ⟨_, _, h3⟩ := dset_digs h (i := i) (by omega) hx
  have e := h3 (i + 1) (by omega) (by omega)
  unfold put2
  rw [dset, e, dset]
  generalize unit i = u
  generalize unit (i + 1) = v
  rw [Int.sub_mul, Int.sub_mul]
  omega
theorem put2_digs {k : Int} (h : inK k) {i : Nat} (hi : i ≤ 5) {x y : Int} (hx : isD x) (hy : isD y) :
    inK (put2 k i x y) ∧ dig (put2 k i x y) i = x ∧ dig (put2 k i x y) (i + 1) = y ∧ ∀ j, j < 7 → j ≠ i → j ≠ i + 1 → dig (put2 k i x y) j = dig k j := by
  obtain ⟨h1, h2, h3⟩ := dset_digs h (i := i) (by omega) hx
  obtain ⟨h4, h5, h6⟩ := dset_digs h1 (i := i + 1) (by omega) hy
  rw [put2_dset h hi hx]
  exact ⟨h4, by rw [h6 i (by omega) (by omega), h2], h5, fun j hj hn hn' => by rw [h6 j hj hn', h3 j hj hn]⟩
theorem key_ext {j k : Int} (hj : inK j) (hk : inK k) (h : ∀ i, i < 7 → dig j i = dig k i) : j = k := by
  rw [key_pack hj, key_pack hk, h 0 (by omega), h 1 (by omega), h 2 (by omega), h 3 (by omega), h 4 (by omega), h 5 (by omega), h 6 (by omega)]

/-! the operators -/
def ddKeys (i : Nat) (k : Int) : List Int :=
  (List.range (dig k i - dig k (i + 1)).natAbs).map fun j : Nat => put2 k i (min (dig k i) (dig k (i + 1)) + (dig k i - dig k (i + 1)).natAbs - 1 - j) (min (dig k i) (dig k (i + 1)) + j)
def sg (i : Nat) (k : Int) : Int := if dig k i < dig k (i + 1) then -1 else 1
def dd (i : Nat) (p : Int × Int) : Mons := (ddKeys i p.1).map fun k => (k, sg i p.1 * p.2)
def dividedM (i : Nat) (F : Mons) : Mons := F.flatMap (dd i)
def raisedM (i : Nat) (F : Mons) : Mons := F.map fun p => (p.1 + unit i, p.2)
def scaleM (c : Int) (F : Mons) : Mons := F.map fun p => (p.1, c * p.2)
def plusM (F : Mons) (c : Int) (G : Mons) : Mons := F ++ scaleM c G
def timesM (F G : Mons) : Mons := F.flatMap fun p => G.map fun q => (p.1 + q.1, p.2 * q.2)
def swapK (i : Nat) (k : Int) : Int := put2 k i (dig k (i + 1)) (dig k i)
def swapM (i : Nat) (F : Mons) : Mons := F.map fun p => (swapK i p.1, p.2)
def demM (i : Nat) (F : Mons) : Mons := dividedM i (raisedM i F)
def isoM (i : Nat) (F : Mons) : Mons := dividedM i (plusM F (-1) (raisedM (i + 1) F))
def atomM (i : Nat) (F : Mons) : Mons := plusM (demM i F) (-1) F

theorem lin_keys (ks : Int → List Int) (s : Int → Int) : Lin fun p => (ks p.1).map fun q => (q, s p.1 * p.2) := by
  refine ⟨fun k v => s k * (ks k).foldr (fun q t => v q + t) 0, fun k c v => ?_⟩
  show wsum ((ks k).map fun q => (q, s k * c)) v = c * (s k * (ks k).foldr (fun q t => v q + t) 0)
  generalize ks k = l
  induction l with
  | nil => simp [wsum]
  | cons a l ih =>
    rw [List.map_cons, wsum, ih, List.foldr_cons]
    simp only
    rw [← Int.mul_assoc, ← Int.mul_assoc, Int.mul_comm c (s k), Int.mul_add]
theorem lin_dd (i : Nat) : Lin (dd i) := lin_keys (ddKeys i) (sg i)
theorem dividedM_eqv {i : Nat} {F G : Mons} (h : Eqv F G) : Eqv (dividedM i F) (dividedM i G) := h.flatMap (lin_dd i)
theorem map_eqv (g : Int → Int) {F G : Mons} (h : Eqv F G) : Eqv (F.map fun p => (g p.1, p.2)) (G.map fun p => (g p.1, p.2)) := by
  have e : ∀ F : Mons, (F.map fun p => (g p.1, p.2)) = F.flatMap fun p => [(g p.1, 1 * p.2)] := by
    intro F
    rw [flat_one]
    simp
  rw [e, e]
  exact h.flatMap (Lin.one 1)
theorem raisedM_eqv {i : Nat} {F G : Mons} (h : Eqv F G) : Eqv (raisedM i F) (raisedM i G) := map_eqv (fun k => k + unit i) h
theorem swapM_eqv {i : Nat} {F G : Mons} (h : Eqv F G) : Eqv (swapM i F) (swapM i G) := map_eqv (swapK i) h
theorem scaleM_eqv {c : Int} {F G : Mons} (h : Eqv F G) : Eqv (scaleM c F) (scaleM c G) := by
  have e : ∀ F : Mons, scaleM c F = F.flatMap fun p => [(id p.1, c * p.2)] := fun F => by rw [flat_one]; rfl
  rw [e, e]
  exact h.flatMap (Lin.one c)
theorem plusM_eqv {c : Int} {F G F' G' : Mons} (h : Eqv F G) (h' : Eqv F' G') : Eqv (plusM F c F') (plusM G c G') := h.append (scaleM_eqv h')
theorem timesM_lin (G : Mons) : Lin fun p => G.map fun q => (p.1 + q.1, p.2 * q.2) := by
  refine ⟨fun k v => wsum G fun j => v (k + j), fun k c v => ?_⟩
  show wsum (G.map fun q => (k + q.1, c * q.2)) v = c * wsum G fun j => v (k + j)
  induction G with
  | nil => simp [wsum]
  | cons a l ih =>
    rw [List.map_cons, wsum, ih, wsum]
    simp only
    rw [Int.mul_add, Int.mul_assoc]
theorem wsum_times (F G : Mons) (v : Int → Int) : wsum (timesM F G) v = wsum F fun k => wsum G fun j => v (k + j) := by
  have e : ∀ (k c : Int), wsum (G.map fun q => (k + q.1, c * q.2)) v = c * wsum G fun j => v (k + j) := by
    intro k c
    induction G with
    | nil => simp [wsum]
    | cons a l ih =>
      rw [List.map_cons, wsum, ih, wsum]
      simp only
      rw [Int.mul_add, Int.mul_assoc]
  unfold timesM
  induction F with
  | nil => rfl
  | cons p F ih => rw [List.flatMap_cons, wsum_append, ih, wsum, e]
theorem wsum_zero (G : Mons) : wsum G (fun _ => 0) = 0 := by
  induction G with
  | nil => rfl
  | cons q G ih => rw [wsum, ih]; simp
theorem wsum_add (G : Mons) (c : Int) (f g : Int → Int) : wsum G (fun j => c * f j + g j) = c * wsum G f + wsum G g := by
  induction G with
  | nil => simp [wsum]
  | cons q G ih =>
    rw [wsum, ih, wsum, wsum, Int.mul_add, Int.mul_add, ← Int.mul_assoc, ← Int.mul_assoc, Int.mul_comm q.2 c]
    omega
theorem wsum_swap (F G : Mons) (f : Int → Int → Int) : wsum F (fun k => wsum G fun j => f k j) = wsum G fun j => wsum F fun k => f k j := by
  induction F with
  | nil => exact (wsum_zero G).symm
  | cons p F ih =>
    rw [wsum, ih, ← wsum_add]
    rfl
theorem times_comm (F G : Mons) : Eqv (timesM F G) (timesM G F) := Eqv.of_wsum fun v => by
  rw [wsum_times, wsum_times, wsum_swap]
  have : (fun j => wsum F fun k => v (k + j)) = fun k => wsum F fun j => v (k + j) := by
    funext j
    congr 1
    funext k
    rw [Int.add_comm]
  rw [this, Int.sub_self]
  exact Int.dvd_zero _
theorem timesM_eqv {F G F' G' : Mons} (h : Eqv F G) (h' : Eqv F' G') : Eqv (timesM F F') (timesM G G') :=
  (h.flatMap (timesM_lin F')).trans ((times_comm G F').trans ((h'.flatMap (timesM_lin G)).trans (times_comm G' G)))
theorem demM_eqv {i : Nat} {F G : Mons} (h : Eqv F G) : Eqv (demM i F) (demM i G) := dividedM_eqv (raisedM_eqv h)
theorem isoM_eqv {i : Nat} {F G : Mons} (h : Eqv F G) : Eqv (isoM i F) (isoM i G) := dividedM_eqv (plusM_eqv h (raisedM_eqv h))
theorem atomM_eqv {i : Nat} {F G : Mons} (h : Eqv F G) : Eqv (atomM i F) (atomM i G) := plusM_eqv (demM_eqv h) h

/-! bounds of digits -/
def Bd (B : Int) (F : Mons) : Prop := ∀ p ∈ F, inK p.1 ∧ ∀ i, i < 7 → dig p.1 i ≤ B
theorem Bd.mono {B C : Int} {F : Mons} (h : Bd B F) (hB : B ≤ C) : Bd C F := fun p hp => ⟨(h p hp).1, fun i hi => Int.le_trans ((h p hp).2 i hi) hB⟩
theorem Bd.append {B : Int} {F G : Mons} (h : Bd B F) (h' : Bd B G) : Bd B (F ++ G) := fun p hp => by
  rcases List.mem_append.1 hp with hp | hp
  · exact h p hp
  · exact h' p hp
theorem Bd.keys {B : Int} {F G : Mons} (h : Bd B F) (hs : ∀ p ∈ G, ∃ q ∈ F, q.1 = p.1) : Bd B G := fun p hp => by
  obtain ⟨q, hq, e⟩ := hs p hp
  rw [← e]
  exact h q hq
theorem mem_canon {F : Mons} {p : Int × Int} (hp : p ∈ canon F) : ∃ q ∈ F, q.1 = p.1 := by
  obtain ⟨h1, h2⟩ := canon_mem.1 hp
  rcases Decidable.em (∃ q ∈ F, q.1 = p.1) with h | h
  · exact h
  · exact absurd (h2.trans (coef_miss fun q hq e => h ⟨q, hq, e⟩)) h1
theorem Bd.canon {B : Int} {F : Mons} (h : Bd B F) : Bd B (canon F) := h.keys fun _ hp => mem_canon hp
theorem Bd.scale {B c : Int} {F : Mons} (h : Bd B F) : Bd B (scaleM c F) := h.keys fun p hp => by
  obtain ⟨q, hq, rfl⟩ := List.mem_map.1 hp
  exact ⟨q, hq, rfl⟩
theorem Bd.plus {B c : Int} {F G : Mons} (h : Bd B F) (h' : Bd B G) : Bd B (plusM F c G) := h.append h'.scale
theorem key_raise {k : Int} (hk : inK k) {i : Nat} (hi : i ≤ 6) (h : dig k i ≤ 126) : inK (k + unit i) ∧ dig (k + unit i) i = dig k i + 1 ∧ ∀ j, j < 7 → j ≠ i → dig (k + unit i) j = dig k j := by
  have hd := dig_range k i
  have e : k + unit i = dset k i (dig k i + 1) := by
    unfold dset
    have : dig k i + 1 - dig k i = 1 := by omega
    rw [this, Int.one_mul]
  rw [e]
  exact dset_digs hk hi (by unfold isD; omega)
theorem Bd.raised {B : Int} {F : Mons} (h : Bd B F) {i : Nat} (hi : i ≤ 6) (hB : B ≤ 126) : Bd (B + 1) (raisedM i F) := fun p hp => by
  obtain ⟨q, hq, rfl⟩ := List.mem_map.1 hp
  obtain ⟨h1, h2⟩ := h q hq
  obtain ⟨h3, h4, h5⟩ := key_raise h1 hi (by have := h2 i (by omega); omega)
  refine ⟨h3, fun j hj => ?_⟩
  by_cases e : j = i
  · subst e
    rw [h4]
    have := h2 j hj
    omega
  · rw [h5 j hj e]
    have := h2 j hj
    omega
theorem dd_key {k : Int} (hk : inK k) {i : Nat} (hi : i ≤ 5) {q : Int} (hq : q ∈ ddKeys i k) :
    inK q ∧ (0 ≤ dig q i ∧ dig q i < max (dig k i) (dig k (i + 1))) ∧ (0 ≤ dig q (i + 1) ∧ dig q (i + 1) < max (dig k i) (dig k (i + 1))) ∧ ∀ j, j < 7 → j ≠ i → j ≠ i + 1 → dig q j = dig k j := by
  unfold ddKeys at hq
  obtain ⟨j, hj, rfl⟩ := List.mem_map.1 hq
  rw [List.mem_range] at hj
  have h1 := dig_range k i
  have h2 := dig_range k (i + 1)
  obtain ⟨e1, e2, e3, e4⟩ := put2_digs hk hi (x := min (dig k i) (dig k (i + 1)) + (dig k i - dig k (i + 1)).natAbs - 1 - j) (y := min (dig k i) (dig k (i + 1)) + j) (by unfold isD; omega) (by unfold isD; omega)
  rw [e2, e3]
  exact ⟨e1, by omega, by omega, e4⟩
theorem Bd.divided {B : Int} {F : Mons} (h : Bd B F) {i : Nat} (hi : i ≤ 5) : Bd B (dividedM i F) := fun p hp => by
  obtain ⟨q, hq, hp⟩ := List.mem_flatMap.1 hp
  obtain ⟨k, hk, rfl⟩ := List.mem_map.1 hp
  obtain ⟨h1, h2⟩ := h q hq
  obtain ⟨h3, h4, h5, h6⟩ := dd_key h1 hi hk
  refine ⟨h3, fun j hj => ?_⟩
  have b1 := h2 i (by omega)
  have b2 := h2 (i + 1) (by omega)
  by_cases e : j = i
  · subst e; show dig k j ≤ B; omega
  · by_cases e' : j = i + 1
    · subst e'; show dig k (i + 1) ≤ B; omega
    · show dig k j ≤ B
      rw [h6 j hj e e']
      exact h2 j hj
/-- of a monomial without one digit above B + 1 at i or behind it: the divided difference brings both below -/
theorem Bd.divided_less {B : Int} {F : Mons} {i : Nat} (hi : i ≤ 5) (h : ∀ p ∈ F, inK p.1 ∧ (∀ j, j < 7 → j ≠ i → j ≠ i + 1 → dig p.1 j ≤ B) ∧ dig p.1 i ≤ B + 1 ∧ dig p.1 (i + 1) ≤ B + 1) : Bd B (dividedM i F) := fun p hp => by
  obtain ⟨q, hq, hp⟩ := List.mem_flatMap.1 hp
  obtain ⟨k, hk, rfl⟩ := List.mem_map.1 hp
  obtain ⟨h1, h2, b1, b2⟩ := h q hq
  obtain ⟨h3, h4, h5, h6⟩ := dd_key h1 hi hk
  refine ⟨h3, fun j hj => ?_⟩
  by_cases e : j = i
  · subst e; show dig k j ≤ B; omega
  · by_cases e' : j = i + 1
    · subst e'; show dig k (i + 1) ≤ B; omega
    · show dig k j ≤ B
      rw [h6 j hj e e']
      exact h2 j hj e e'
theorem Bd.dem {B : Int} {F : Mons} (h : Bd B F) {i : Nat} (hi : i ≤ 5) (hB : B ≤ 126) : Bd B (demM i F) := by
  refine Bd.divided_less hi fun p hp => ?_
  obtain ⟨q, hq, rfl⟩ := List.mem_map.1 hp
  obtain ⟨h1, h2⟩ := h q hq
  obtain ⟨h3, h4, h5⟩ := key_raise h1 (i := i) (by omega) (by have := h2 i (by omega); omega)
  refine ⟨h3, fun j hj hn hn' => by rw [h5 j hj hn]; exact h2 j hj, by rw [h4]; have := h2 i (by omega); omega, ?_⟩
  rw [h5 (i + 1) (by omega) (by omega)]
  have := h2 (i + 1) (by omega)
  omega
theorem Bd.iso {B : Int} {F : Mons} (h : Bd B F) {i : Nat} (hi : i ≤ 5) (hB : B ≤ 126) : Bd B (isoM i F) := by
  refine Bd.divided_less hi fun p hp => ?_
  rcases List.mem_append.1 hp with hp | hp
  · obtain ⟨h1, h2⟩ := h p hp
    exact ⟨h1, fun j hj _ _ => h2 j hj, by have := h2 i (by omega); omega, by have := h2 (i + 1) (by omega); omega⟩
  · obtain ⟨r, hr, rfl⟩ := List.mem_map.1 hp
    obtain ⟨q, hq, rfl⟩ := List.mem_map.1 hr
    obtain ⟨h1, h2⟩ := h q hq
    obtain ⟨h3, h4, h5⟩ := key_raise h1 (i := i + 1) (by omega) (by have := h2 (i + 1) (by omega); omega)
    refine ⟨h3, fun j hj hn hn' => by show dig (q.1 + unit (i + 1)) j ≤ B; rw [h5 j hj hn']; exact h2 j hj, ?_, ?_⟩
    · show dig (q.1 + unit (i + 1)) i ≤ B + 1
      rw [h5 i (by omega) (by omega)]; have := h2 i (by omega); omega
    · show dig (q.1 + unit (i + 1)) (i + 1) ≤ B + 1
      rw [h4]; have := h2 (i + 1) (by omega); omega
theorem key_add {j k : Int} (hj : inK j) (hk : inK k) (h : ∀ i, i < 7 → dig j i + dig k i ≤ 127) : inK (j + k) ∧ ∀ i, i < 7 → dig (j + k) i = dig j i + dig k i := by
  have e : j + k = pack (dig j 0 + dig k 0) (dig j 1 + dig k 1) (dig j 2 + dig k 2) (dig j 3 + dig k 3) (dig j 4 + dig k 4) (dig j 5 + dig k 5) (dig j 6 + dig k 6) := by
    have h1 := key_pack hj
    have h2 := key_pack hk
    unfold pack at *
    omega
  have hd : ∀ i, i < 7 → isD (dig j i + dig k i) := fun i hi => by
    have := h i hi
    have := dig_range j i
    have := dig_range k i
    unfold isD
    omega
  have q := pack_digs (hd 0 (by omega)) (hd 1 (by omega)) (hd 2 (by omega)) (hd 3 (by omega)) (hd 4 (by omega)) (hd 5 (by omega)) (hd 6 (by omega))
  rw [← e] at q
  refine ⟨q.1, fun i hi => ?_⟩
  have hc : i = 0 ∨ i = 1 ∨ i = 2 ∨ i = 3 ∨ i = 4 ∨ i = 5 ∨ i = 6 := by omega
  rcases hc with rfl | rfl | rfl | rfl | rfl | rfl | rfl
  · exact q.2.1
  · exact q.2.2.1
  · exact q.2.2.2.1
  · exact q.2.2.2.2.1
  · exact q.2.2.2.2.2.1
  · exact q.2.2.2.2.2.2.1
  · exact q.2.2.2.2.2.2.2
theorem Bd.times {B C : Int} {F G : Mons} (h : Bd B F) (h' : Bd C G) (hB : B + C ≤ 127) : Bd (B + C) (timesM F G) := fun p hp => by
  obtain ⟨a, ha, hp⟩ := List.mem_flatMap.1 hp
  obtain ⟨b, hb, rfl⟩ := List.mem_map.1 hp
  obtain ⟨h1, h2⟩ := h a ha
  obtain ⟨h3, h4⟩ := h' b hb
  obtain ⟨h5, h6⟩ := key_add h1 h3 fun i hi => by have := h2 i hi; have := h4 i hi; omega
  refine ⟨h5, fun i hi => ?_⟩
  show dig (a.1 + b.1) i ≤ B + C
  rw [h6 i hi]
  have := h2 i hi
  have := h4 i hi
  omega
theorem Bd.swap {B : Int} {F : Mons} (h : Bd B F) {i : Nat} (hi : i ≤ 5) : Bd B (swapM i F) := fun p hp => by
  obtain ⟨q, hq, rfl⟩ := List.mem_map.1 hp
  obtain ⟨h1, h2⟩ := h q hq
  obtain ⟨h3, h4, h5, h6⟩ := put2_digs h1 hi (dig_isD q.1 (i + 1)) (dig_isD q.1 i)
  refine ⟨h3, fun j hj => ?_⟩
  show dig (swapK i q.1) j ≤ B
  unfold swapK
  by_cases e : j = i
  · subst e; rw [h4]; exact h2 _ (by omega)
  · by_cases e' : j = i + 1
    · subst e'; rw [h5]; exact h2 _ (by omega)
    · rw [h6 j hj e e']; exact h2 j hj
end Go.Proofs.YtomejjbkakpoiaaGreat
