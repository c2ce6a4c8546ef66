/- Flo, Words, Fop, Small, Pred, Base, Flos, Nums, Fix -/
import Derived.Laws.FloatArith
import Derived.Laws.NewFold
import Derived.Test.YtikleaiflmoffaaRows
import Derived.WalkKit
import Derived.WalkSpells
import Derived.WalkLawsBesides
import Derived.BigQuiet
import Derived.Deep.QuietTactic
import Derived.Lib.Hide
import Derived.Shelf.Abstract
import Derived.Deep.RegionWith
-- Floating point words: what is read, what is written, when a number fits, and how numbers compare.
namespace Go.Proofs.Ytikleaiflmoffaa
open Ieee

/-- a word is a NaN -/
def nanF (k : FloatKind) (x : Nat) : Bool := (k.format.read x).isNaN
theorem binade_pos (f : Format) : 0 < f.binade := Nat.two_pow_pos _
theorem word_div (f : Format) (neg : Bool) {r : Nat} (h : r < f.signWeight) : (f.word neg r / f.signWeight % 2 == 1) = neg := by
  have hp : 0 < f.signWeight := Nat.two_pow_pos _
  cases neg
  · simp [Format.word, Nat.div_eq_of_lt h]
  · simp only [Format.word, if_true]
    rw [Nat.add_div_left _ hp, Nat.div_eq_of_lt h]
    rfl
theorem word_mod (f : Format) (neg : Bool) {r : Nat} (h : r < f.signWeight) : f.word neg r % f.signWeight = r := by
  cases neg
  · simp [Format.word, Nat.mod_eq_of_lt h]
  · simp only [Format.word, if_true]
    rw [Nat.add_mod_left, Nat.mod_eq_of_lt h]
/-- what a word of a sign and a rung reads as -/
theorem read_word (f : Format) (neg : Bool) {r : Nat} (h : r < f.signWeight) : f.read (f.word neg r) =
    if r < f.binade then .number neg r f.leastPlace
    else if r < f.infRung then .number neg (f.binade + r % f.binade) (f.leastPlace + (r / f.binade - 1 : Nat))
    else if r = f.infRung then .infinity neg
    else .nan neg (r - f.infRung) := by
  unfold Format.read
  simp only [word_div f neg h, word_mod f neg h]
theorem cut_le (neg : Bool) (n drop : Nat) : Toward.even.cut neg n drop ≤ n / 2 ^ (min drop (n.log2 + 2)) + 1 := by
  unfold Toward.cut
  simp only [Nat.one_shiftLeft]
  have : ∀ b : Bool, b.toNat ≤ 1 := fun b => by cases b <;> simp
  exact Nat.add_le_add_left (this _) _
/-- the digits that are kept fit one binade's numbers -/
theorem kept_le (fb : Nat) (neg : Bool) (mag : Nat) (place last : Int) (_h0 : mag ≠ 0) (hl : place + mag.log2 - fb ≤ last) :
    Toward.even.cut neg (mag <<< (place - last).toNat) (last - place).toNat ≤ 2 ^ (fb + 1) := by
  have hm : mag < 2 ^ (mag.log2 + 1) := Nat.lt_log2_self
  have hc := cut_le neg (mag <<< (place - last).toNat) (last - place).toNat
  refine Nat.le_trans hc ?_
  by_cases h : last ≤ place
  · have e1 : (last - place).toNat = 0 := by omega
    rw [e1, Nat.zero_min, Nat.pow_zero, Nat.div_one, Nat.shiftLeft_eq]
    have hu : mag.log2 + 1 + (place - last).toNat ≤ fb + 1 := by omega
    have h1 : mag * 2 ^ (place - last).toNat < 2 ^ (mag.log2 + 1) * 2 ^ (place - last).toNat := Nat.mul_lt_mul_of_pos_right hm (Nat.two_pow_pos _)
    rw [← Nat.pow_add] at h1
    have h2 : 2 ^ (mag.log2 + 1 + (place - last).toNat) ≤ 2 ^ (fb + 1) := Nat.pow_le_pow_right (by omega) hu
    omega
  · have e1 : (place - last).toNat = 0 := by omega
    rw [e1, Nat.shiftLeft_zero]
    have hp : 1 ≤ 2 ^ (fb + 1) := Nat.one_le_two_pow
    by_cases h2 : (last - place).toNat < mag.log2 + 1
    · rw [Nat.min_eq_left (by omega)]
      have h3 : mag / 2 ^ (last - place).toNat < 2 ^ (mag.log2 + 1 - (last - place).toNat) := by
        rw [Nat.div_lt_iff_lt_mul (Nat.two_pow_pos _), ← Nat.pow_add]
        rwa [show mag.log2 + 1 - (last - place).toNat + (last - place).toNat = mag.log2 + 1 from by omega]
      have h4 : 2 ^ (mag.log2 + 1 - (last - place).toNat) ≤ 2 ^ (fb + 1) := Nat.pow_le_pow_right (by omega) (by omega)
      omega
    · have h3 : mag / 2 ^ (min (last - place).toNat (mag.log2 + 2)) = 0 := by
        refine Nat.div_eq_of_lt (Nat.lt_of_lt_of_le hm (Nat.pow_le_pow_right (by omega) (by omega)))
      omega
/-- the rung of the number nearest to mag * 2 ^ place -/
theorem nearest_rung (f : Format) (neg : Bool) (mag : Nat) (place E : Int) (h0 : mag ≠ 0) (hE : place + mag.log2 ≤ E) (hl : f.leastPlace + f.fractionBits ≤ E) :
    ∃ r, f.nearest neg mag place = f.word neg (min r f.infRung) ∧ r ≤ ((E - f.fractionBits - f.leastPlace).toNat + 2) * f.binade := by
  refine ⟨_, by unfold Format.nearest; rw [if_neg h0], ?_⟩
  have hk := kept_le f.fractionBits neg mag place (max (place + mag.log2 - f.fractionBits) f.leastPlace) h0 (Int.le_max_left _ _)
  have hlast : (max (place + mag.log2 - f.fractionBits) f.leastPlace - f.leastPlace).toNat ≤ (E - f.fractionBits - f.leastPlace).toNat := by omega
  have h1 := Nat.mul_le_mul_right f.binade hlast
  have h2 : 2 ^ (f.fractionBits + 1) = 2 * f.binade := by unfold Format.binade; rw [Nat.pow_succ, Nat.mul_comm]
  rw [Nat.add_mul]
  rw [h2] at hk
  exact Nat.add_le_add h1 hk
/-- a number: nought, or of a size below 2 ^ (E + 1) -/
def Fits (d : Datum) (E : Int) : Prop := ∃ s m p, d = .number s m p ∧ (m = 0 ∨ p + m.log2 ≤ E)
theorem infRung_lt' (f : Format) : f.infRung < f.signWeight := f.infRung_lt
/-- what is written of a number that is not too great is a number again, of nearly the same size -/
theorem fits_write (f : Format) (s : Bool) (m : Nat) (p E : Int) (h : m = 0 ∨ p + m.log2 ≤ E) (hl : f.leastPlace + f.fractionBits ≤ E) (hE : ((E - f.fractionBits - f.leastPlace).toNat + 2) * f.binade < f.infRung) :
    Fits (f.read (f.nearest s m p)) (E + 1) := by
  have hb := binade_pos f
  have key : ∃ r, f.nearest s m p = f.word s r ∧ r ≤ ((E - f.fractionBits - f.leastPlace).toNat + 2) * f.binade := by
    by_cases h0 : m = 0
    · exact ⟨0, by unfold Format.nearest; rw [if_pos h0], Nat.zero_le _⟩
    · obtain ⟨r, h1, h2⟩ := nearest_rung f s m p E h0 (h.resolve_left h0) hl
      exact ⟨r, by rw [h1, Nat.min_eq_left (by omega)], h2⟩
  obtain ⟨r, hr, hle⟩ := key
  have hrs : r < f.signWeight := by have := f.infRung_lt; omega
  rw [hr, read_word f s hrs]
  by_cases h1 : r < f.binade
  · rw [if_pos h1]
    refine ⟨_, _, _, rfl, ?_⟩
    by_cases h2 : r = 0
    · exact .inl h2
    · right
      have : r.log2 < f.fractionBits := by rw [Nat.log2_lt h2]; exact h1
      omega
  · rw [if_neg h1, if_pos (by omega)]
    refine ⟨_, _, _, rfl, .inr ?_⟩
    have h3 : r / f.binade ≤ (E - f.fractionBits - f.leastPlace).toNat + 2 := Nat.div_le_of_le_mul (by rw [Nat.mul_comm]; exact hle)
    have h4 : (f.binade + r % f.binade).log2 ≤ f.fractionBits := by
      have h5 : (f.binade + r % f.binade).log2 < f.fractionBits + 1 := by
        rw [Nat.log2_lt (by omega), Nat.pow_succ]
        have := Nat.mod_lt r hb
        unfold Format.binade at this ⊢
        omega
      omega
    omega
theorem fmt32 : FloatKind.f32.format.binade = 8388608 ∧ FloatKind.f32.format.infRung = 2139095040 ∧ FloatKind.f32.format.leastPlace = -149 ∧ FloatKind.f32.format.fractionBits = 23 := by decide
theorem fmt64 : FloatKind.f64.format.binade = 4503599627370496 ∧ FloatKind.f64.format.infRung = 9218868437227405312 ∧ FloatKind.f64.format.leastPlace = -1074 ∧ FloatKind.f64.format.fractionBits = 52 := by decide
/-- the greatest size of a number of a kind -/
def topE : FloatKind → Int | .f32 => 127 | .f64 => 1023
theorem top_rung (k : FloatKind) (r : Nat) (h : r < k.format.infRung) : k.format.leastPlace + ((r / k.format.binade - 1 : Nat) : Int) + k.format.fractionBits ≤ topE k := by
  cases k
  · obtain ⟨a, b, c, d⟩ := fmt32
    rw [b] at h
    rw [a, c, d]
    unfold topE
    dsimp only
    omega
  · obtain ⟨a, b, c, d⟩ := fmt64
    rw [b] at h
    rw [a, c, d]
    unfold topE
    dsimp only
    omega
theorem low_top (k : FloatKind) : k.format.leastPlace + k.format.fractionBits ≤ topE k := by cases k <;> decide
/-- every word is a NaN, an infinity or a number of the kind's size -/
theorem read_cases (k : FloatKind) (x : Nat) : (k.format.read x).isNaN = true ∨ (∃ s, k.format.read x = .infinity s) ∨ Fits (k.format.read x) (topE k) := by
  have hb := binade_pos k.format
  have hlow := low_top k
  unfold Format.read
  dsimp only
  split
  · rename_i h
    right; right
    refine ⟨_, _, _, rfl, ?_⟩
    by_cases h2 : x % k.format.signWeight = 0
    · exact .inl h2
    · right
      have : (x % k.format.signWeight).log2 < k.format.fractionBits := by rw [Nat.log2_lt h2]; exact h
      omega
  · split
    · rename_i h1 h2
      right; right
      refine ⟨_, _, _, rfl, .inr ?_⟩
      have h3 := top_rung k _ h2
      have h4 : (k.format.binade + x % k.format.signWeight % k.format.binade).log2 ≤ k.format.fractionBits := by
        have h5 : (k.format.binade + x % k.format.signWeight % k.format.binade).log2 < k.format.fractionBits + 1 := by
          rw [Nat.log2_lt (by omega), Nat.pow_succ]
          have := Nat.mod_lt (x % k.format.signWeight) hb
          unfold Format.binade at this ⊢
          omega
        omega
      omega
    · split
      · right; left; exact ⟨_, rfl⟩
      · left; rfl
theorem fits_nan {d : Datum} {E : Int} (h : Fits d E) : d.isNaN = false ∧ d.isInfinity = false := by
  obtain ⟨s, m, p, rfl, _⟩ := h
  exact ⟨rfl, rfl⟩
theorem fits_mono {d : Datum} {E E' : Int} (h : Fits d E) (hE : E ≤ E') : Fits d E' := by
  obtain ⟨s, m, p, rfl, h⟩ := h
  exact ⟨s, m, p, rfl, h.imp id fun h => by omega⟩
theorem inf_read (k : FloatKind) (s : Bool) : k.format.read (k.format.word s k.format.infRung) = .infinity s := by
  cases k <;> cases s <;> decide
/-- a number of size E is written as a number of the kind -/
theorem fits_enc (k : FloatKind) {d : Datum} {E : Int} (h : Fits d E) (hl : k.format.leastPlace + k.format.fractionBits ≤ E) (hE : E < topE k) : Fits (k.format.read (k.format.write d)) (E + 1) := by
  obtain ⟨s, m, p, rfl, h⟩ := h
  refine fits_write k.format s m p E h hl ?_
  cases k
  · obtain ⟨a, b, c, d⟩ := fmt32
    rw [a, b, c, d]
    unfold topE at hE
    dsimp only at hE
    omega
  · obtain ⟨a, b, c, d⟩ := fmt64
    rw [a, b, c, d]
    unfold topE at hE
    dsimp only at hE
    omega
/-- a float32 that is no NaN has its float64, which is none either -/
theorem widen (x : Nat) (h : nanF .f32 x = false) : ∃ r, floatToFloatBits .f32 x .f64 = some r ∧ nanF .f64 r = false := by
  unfold floatToFloatBits nanF at *
  rw [if_neg (by decide)]
  rcases read_cases .f32 x with h1 | ⟨s, h1⟩ | h1
  · rw [h1] at h; cases h
  · rw [show FloatKind.f32.decode x = .infinity s from h1]
    exact ⟨_, rfl, by show (FloatKind.f64.format.read (FloatKind.f64.format.word s FloatKind.f64.format.infRung)).isNaN = false; rw [inf_read]; rfl⟩
  · have h2 := fits_enc .f64 (fits_mono h1 (show topE .f32 ≤ 128 by decide)) (by decide) (by decide)
    obtain ⟨s, m, p, he, _⟩ := h1
    rw [show FloatKind.f32.decode x = .number s m p from he]
    rw [he] at h2
    obtain ⟨h3, h4⟩ := fits_nan h2
    dsimp only
    rw [if_neg (by show ¬ (FloatKind.f64.format.read (FloatKind.f64.format.write (.number s m p))).isInfinity = true; rw [h4]; decide)]
    exact ⟨_, rfl, h3⟩
theorem order_self {k : FloatKind} {x : Nat} (h : nanF k x = false) : k.format.order x x = some .eq := by
  unfold nanF at h
  unfold Format.order
  cases hd : k.format.read x with
  | nan s t => rw [hd] at h; cases h
  | infinity s => simp [Datum.order]
  | number s m p => simp [Datum.order]
theorem order_nan {k : FloatKind} {x : Nat} (h : nanF k x = true) (y : Nat) : k.format.order x y = none ∧ k.format.order y x = none := by
  unfold nanF at h
  unfold Format.order
  cases hd : k.format.read x with
  | nan s t => cases k.format.read y <;> exact ⟨rfl, rfl⟩
  | infinity s => rw [hd] at h; cases h
  | number s m p => rw [hd] at h; cases h
/-- what the model answers for a NaN's bits is a NaN's -/
theorem nan_conv (b t : Nat) : nanF .f64 ((Question.nanConv .f64 b).cut t) = true := by
  show (FloatKind.f64.format.read ((t % 2) * 2 ^ 63 + 0x7ff0000000000000 + 1 + (t / 2) % (2 ^ 52 - 1))).isNaN = true
  obtain ⟨a, b', c, d⟩ := fmt64
  have hs : FloatKind.f64.format.signWeight = 9223372036854775808 := by decide
  unfold Format.read
  rw [a, b', hs]
  dsimp only
  have hm : (t % 2 * 2 ^ 63 + 9218868437227405312 + 1 + t / 2 % (2 ^ 52 - 1)) % 9223372036854775808 = 9218868437227405312 + 1 + t / 2 % (2 ^ 52 - 1) := by omega
  simp only [hm]
  rw [if_neg (by omega), if_neg (by omega), if_neg (by omega)]
  rfl
theorem nan_bits (x y t : Nat) : nanF .f32 ((Question.nanBits .f32 x y).cut t) = true := by
  show (FloatKind.f32.format.read ((t % 2) * 2 ^ 31 + 0x7f800000 + 1 + (t / 2) % (2 ^ 23 - 1))).isNaN = true
  obtain ⟨a, b', c, d⟩ := fmt32
  have hs : FloatKind.f32.format.signWeight = 2147483648 := by decide
  unfold Format.read
  rw [a, b', hs]
  dsimp only
  have hm : (t % 2 * 2 ^ 31 + 2139095040 + 1 + t / 2 % (2 ^ 23 - 1)) % 2147483648 = 2139095040 + 1 + t / 2 % (2 ^ 23 - 1) := by omega
  simp only [hm]
  rw [if_neg (by omega), if_neg (by omega), if_neg (by omega)]
  rfl
/-- one divided by a nought -/
theorem one_div_zero {a : Nat} (h : FloatKind.f64.format.order a 0 = some .eq) : ∃ r, floatBits .quo .f64 4607182418800017408 a = some r := by
  unfold floatBits
  dsimp only
  unfold Format.order at h
  unfold Format.div
  have h1 : FloatKind.f64.format.read 4607182418800017408 = .number false 4503599627370496 (-52) := by decide
  have h0 : FloatKind.f64.format.read 0 = .number false 0 (-1074) := by decide
  rw [h0] at h
  rw [h1]
  cases hd : FloatKind.f64.format.read a with
  | nan s t => rw [hd] at h; cases h
  | infinity s => rw [hd] at h; cases s <;> simp [Datum.order] at h
  | number s m p =>
    unfold Datum.quotient
    dsimp only
    by_cases hm : m = 0
    · rw [if_pos hm, if_neg (by decide)]; exact ⟨_, rfl⟩
    · rw [if_neg hm]; exact ⟨_, rfl⟩
theorem nan_bits64 (x y t : Nat) : nanF .f64 ((Question.nanBits .f64 x y).cut t) = true := nan_conv 0 t
theorem nan_bitsK (k : FloatKind) (x y t : Nat) : nanF k ((Question.nanBits k x y).cut t) = true := by
  cases k
  · exact nan_bits x y t
  · exact nan_bits64 x y t
theorem nan_convK (b t : Nat) : nanF .f32 ((Question.nanConv .f32 b).cut t) = true := nan_bits 0 0 t
/-- an operation that has no answer: some NaN, one draw on -/
theorem run_arith_none {P : Program} (w : World) {op : BinOp} (t : TypeId) (k : FloatKind) (x y : Nat) (hop : op = .add ∨ op = .sub ∨ op = .mul ∨ op = .quo) (h : floatBits op k x y = none) :
    ∃ r, (binOp op t (.float k x) (.float k y)).run P w = .ok (.float k r) w.drew ∧ nanF k r = true := by
  unfold floatBits at h
  refine ⟨_, ?_, nan_bitsK k x y (w.tape w.drawn (.nanBits k x y))⟩
  rcases hop with rfl | rfl | rfl | rfl
  all_goals
    simp only at h
    simp [binOp, Op.floatArith, h, Question.forced]
/-- a NaN made into the other kind: some NaN, one draw on -/
theorem run_conv_nan {P : Program} (w : World) (src dst : TypeId) (s k : FloatKind) (b : Nat) (hs : (P.underlying src).isSome = true) (hd : P.underlying dst = some (.float k)) (hne : s ≠ k) (h : nanF s b = true) :
    ∃ r, (convert src dst (.float s b)).run P w = .ok (.float k r) w.drew ∧ nanF k r = true := by
  obtain ⟨u, hs'⟩ := Option.isSome_iff_exists.1 hs
  have hc : nanF k ((Question.nanConv k b).cut (w.tape w.drawn (.nanConv k b))) = true := by
    cases k
    · exact nan_convK b _
    · exact nan_conv b _
  refine ⟨_, ?_, hc⟩
  have hd' : ∃ sg t, s.decode b = .nan sg t := by
    unfold nanF at h
    show ∃ sg t, s.format.read b = .nan sg t
    cases hr : s.format.read b with
    | nan sg t => exact ⟨sg, t, rfl⟩
    | infinity sg => rw [hr] at h; cases h
    | number sg m p => rw [hr] at h; cases h
  obtain ⟨sg, t, he⟩ := hd'
  cases u <;> simp [convert, run_underlying hs', run_underlying hd, Conv.floatToFloat, hne, he, Question.forced]
end Go.Proofs.Ytikleaiflmoffaa

-- Words for memory and small laws about them: slices that read as lists, rows of the call's own. No condition.
namespace Go.Proofs.Ytikleaiflmoffaa
open Go.RowKit

/-- The slice at address A reads as the one-cell values xs; it lies below block B. -/
def Rd (w : World) (B : Nat) (A : Option Addr) (xs : List Value) : Prop :=
  xs = [] ∨ ∃ ad : Addr, A = some ad ∧ ad.block < B ∧ ∀ j u, xs[j]? = some u → w.cell? (ad.add j) = some u

theorem add_block (a : Addr) (n : Nat) : (a.add n).block = a.block := by unfold Addr.add; split <;> rfl

section
variable {w w' : World} {B B' : Nat} {A : Option Addr} {xs : List Value}
theorem Rd.keep (h : Rd w B A xs) (hk : ∀ p : Addr, p.block < B → w'.cell? p = w.cell? p) : Rd w' B A xs := by
  rcases h with h | ⟨ad, e, hb, hc⟩
  · exact .inl h
  · exact .inr ⟨ad, e, hb, fun j u hu => (hk _ (by rw [add_block]; exact hb)).trans (hc j u hu)⟩
theorem Rd.more (h : Rd w B A xs) (hB : B ≤ B') : Rd w B' A xs := by
  rcases h with h | ⟨ad, e, hb, hc⟩
  · exact .inl h
  · exact .inr ⟨ad, e, by omega, hc⟩
theorem Rd.below (h : Rd w B A xs) (hb : Below B w w') : Rd w' B A xs := h.keep fun _ hp => hb.cell hp
theorem Rd.next (h : Rd w w.heap.size A xs) (hb : Below w.heap.size w w') : Rd w' w'.heap.size A xs := (h.below hb).more hb.size
theorem Rd.alloc (h : Rd w B A xs) (hB : B ≤ w.heap.size) (o : Obj) : Rd (w.alloc o) B A xs := h.keep fun p hp => World.cell?_alloc_lt w o p (by omega)
theorem Rd.setCell (h : Rd w B A xs) {p : Addr} (hB : B ≤ p.block) (u : Value) : Rd (w.setCell p u) B A xs :=
  h.keep fun q hq => World.cell?_setCell_other w p q u (fun e => by subst e; omega)
theorem Rd.at_ {k : Nat} (h : Rd w B A xs) (hk : k < xs.length) : ∃ ad, A = some ad ∧ ad.block < B ∧ w.cell? (ad.add k) = some xs[k] := by
  rcases h with rfl | ⟨ad, e, hb, hc⟩
  · simp at hk
  · exact ⟨ad, e, hb, hc k _ (List.getElem?_eq_getElem hk)⟩
theorem Rd.nil : Rd w B A [] := .inl rfl
theorem Rd.own {base : Nat} {e : TypeId} {n c : Nat} (h : w.ownsRow base e 1 (.slice A n c) n xs) : Rd w w.heap.size A xs := by
  rcases h.2 with ⟨hv, hn⟩ | ⟨g, cap, cur, hv, hb, hg, _⟩
  · left
    have := h.1
    rw [hn] at this
    exact List.eq_nil_of_length_eq_zero (by simpa using this)
  · right
    have hA : A = some ⟨g, 0, none⟩ := by injection hv
    subst hA
    refine ⟨_, rfl, (Array.getElem?_eq_some_iff.1 hg).1, h.cells (g := g) rfl⟩
end

/-- An owned row whose block lies below another world's heap is kept by 'Below'. -/
theorem own_below {w w' : World} {base B : Nat} {e : TypeId} {size : Nat} {v : Value} {n : Nat} {xs : List Value} (h : w.ownsRow base e size v n xs) (hb : Below B w w') (hB : ∀ k, v.ownBlock = some k → k < B) : w'.ownsRow base e size v n xs := by
  refine ⟨h.1, ?_⟩
  rcases h.2 with hn | ⟨g, cap, cur, rfl, hbg, hg, rest⟩
  · exact .inl hn
  · refine .inr ⟨g, cap, cur, rfl, hbg, ?_, rest⟩
    rw [hb.block g (hB g rfl)]
    exact hg
theorem own_next {w w' : World} {base : Nat} {e : TypeId} {size : Nat} {v : Value} {n : Nat} {xs : List Value} (h : w.ownsRow base e size v n xs) (hb : Below w.heap.size w w') : w'.ownsRow base e size v n xs :=
  own_below h hb fun k hk => (h.lt k hk).2
/-- The base of an owned row may be lowered. -/
theorem own_base {w : World} {base b' : Nat} {e : TypeId} {size : Nat} {v : Value} {n : Nat} {xs : List Value} (h : w.ownsRow base e size v n xs) (hb : b' ≤ base) : w.ownsRow b' e size v n xs := by
  refine ⟨h.1, ?_⟩
  rcases h.2 with hn | ⟨g, cap, cur, rfl, hbg, rest⟩
  · exact .inl hn
  · exact .inr ⟨g, cap, cur, rfl, by omega, rest⟩

/-- A store into another block leaves an owned row. -/
theorem own_set {w : World} {base : Nat} {e : TypeId} {size : Nat} {A : Option Addr} {n c : Nat} {xs : List Value} (h : w.ownsRow base e size (.slice A n c) n xs) {p : Addr} (hp : ∀ a, A = some a → a.block ≠ p.block) (u : Value) : (w.setCell p u).ownsRow base e size (.slice A n c) n xs := by
  refine ⟨h.1, ?_⟩
  rcases h.2 with hn | ⟨g, cap, cur, hv, hbg, hg, rest⟩
  · exact .inl hn
  · have hA : A = some ⟨g, 0, none⟩ := by injection hv
    refine .inr ⟨g, cap, cur, hv, hbg, ?_, rest⟩
    rw [Below.heap_setCell _ _ _ _ (hp _ hA)]
    exact hg

theorem bcell {w w1 : World} {B : Nat} (hb : Below B w w1) : (∀ b o, b < B → w1.cell? ⟨b, o, none⟩ = w.cell? ⟨b, o, none⟩) ∧ (∀ b o, b < B → w1.frozen? ⟨b, o, none⟩ = w.frozen? ⟨b, o, none⟩) :=
  ⟨fun b o h => hb.cell (p := ⟨b, o, none⟩) h, fun b o h => hb.frozen (p := ⟨b, o, none⟩) h⟩
theorem below_new (w : World) (o : Obj) : Below w.heap.size w (w.alloc o) := (Below.refl _ _).alloc (Nat.le_refl _) _
theorem bthen {a b c : World} (h : Below a.heap.size a b) (k : Below b.heap.size b c) : Below a.heap.size a c := h.trans (k.mono h.size)
theorem undrew {w w' : World} (h : Below w.drew.heap.size w.drew w') : Below w.heap.size w w' := ⟨h.os, h.tape, h.output, h.size, h.block⟩
theorem below_drewN {B : Nat} {a w : World} (h : Below B a w) (n : Nat) : Below B a (w.drewN n) := ⟨h.os, h.tape, h.output, h.size, h.block⟩

theorem ret_bool {a b : Bool} (h : a = b) : Ending.returned (.bool a) = .returned (.bool b) := by rw [h]
theorem ret_int {k : IntKind} {a b : Int} (h : a = b) : Ending.returned (.int k a) = .returned (.int k b) := by rw [h]

/-- A round of a copy: the k-th place is filled. -/
theorem fill_step {α : Type} (f : α → Value) (z : Value) (l : List α) (k : Nat) (hk : k < l.length) :
    ((l.take k).map f ++ List.replicate (l.length - k) z).set k (f l[k]) = (l.take (k + 1)).map f ++ List.replicate (l.length - (k + 1)) z := by
  have e1 : ((l.take k).map f).length = k := by simp; omega
  obtain ⟨m, hm⟩ : ∃ m, l.length - k = m + 1 := ⟨l.length - k - 1, by omega⟩
  rw [List.set_append_right _ _ (by omega), e1, Nat.sub_self, hm, List.replicate_succ, List.set_cons_zero, List.take_succ_eq_append_getElem hk, show l.length - (k + 1) = m from by omega]
  simp only [List.map_append, List.map_cons, List.map_nil, List.append_assoc, List.singleton_append]

theorem Try.info4 : (Try.prog.info? 4).map (fun i => (i.zero, i.size, i.bytes)) = some (some (.bool false), 1, 1) := by kernel_rfl
theorem Try.info2 : (Try.prog.info? 2).map (fun i => (i.zero, i.size, i.bytes)) = some (some (.int .i64 0), 1, 8) := by kernel_rfl

end Go.Proofs.Ytikleaiflmoffaa

-- Floating point operations, the bits of a NaN left open: what they give but for those bits, and how a walk takes them.
namespace Go.Proofs.Ytikleaiflmoffaa
open Ieee Go.RowKit
/-- a NaN of the kind -/
def qnan : FloatKind → Nat | .f32 => 2143289344 | .f64 => 9221120237041090560
theorem qnan_nan (k : FloatKind) : nanF k (qnan k) = true := by cases k <;> decide
/-- the same, but for a NaN's bits -/
def Sim (k : FloatKind) (x y : Nat) : Prop := x = y ∨ (nanF k x = true ∧ nanF k y = true)
theorem Sim.refl (k : FloatKind) (x : Nat) : Sim k x x := .inl rfl
theorem Sim.symm {k : FloatKind} {x y : Nat} (h : Sim k x y) : Sim k y x := h.imp Eq.symm And.symm
theorem Sim.trans {k : FloatKind} {x y z : Nat} (h : Sim k x y) (h' : Sim k y z) : Sim k x z := by
  rcases h with rfl | ⟨h1, h2⟩
  · exact h'
  · rcases h' with rfl | ⟨_, h4⟩
    · exact .inr ⟨h1, h2⟩
    · exact .inr ⟨h1, h4⟩
theorem Sim.eq {k : FloatKind} {x y : Nat} (h : Sim k x y) (hn : nanF k y = false) : x = y := by
  rcases h with h | ⟨_, h⟩
  · exact h
  · rw [hn] at h; cases h
theorem Sim.nan {k : FloatKind} {x y : Nat} (h : Sim k x y) : nanF k x = nanF k y := by
  rcases h with rfl | ⟨h1, h2⟩
  · rfl
  · rw [h1, h2]
def IsArith (op : BinOp) : Prop := op = .add ∨ op = .sub ∨ op = .mul ∨ op = .quo
theorem arith_add : IsArith .add := .inl rfl
theorem arith_sub : IsArith .sub := .inr (.inl rfl)
theorem arith_mul : IsArith .mul := .inr (.inr (.inl rfl))
theorem arith_quo : IsArith .quo := .inr (.inr (.inr rfl))
/-- what an operation gives; some NaN where it has no answer -/
def fop (op : BinOp) (k : FloatKind) (x y : Nat) : Nat := (floatBits op k x y).getD (qnan k)
theorem read_nan {k : FloatKind} {x : Nat} (h : nanF k x = true) : ∃ s t, k.format.read x = .nan s t := by
  unfold nanF at h
  cases hd : k.format.read x with
  | nan s t => exact ⟨s, t, rfl⟩
  | infinity s => rw [hd] at h; cases h
  | number s m p => rw [hd] at h; cases h
theorem fb_nan {op : BinOp} (hop : IsArith op) {k : FloatKind} {x y : Nat} (h : nanF k x = true ∨ nanF k y = true) : floatBits op k x y = none := by
  rcases h with h | h
  · obtain ⟨s, t, hd⟩ := read_nan h
    rcases hop with rfl | rfl | rfl | rfl <;> simp [floatBits, Format.add, Format.sub, Format.mul, Format.div, hd, Datum.sum, Datum.product, Datum.quotient]
  · obtain ⟨s, t, hd⟩ := read_nan h
    rcases hop with rfl | rfl | rfl | rfl <;> cases hx : k.format.read x <;> simp [floatBits, Format.add, Format.sub, Format.mul, Format.div, hd, hx, Datum.sum, Datum.product, Datum.quotient, Datum.opposite]
theorem fop_nan {op : BinOp} (hop : IsArith op) {k : FloatKind} {x y : Nat} (h : nanF k x = true ∨ nanF k y = true) : nanF k (fop op k x y) = true := by
  unfold fop
  rw [fb_nan hop h]
  exact qnan_nan k
theorem fop_sim {op : BinOp} (hop : IsArith op) {k : FloatKind} {x x' y y' : Nat} (hx : Sim k x x') (hy : Sim k y y') : Sim k (fop op k x y) (fop op k x' y') := by
  rcases hx with rfl | ⟨h1, h2⟩
  · rcases hy with rfl | ⟨h1, h2⟩
    · exact .inl rfl
    · exact .inr ⟨fop_nan hop (.inr h1), fop_nan hop (.inr h2)⟩
  · exact .inr ⟨fop_nan hop (.inl h1), fop_nan hop (.inl h2)⟩
theorem fop_some {op : BinOp} {k : FloatKind} {x y r : Nat} (h : floatBits op k x y = some r) : fop op k x y = r := by unfold fop; rw [h]; rfl
theorem drewN_one (w : World) : w.drewN 1 = w.drew := rfl
/-- an operation comes to what it gives, but for a NaN's bits, after some draws -/
theorem run_fop {P : Program} (w : World) {op : BinOp} (hop : IsArith op) (t : TypeId) (k : FloatKind) (x y : Nat) :
    ∃ r m, (binOp op t (.float k x) (.float k y)).run P w = .ok (.float k r) (w.drewN m) ∧ Sim k r (fop op k x y) := by
  cases h : floatBits op k x y with
  | some r => exact ⟨r, 0, run_float_arith w op t k x y r h, .inl (fop_some h).symm⟩
  | none =>
    obtain ⟨r, hr, hn⟩ := run_arith_none (P := P) w t k x y hop h
    exact ⟨r, 1, hr, .inr ⟨hn, by unfold fop; rw [h]; exact qnan_nan k⟩⟩
theorem wp_fop {P : Program} {o : Oper} {a : Act} {w : World} {K : Act → World → Prop} {Q : Exit → Act → World → Prop} (op : BinOp) (t : TypeId) (x y : Operand) (ty : TypeId) (ho : o.op = .binOp op t x y ty) (hop : IsArith op)
    (k : FloatKind) (u v : Nat) (hx : a.eval x = .float k u) (hy : a.eval y = .float k v) (h : ∀ r m, Sim k r (fop op k u v) → K (a.put o.dst (.float k r)) (w.drewN m)) : o.wp P a w K Q := by
  obtain ⟨r, m, hr, hs⟩ := run_fop (P := P) w hop t k u v
  unfold Oper.wp execOp
  have he : ∀ W, (eqGuard op t x y (.float k u) (.float k v)).run P W = .ok () W := by
    intro W
    rcases hop with rfl | rfl | rfl | rfl <;> rfl
  simp only [ho, hx, hy, Sem.run_bind, Sem.run_pure, Result.andThen_ok, he, hr]
  exact h r m hs
theorem wpList_fop {P : Program} {ops : Array Oper} {rest : List Oper} {o : Oper} {a : Act} {w : World} {Q : Exit → Act → World → Prop} (hgd : o.guard = none) (op : BinOp) (t : TypeId) (x y : Operand) (ty : TypeId) (ho : o.op = .binOp op t x y ty) (hop : IsArith op)
    (k : FloatKind) (u v : Nat) (hx : a.eval x = .float k u) (hy : a.eval y = .float k v) (h : ∀ r m, Sim k r (fop op k u v) → wpList P ops Q rest (a.put o.dst (.float k r)) (w.drewN m)) : wpList P ops Q (o :: rest) a w :=
  wpList_plain hgd fun _ hK => wp_fop op t x y ty ho hop k u v hx hy fun r m hs => hK _ _ (h r m hs)
/-- a float32 as a float64; some NaN for one -/
def wid (x : Nat) : Nat := (floatToFloatBits .f32 x .f64).getD (qnan .f64)
theorem wid_num {x : Nat} (h : nanF .f32 x = false) : floatToFloatBits .f32 x .f64 = some (wid x) ∧ nanF .f64 (wid x) = false := by
  obtain ⟨r, hr, hn⟩ := widen x h
  unfold wid
  rw [hr]
  exact ⟨rfl, hn⟩
theorem wid_nan {x : Nat} (h : nanF .f32 x = true) : nanF .f64 (wid x) = true := by
  obtain ⟨s, t, hd⟩ := read_nan h
  have : floatToFloatBits .f32 x .f64 = none := by
    unfold floatToFloatBits
    rw [if_neg (by decide), show FloatKind.f32.decode x = .nan s t from hd]
  unfold wid
  rw [this]
  exact qnan_nan .f64
theorem wid_sim {x y : Nat} (h : Sim .f32 x y) : Sim .f64 (wid x) (wid y) := by
  rcases h with rfl | ⟨h1, h2⟩
  · exact .inl rfl
  · exact .inr ⟨wid_nan h1, wid_nan h2⟩
theorem run_wid {P : Program} (w : World) (src dst : TypeId) (hs : (P.underlying src).isSome = true) (hd : P.underlying dst = some (.float .f64)) (x : Nat) :
    ∃ r m, (convert src dst (.float .f32 x)).run P w = .ok (.float .f64 r) (w.drewN m) ∧ Sim .f64 r (wid x) := by
  cases h : nanF .f32 x
  · obtain ⟨h1, h2⟩ := wid_num h
    exact ⟨wid x, 0, run_convert_float_float w src dst .f32 .f64 x _ hs hd h1, .inl rfl⟩
  · obtain ⟨r, hr, hn⟩ := run_conv_nan (P := P) w src dst .f32 .f64 x hs hd (by decide) h
    exact ⟨r, 1, hr, .inr ⟨hn, wid_nan h⟩⟩
/-- a float64 that is a NaN or not too great for a float32 -/
def Nar (x : Nat) : Prop := nanF .f64 x = true ∨ ∃ r, floatToFloatBits .f64 x .f32 = some r
/-- a float64 as a float32; some NaN for one -/
def nar (x : Nat) : Nat := (floatToFloatBits .f64 x .f32).getD (qnan .f32)
theorem nar_nan {x : Nat} (h : nanF .f64 x = true) : nanF .f32 (nar x) = true := by
  obtain ⟨s, t, hd⟩ := read_nan h
  have : floatToFloatBits .f64 x .f32 = none := by
    unfold floatToFloatBits
    rw [if_neg (by decide), show FloatKind.f64.decode x = .nan s t from hd]
  unfold nar
  rw [this]
  exact qnan_nan .f32
theorem nar_sim {x y : Nat} (h : Sim .f64 x y) : Sim .f32 (nar x) (nar y) := by
  rcases h with rfl | ⟨h1, h2⟩
  · exact .inl rfl
  · exact .inr ⟨nar_nan h1, nar_nan h2⟩
theorem Nar.sim {x y : Nat} (hn : Nar y) (h : Sim .f64 x y) : Nar x := by
  rcases h with rfl | ⟨h1, _⟩
  · exact hn
  · exact .inl h1
theorem run_nar {P : Program} (w : World) (src dst : TypeId) (hs : (P.underlying src).isSome = true) (hd : P.underlying dst = some (.float .f32)) (x : Nat) (hn : Nar x) :
    ∃ r m, (convert src dst (.float .f64 x)).run P w = .ok (.float .f32 r) (w.drewN m) ∧ Sim .f32 r (nar x) := by
  cases h : nanF .f64 x
  · rcases hn with hn | ⟨r, hr⟩
    · rw [h] at hn; cases hn
    · exact ⟨r, 0, run_convert_float_float w src dst .f64 .f32 x _ hs hd hr, .inl (by unfold nar; rw [hr]; rfl)⟩
  · obtain ⟨r, hr, hn⟩ := run_conv_nan (P := P) w src dst .f64 .f32 x hs hd (by decide) h
    exact ⟨r, 1, hr, .inr ⟨hn, nar_nan h⟩⟩
theorem wpList_conv {P : Program} {ops : Array Oper} {rest : List Oper} {o : Oper} {a : Act} {w : World} {Q : Exit → Act → World → Prop} (hgd : o.guard = none) (src dst : TypeId) (x : Operand) (ho : o.op = .convert src dst x)
    (s k : FloatKind) (u c : Nat) (hx : a.eval x = .float s u) (hr : ∃ r m, (convert src dst (.float s u)).run P w = .ok (.float k r) (w.drewN m) ∧ Sim k r c)
    (h : ∀ r m, Sim k r c → wpList P ops Q rest (a.put o.dst (.float k r)) (w.drewN m)) : wpList P ops Q (o :: rest) a w := by
  obtain ⟨r, m, hr, hs⟩ := hr
  refine wpList_plain hgd fun K hK => ?_
  unfold Oper.wp execOp
  simp only [ho, hx, Sem.run_bind, Sem.run_pure, Result.andThen_ok, hr]
  exact hK _ _ (h r m hs)
/-- the same, the world behind a name -/
theorem wpList_fopW {P : Program} {ops : Array Oper} {rest : List Oper} {o : Oper} {a : Act} {w : World} {Q : Exit → Act → World → Prop} (hgd : o.guard = none) (op : BinOp) (t : TypeId) (x y : Operand) (ty : TypeId) (ho : o.op = .binOp op t x y ty) (hop : IsArith op)
    (k : FloatKind) (u v : Nat) (hx : a.eval x = .float k u) (hy : a.eval y = .float k v) (h : ∀ r w', Sim k r (fop op k u v) → (∃ m, w' = w.drewN m) → wpList P ops Q rest (a.put o.dst (.float k r)) w') : wpList P ops Q (o :: rest) a w :=
  wpList_fop hgd op t x y ty ho hop k u v hx hy fun r m hs => h r _ hs ⟨m, rfl⟩
theorem own_drw {w w' : World} {base : Nat} {e : TypeId} {size : Nat} {v : Value} {n : Nat} {xs : List Value} (h : w.ownsRow base e size v n xs) (hq : ∃ m, w' = w.drewN m) : w'.ownsRow base e size v n xs := by
  obtain ⟨m, rfl⟩ := hq
  exact h
theorem below_drw {B : Nat} {a w w' : World} (h : Below B a w) (hq : ∃ m, w' = w.drewN m) : Below B a w' := by
  obtain ⟨m, rfl⟩ := hq
  exact below_drewN h m
theorem size_drw {w w' : World} (hq : ∃ m, w' = w.drewN m) : w'.heap.size = w.heap.size := by
  obtain ⟨m, rfl⟩ := hq
  rfl
theorem rd_drw {w w' : World} {B : Nat} {A : Option Addr} {xs : List Value} (h : Rd w B A xs) (hq : ∃ m, w' = w.drewN m) : Rd w' B A xs := by
  obtain ⟨m, rfl⟩ := hq
  exact h
/-- a row of floats that grows by one -/
theorem own_appF {w : World} {B : Nat} {t : TypeId} {v : Value} {acc : List Nat} {x : Nat} (h : w.ownsRow B t 1 v (acc.length + 1) (acc.map (Value.float .f32) ++ [.float .f32 x])) :
    w.ownsRow B t 1 v (acc ++ [x]).length ((acc ++ [x]).map (Value.float .f32)) := by
  simpa using h
theorem own_nilF (w : World) (t : TypeId) (B : Nat) (hB : B ≤ w.heap.size) : (w.alloc (.cells #[] t)).ownsRow B t 1 (.slice (some ⟨w.heap.size, 0, none⟩) 0 0) 0 [] :=
  World.ownsRow_made w #[] 0 hB (Nat.zero_le _) rfl
theorem newOne (w : World) (a : Value) (t : TypeId) : ∀ j u, [a][j]? = some u → (w.alloc (.cells #[a] t)).cell? ((⟨w.heap.size, 0, none⟩ : Addr).add j) = some u := by
  intro j u hu
  rcases j with _ | j
  · simp at hu; subst hu
    show (w.alloc (.cells #[a] t)).cell? ⟨w.heap.size, 0, none⟩ = some a
    simp
  · simp at hu
theorem oneF (k : FloatKind) (x : Nat) : ∀ u ∈ [Value.float k x], u.oneCell' = true := by
  intro u hu
  simp at hu
  subst hu
  rfl
theorem shapeOf {w : World} {B : Nat} {e : TypeId} {v : Value} {n : Nat} {xs : List Value} (h : w.ownsRow B e 1 v n xs) : ∃ A c, v = .slice A n c ∧ Rd w w.heap.size A xs := by
  have h0 := h
  rcases h.2 with ⟨rfl, rfl⟩ | ⟨g, cap, cur, rfl, _⟩
  · exact ⟨none, 0, rfl, Rd.own h0⟩
  · exact ⟨_, cap, rfl, Rd.own h0⟩
/-- two slices lie in two blocks -/
def Two (v u : Value) : Prop := ∃ p q, v.ownBlock = some p ∧ u.ownBlock = some q ∧ p ≠ q
theorem Two.kept {v u : Value} (h : Two v u) : u.ownBlock = none ∨ u.ownBlock ≠ v.ownBlock := by
  obtain ⟨p, q, h1, h2, hne⟩ := h
  right
  rw [h1, h2]
  intro he
  injection he with he
  exact hne he.symm
theorem Two.symm {v u : Value} (h : Two v u) : Two u v := by
  obtain ⟨p, q, h1, h2, hne⟩ := h
  exact ⟨q, p, h2, h1, fun h => hne h.symm⟩
theorem Two.grow {v v' u : Value} {S : Nat} (h : Two v u) (hat : v'.ownBlock = v.ownBlock ∨ v'.ownBlock = some S) (hu : ∀ q, u.ownBlock = some q → q < S) : Two v' u := by
  obtain ⟨p, q, h1, h2, hne⟩ := h
  rcases hat with h3 | h3
  · exact ⟨p, q, by rw [h3, h1], h2, hne⟩
  · exact ⟨S, q, h3, h2, by have := hu q h2; omega⟩
end Go.Proofs.Ytikleaiflmoffaa

-- The small functions of the field laws: bounds, copies of a list of bools, their comparison.
namespace Go.Proofs.Ytikleaiflmoffaa
open Go.RowKit

/-- low to high -/
def inB (n lo hi : Int) : Bool := decide (lo ≤ n ∧ n ≤ hi)
theorem inB_t {n lo hi : Int} (h1 : lo ≤ n) (h2 : n ≤ hi) : inB n lo hi = true := by simp [inB, h1, h2]
theorem inB_f {n lo hi : Int} (h : ¬ (lo ≤ n ∧ n ≤ hi)) : inB n lo hi = false := by simp only [inB, decide_eq_false_iff_not]; exact h

end Go.Proofs.Ytikleaiflmoffaa

-- slices.IndexFunc and slices.ContainsFunc of ints and of floats, for whatever predicate that turns nothing.
namespace Go.Proofs.Ytikleaiflmoffaa
open Go.RowKit
theorem any_step {α : Type} {xs : List α} {p : α → Bool} {k : Nat} (hk : k < xs.length) (h : (xs.take k).any p = false) (hx : p xs[k] = false) : (xs.take (k + 1)).any p = false := by
  rw [List.take_succ_eq_append_getElem hk, List.any_append, h]
  simp [hx]
theorem any_found {α : Type} {xs : List α} {p : α → Bool} {k : Nat} (hk : k < xs.length) (hx : p xs[k] = true) : xs.any p = true :=
  List.any_eq_true.2 ⟨_, List.getElem_mem hk, hx⟩
theorem any_none {α : Type} {xs : List α} {p : α → Bool} {k : Nat} (hk : xs.length ≤ k) (h : (xs.take k).any p = false) : xs.any p = false := by
  rwa [List.take_of_length_le hk] at h
/-- e is a place, or -1 if there is none -/
def FoundI (b : Bool) (e : Ending) : Prop := ∃ r : Int, e = .returned (.int .i64 r) ∧ decide (0 ≤ r) = b

end Go.Proofs.Ytikleaiflmoffaa

-- Small laws on worlds and rows.
namespace Go.Proofs.Ytikleaiflmoffaa
open Go.RowKit
theorem World.grownBy.trans' {a b c : World} {r : Option Nat} (h : a.grownBy b r) (k : b.grownBy c r) : a.grownBy c r :=
  ⟨k.os.trans h.os, k.tape.trans h.tape, k.output.trans h.output, Nat.le_trans h.size k.size, fun i hi hne => (k.block i (Nat.lt_of_lt_of_le hi h.size) hne).trans (h.block i hi hne)⟩

/-- A round of filling: place j gets f j. -/
theorem fillF_step (f : Nat → Value) (xs : List Value) (j : Nat) (hj : j < xs.length) :
    ((List.range j).map f ++ xs.drop j).set j (f j) = (List.range (j + 1)).map f ++ xs.drop (j + 1) := by
  have e1 : ((List.range j).map f).length = j := by simp
  have e2 : xs.drop j = xs[j] :: xs.drop (j + 1) := by rw [List.drop_eq_getElem_cons hj]
  rw [List.set_append_right _ _ (by omega), e1, Nat.sub_self, e2, List.set_cons_zero, List.range_succ, List.map_append]
  simp

end Go.Proofs.Ytikleaiflmoffaa

-- Lists of floats: which are finite, their copies, their comparison with themselves, the marks.
namespace Go.Proofs.Ytikleaiflmoffaa
open Go.RowKit
/-- what is taken from itself is nought -/
def finB (x : Nat) : Bool := match floatBits .sub .f32 x x with | some r => FloatKind.f32.format.order r 0 == some .eq | none => false
theorem finB_some {x r : Nat} (h : floatBits .sub .f32 x x = some r) : finB x = (FloatKind.f32.format.order r 0 == some .eq) := by simp [finB, h]
theorem finB_none {x : Nat} (h : floatBits .sub .f32 x x = none) : finB x = false := by simp [finB, h]

set_option maxHeartbeats 1000000 in
theorem isFinite_any (x : Nat) (w : World) : Calls Try.prog 21 #[.float .f32 x] w fun e w' => e = .returned (.bool (finB x)) ∧ ∃ m, w' = w.drewN m := by
  cases h : floatBits .sub .f32 x x with
  | some r =>
    have HX := Lib.hid (finB_some h)
    have hs : ∀ t w, (binOp .sub t (.float .f32 x) (.float .f32 x)).run Try.prog w = .ok (.float .f32 r) w := fun t w => run_float_arith w .sub t .f32 x x r h
    clear h
    go_enter Try.func21, Try.ntmps21
    go_wp2
    go_ret
    exact ⟨ret_bool HX.out.symm, 0, rfl⟩
  | none =>
    have HX := Lib.hid (finB_none h)
    obtain ⟨r, hr, hnan⟩ := run_arith_none (P := Try.prog) w 27 .f32 x x (.inr (.inl rfl)) h
    have ho := (order_nan hnan 0).1
    clear h hnan
    go_enter Try.func21, Try.ntmps21
    go_wp2
    go_ret
    exact ⟨ret_bool HX.out.symm, 1, rfl⟩

/-- all are finite -/
def finL (xs : List Nat) : Bool := !xs.any fun x => !finB x
theorem Try.info27 : (Try.prog.info? 27).map (fun i => (i.zero, i.size, i.bytes)) = some (some (.float .f32 0), 1, 4) := by kernel_rfl

/-- the mark of place i, from k on -/
def mkF (k : Nat) (i : Nat) : Value := .float .f32 (floatOfInt .f32 ((k : Int) + (i : Int)))
end Go.Proofs.Ytikleaiflmoffaa

-- Numbers that are finite, and sums and means of floats: the small functions of the float laws.
namespace Go.Proofs.Ytikleaiflmoffaa
open Ieee Go.RowKit
theorem finB_nan {x : Nat} (h : nanF .f32 x = true) : finB x = false := finB_none (fb_nan arith_sub (.inl h))
theorem finB_sim {x y : Nat} (h : Sim .f32 x y) : finB x = finB y := by
  rcases h with rfl | ⟨h1, h2⟩
  · rfl
  · rw [finB_nan h1, finB_nan h2]
theorem fin_num {x : Nat} (h : finB x = true) : nanF .f32 x = false := by
  cases hn : nanF .f32 x
  · rfl
  · rw [finB_nan hn] at h; cases h
/-- a number, if it is finite -/
def numV (x : Nat) : Nat := if finB x = true then x else 0
theorem numV_sim {x y : Nat} (h : Sim .f32 x y) : numV x = numV y := by
  unfold numV
  cases hb : finB y
  · rw [finB_sim h, hb]; rfl
  · rw [finB_sim h, hb, h.eq (fin_num hb)]
theorem num_zero : nanF .f32 0 = false := by decide
theorem numV_num (x : Nat) : nanF .f32 (numV x) = false := by
  unfold numV
  split
  · rename_i h; exact fin_num h
  · exact num_zero
set_option maxHeartbeats 400000 in
theorem ifNumber_any (x c : Nat) (w : World) (h : Sim .f32 x c) : Calls Try.prog 23 #[.float .f32 x] w fun e w' => e = .returned (.tuple #[.float .f32 (numV c), .bool (finB c)]) ∧ ∃ m, w' = w.drewN m := by
  have HN := Lib.hid (numV_sim h)
  have c63 := isFinite_any x w
  rw [finB_sim h] at c63
  cases hb : finB c
  · rw [hb] at c63
    have HV : Hid (numV c = 0) := Lib.hid (by unfold numV; rw [hb]; rfl)
    have HC := Lib.hid c63
    clear c63 hb h
    go_enter Try.func23, Try.ntmps23
    go_wp2_with fail
    refine HC.out.mono ?_
    rintro e w' ⟨rfl, m, rfl⟩
    go_wp2
    go_ret2
    exact ⟨by rw [HV.out]; rfl, m, rfl⟩
  · rw [hb] at c63
    have HV : Hid (numV c = x) := Lib.hid (by unfold numV; rw [hb, h.eq (fin_num hb)]; rfl)
    have HC := Lib.hid c63
    clear c63 hb h
    go_enter Try.func23, Try.ntmps23
    go_wp2_with fail
    refine HC.out.mono ?_
    rintro e w' ⟨rfl, m, rfl⟩
    go_wp2
    go_ret2
    exact ⟨by rw [HV.out]; rfl, m, rfl⟩
/-- the sum from the left -/
def sumF (xs : List Nat) : Nat := xs.foldl (fop .add .f32) 0
theorem sumF_snoc (xs : List Nat) (x : Nat) : sumF (xs ++ [x]) = fop .add .f32 (sumF xs) x := by unfold sumF; rw [List.foldl_append]; rfl
theorem sumF_take {xs : List Nat} {k : Nat} (h : k < xs.length) : sumF (xs.take (k + 1)) = fop .add .f32 (sumF (xs.take k)) xs[k] := by
  rw [List.take_succ_eq_append_getElem h, sumF_snoc]
/-- two lists of floats, the same but for NaNs' bits -/
def SimL (xs ys : List Nat) : Prop := xs.length = ys.length ∧ ∀ (i x y : Nat), xs[i]? = some x → ys[i]? = some y → Sim .f32 x y
theorem SimL.snoc {xs ys : List Nat} {x y : Nat} (h : SimL xs ys) (hx : Sim .f32 x y) : SimL (xs ++ [x]) (ys ++ [y]) := by
  refine ⟨by simp [h.1], fun i a b ha hb => ?_⟩
  rw [List.getElem?_append] at ha hb
  by_cases hi : i < xs.length
  · rw [if_pos hi] at ha
    rw [if_pos (by rw [← h.1]; exact hi)] at hb
    exact h.2 i a b ha hb
  · rw [if_neg hi] at ha
    rw [if_neg (by rw [← h.1]; exact hi)] at hb
    have := (List.getElem?_eq_some_iff.1 ha).1
    have h0 : i - xs.length = 0 := by simp at this; omega
    rw [h0] at ha
    rw [← h.1, h0] at hb
    simp at ha hb
    subst ha hb
    exact hx
theorem SimL.refl (xs : List Nat) : SimL xs xs := ⟨rfl, fun i x y hx hy => by rw [hx] at hy; cases hy; exact .refl _ _⟩
theorem sumF_sim : ∀ {xs ys : List Nat}, SimL xs ys → Sim .f32 (sumF xs) (sumF ys) := by
  suffices h : ∀ (xs ys : List Nat) (a b : Nat), SimL xs ys → Sim .f32 a b → Sim .f32 (xs.foldl (fop .add .f32) a) (ys.foldl (fop .add .f32) b) from fun {xs ys} h' => h xs ys 0 0 h' (.refl _ _)
  intro xs
  induction xs with
  | nil =>
    intro ys a b h hab
    obtain rfl : ys = [] := List.eq_nil_of_length_eq_zero h.1.symm
    exact hab
  | cons x r ih =>
    intro ys a b h hab
    rcases ys with _ | ⟨y, s⟩
    · have := h.1; simp at this
    · rw [List.foldl_cons, List.foldl_cons]
      refine ih s _ _ ⟨by simpa using h.1, fun i u v hu hv => h.2 (i + 1) u v (by simpa using hu) (by simpa using hv)⟩ ?_
      exact fop_sim arith_add hab (h.2 0 x y rfl rfl)
/-- the mean -/
def meanF (xs : List Nat) : Nat := fop .quo .f32 (sumF xs) (floatOfInt .f32 (xs.length : Int))
end Go.Proofs.Ytikleaiflmoffaa

-- How great floating point results are: sums, products, quotients; halves and doubles of normal numbers.
namespace Go.Proofs.Ytikleaiflmoffaa
open Ieee
theorem lt_pow {m : Nat} : m < 2 ^ (m.log2 + 1) := Nat.lt_log2_self
theorem pow_le {m : Nat} (h : m ≠ 0) : 2 ^ m.log2 ≤ m := Nat.log2_self_le h
theorem signed_abs (s : Bool) (m u : Nat) : (signed s m u).natAbs = m * 2 ^ u := by
  unfold signed
  rw [Nat.shiftLeft_eq]
  cases s <;> simp [Int.natAbs_mul, Int.natAbs_pow]
/-- a number below 2 ^ (E + 1), told at a place below -/
theorem fits_at {m : Nat} {p E base : Int} (h : m = 0 ∨ p + m.log2 ≤ E) (hb : base ≤ p) (hE : base ≤ E + 1) : m * 2 ^ (p - base).toNat < 2 ^ (E + 1 - base).toNat ∨ m = 0 := by
  by_cases h0 : m = 0
  · exact .inr h0
  · left
    have h1 := h.resolve_left h0
    have h2 : m * 2 ^ (p - base).toNat < 2 ^ (m.log2 + 1) * 2 ^ (p - base).toNat := Nat.mul_lt_mul_of_pos_right lt_pow (Nat.two_pow_pos _)
    rw [← Nat.pow_add] at h2
    exact Nat.lt_of_lt_of_le h2 (Nat.pow_le_pow_right (by omega) (by omega))
theorem fits_opp {d : Datum} {E : Int} (h : Fits d E) : Fits d.opposite E := by
  obtain ⟨s, m, p, rfl, h⟩ := h
  exact ⟨!s, m, p, rfl, h⟩
theorem fits_sum {d d' : Datum} {E : Int} (h : Fits d E) (h' : Fits d' E) : ∃ r, d.sum d' = some r ∧ Fits r (E + 1) := by
  obtain ⟨s, m, i, rfl, h⟩ := h
  obtain ⟨t, n, j, rfl, h'⟩ := h'
  refine ⟨_, rfl, _, _, _, rfl, ?_⟩
  by_cases ht : (signed s m (i - min i j).toNat + signed t n (j - min i j).toNat).natAbs = 0
  · exact .inl ht
  · right
    have ha := Int.natAbs_add_le (signed s m (i - min i j).toNat) (signed t n (j - min i j).toNat)
    rw [signed_abs, signed_abs] at ha
    have hne : m ≠ 0 ∨ n ≠ 0 := by
      by_cases h1 : m = 0
      · right
        intro h2
        subst h1 h2
        simp at ha
        exact ht (by simpa using ha)
      · exact .inl h1
    have hbE : min i j ≤ E + 1 ∨ True := .inr trivial
    have hlog : (signed s m (i - min i j).toNat + signed t n (j - min i j).toNat).natAbs.log2 < (E + 2 - min i j).toNat := by
      rw [Nat.log2_lt ht]
      by_cases h1 : m = 0
      · subst h1
        have hn : n ≠ 0 := hne.resolve_left (fun h => h rfl)
        have h3 := h'.resolve_left hn
        by_cases hb : min i j ≤ E + 1
        · rcases fits_at (base := min i j) h' (Int.min_le_right _ _) hb with h4 | h4
          · have : 2 ^ (E + 1 - min i j).toNat ≤ 2 ^ (E + 2 - min i j).toNat := Nat.pow_le_pow_right (by omega) (by omega)
            omega
          · exact absurd h4 hn
        · have := Int.min_le_right i j
          omega
      · have h3 := h.resolve_left h1
        have hb : min i j ≤ E + 1 := by have := Int.min_le_left i j; omega
        have h4 := (fits_at (base := min i j) h (Int.min_le_left _ _) hb).resolve_right h1
        have h5 : n * 2 ^ (j - min i j).toNat < 2 ^ (E + 1 - min i j).toNat := by
          rcases fits_at (base := min i j) h' (Int.min_le_right _ _) hb with h6 | h6
          · exact h6
          · rw [h6, Nat.zero_mul]; exact Nat.two_pow_pos _
        have h7 : 2 ^ (E + 2 - min i j).toNat = 2 * 2 ^ (E + 1 - min i j).toNat := by
          rw [show (E + 2 - min i j).toNat = (E + 1 - min i j).toNat + 1 from by omega, Nat.pow_succ, Nat.mul_comm]
        omega
    omega
theorem fits_prod {d d' : Datum} {E E' : Int} (h : Fits d E) (h' : Fits d' E') : ∃ r, d.product d' = some r ∧ Fits r (E + E' + 1) := by
  obtain ⟨s, m, i, rfl, h⟩ := h
  obtain ⟨t, n, j, rfl, h'⟩ := h'
  refine ⟨_, rfl, _, _, _, rfl, ?_⟩
  by_cases hm : m = 0
  · left; rw [hm, Nat.zero_mul]
  · by_cases hn : n = 0
    · left; rw [hn, Nat.mul_zero]
    · right
      have h1 := h.resolve_left hm
      have h2 := h'.resolve_left hn
      have h3 : (m * n).log2 < m.log2 + 1 + (n.log2 + 1) := by
        rw [Nat.log2_lt (Nat.mul_ne_zero hm hn), Nat.pow_add]
        exact Nat.mul_lt_mul_of_lt_of_lt lt_pow lt_pow
      omega
theorem fits_quot {d : Datum} {E : Int} (g : Nat) (h : Fits d E) {t : Bool} {n : Nat} {j L : Int} (hn : n ≠ 0) (hL : L ≤ j + n.log2) : ∃ r, d.quotient g (.number t n j) = some r ∧ Fits r (E - L) := by
  obtain ⟨s, m, i, rfl, h⟩ := h
  refine ⟨_, by unfold Datum.quotient; dsimp only; rw [if_neg hn], _, _, _, rfl, ?_⟩
  by_cases hm : m = 0
  · left; subst hm; simp [Nat.shiftLeft_eq]
  · right
    have h1 := h.resolve_left hm
    obtain ⟨more, hmore⟩ : ∃ more, more = g + n.log2 - m.log2 := ⟨_, rfl⟩
    rw [← hmore, Nat.shiftLeft_eq]
    have hq : m * 2 ^ more / n < 2 ^ (m.log2 + 1 + more - n.log2) := by
      rw [Nat.div_lt_iff_lt_mul (Nat.pos_of_ne_zero hn)]
      have h3 : m * 2 ^ more < 2 ^ (m.log2 + 1 + more) := by
        rw [Nat.pow_add]; exact Nat.mul_lt_mul_of_pos_right lt_pow (Nat.two_pow_pos _)
      have h4 : 2 ^ (m.log2 + 1 + more) = 2 ^ (m.log2 + 1 + more - n.log2) * 2 ^ n.log2 := by
        rw [← Nat.pow_add]; congr 1; omega
      have h5 : 2 ^ (m.log2 + 1 + more - n.log2) * 2 ^ n.log2 ≤ 2 ^ (m.log2 + 1 + more - n.log2) * n := Nat.mul_le_mul_left _ (pow_le hn)
      omega
    have hs : ∀ b : Bool, b.toNat ≤ 1 := fun b => by cases b <;> simp
    have h6 := hs (m * 2 ^ more % n != 0)
    by_cases h0 : 2 * (m * 2 ^ more / n) + (m * 2 ^ more % n != 0).toNat = 0
    · rw [h0]
      have : Nat.log2 0 = 0 := by decide
      rw [this]
      have h7 : m * 2 ^ more / n = 0 := by omega
      have h8 : m * 2 ^ more % n = 0 := by
        have : (m * 2 ^ more % n != 0).toNat = 0 := by omega
        simpa using this
      have h9 := Nat.div_add_mod (m * 2 ^ more) n
      rw [h7, h8] at h9
      have := Nat.mul_ne_zero hm (Nat.ne_of_gt (Nat.two_pow_pos more))
      omega
    · have h7 : (2 * (m * 2 ^ more / n) + (m * 2 ^ more % n != 0).toNat).log2 < m.log2 + 1 + more - n.log2 + 1 := by
        rw [Nat.log2_lt h0, Nat.pow_succ]
        omega
      omega
/-- what is told of an operation's result: it is one, and of this size at most -/
theorem fop_fits {op : BinOp} {k : FloatKind} {x y : Nat} {r : Datum} {E : Int} (h : floatBits op k x y = some (k.format.write r)) (hr : Fits r E) (hl : k.format.leastPlace + k.format.fractionBits ≤ E) (hE : E < topE k) : Fits (k.format.read (fop op k x y)) (E + 1) := by
  rw [fop_some h]
  exact fits_enc k hr hl hE
theorem add_fits {k : FloatKind} {x y : Nat} {E : Int} (hx : Fits (k.format.read x) E) (hy : Fits (k.format.read y) E) (hl : k.format.leastPlace + k.format.fractionBits ≤ E + 1) (hE : E + 1 < topE k) : Fits (k.format.read (fop .add k x y)) (E + 2) := by
  obtain ⟨r, hr, hf⟩ := fits_sum hx hy
  have := fop_fits (op := .add) (x := x) (y := y) (by unfold floatBits Format.add; dsimp only; rw [hr]; rfl) hf hl hE
  rwa [show E + 1 + 1 = E + 2 from by omega] at this
theorem sub_fits {k : FloatKind} {x y : Nat} {E : Int} (hx : Fits (k.format.read x) E) (hy : Fits (k.format.read y) E) (hl : k.format.leastPlace + k.format.fractionBits ≤ E + 1) (hE : E + 1 < topE k) : Fits (k.format.read (fop .sub k x y)) (E + 2) := by
  obtain ⟨r, hr, hf⟩ := fits_sum hx (fits_opp hy)
  have := fop_fits (op := .sub) (x := x) (y := y) (by unfold floatBits Format.sub; dsimp only; rw [hr]; rfl) hf hl hE
  rwa [show E + 1 + 1 = E + 2 from by omega] at this
theorem mul_fits {k : FloatKind} {x y : Nat} {E E' F : Int} (hx : Fits (k.format.read x) E) (hy : Fits (k.format.read y) E') (hF : E + E' + 1 ≤ F) (hl : k.format.leastPlace + k.format.fractionBits ≤ F) (hE : F < topE k) : Fits (k.format.read (fop .mul k x y)) (F + 1) := by
  obtain ⟨r, hr, hf⟩ := fits_prod hx hy
  exact fop_fits (op := .mul) (x := x) (y := y) (by unfold floatBits Format.mul; dsimp only; rw [hr]; rfl) (fits_mono hf hF) hl hE
theorem quo_fits {k : FloatKind} {x y : Nat} {E L F : Int} (hx : Fits (k.format.read x) E) {t : Bool} {n : Nat} {j : Int} (hy : k.format.read y = .number t n j) (hn : n ≠ 0) (hL : L ≤ j + n.log2) (hF : E - L ≤ F) (hl : k.format.leastPlace + k.format.fractionBits ≤ F) (hE : F < topE k) : Fits (k.format.read (fop .quo k x y)) (F + 1) := by
  obtain ⟨r, hr, hf⟩ := fits_quot (k.format.fractionBits + 2) hx (t := t) hn hL
  exact fop_fits (op := .quo) (x := x) (y := y) (by unfold floatBits Format.div; dsimp only; rw [hy, hr]; rfl) (fits_mono hf hF) hl hE
theorem fits_num {k : FloatKind} {x : Nat} {E : Int} (h : Fits (k.format.read x) E) : nanF k x = false := (fits_nan h).1
/-- the nearest number to one that is not too small is not smaller than a power of two -/
theorem nearest_low (f : Format) (neg : Bool) (mag : Nat) (place : Int) (h0 : mag ≠ 0) (hl : f.leastPlace + f.fractionBits ≤ place + mag.log2) (hE : ((place + mag.log2 - f.fractionBits - f.leastPlace).toNat + 2) * f.binade < f.infRung) :
    ∃ m p, f.read (f.nearest neg mag place) = .number neg m p ∧ m ≠ 0 ∧ place + mag.log2 ≤ p + m.log2 := by
  have hb := binade_pos f
  have hlast : max (place + mag.log2 - f.fractionBits) f.leastPlace = place + mag.log2 - f.fractionBits := by omega
  obtain ⟨last, hlst⟩ : ∃ last, last = place + mag.log2 - f.fractionBits := ⟨_, rfl⟩
  obtain ⟨kept, hk⟩ : ∃ kept, kept = Toward.even.cut neg (mag <<< (place - last).toNat) (last - place).toNat := ⟨_, rfl⟩
  have hup : kept ≤ 2 ^ (f.fractionBits + 1) := by rw [hk]; exact kept_le f.fractionBits neg mag place last h0 (by omega)
  have hlow : 2 ^ f.fractionBits ≤ kept := by
    rw [hk]
    unfold Toward.cut
    simp only [Nat.one_shiftLeft]
    refine Nat.le_trans ?_ (Nat.le_add_right _ _)
    rw [Nat.shiftLeft_eq]
    by_cases hle : last ≤ place
    · have e1 : (last - place).toNat = 0 := by omega
      rw [e1, Nat.zero_min, Nat.pow_zero, Nat.div_one]
      have h1 : 2 ^ mag.log2 * 2 ^ (place - last).toNat ≤ mag * 2 ^ (place - last).toNat := Nat.mul_le_mul_right _ (pow_le h0)
      rw [← Nat.pow_add] at h1
      refine Nat.le_trans (Nat.pow_le_pow_right (by omega) (by omega)) h1
    · have e1 : (place - last).toNat = 0 := by omega
      rw [e1, Nat.pow_zero, Nat.mul_one, Nat.min_eq_left (by omega), Nat.le_div_iff_mul_le (Nat.two_pow_pos _), ← Nat.pow_add]
      refine Nat.le_trans (Nat.pow_le_pow_right (by omega) (by omega)) (pow_le h0)
  have hn : f.nearest neg mag place = f.word neg (min ((last - f.leastPlace).toNat * f.binade + kept) f.infRung) := by
    unfold Format.nearest
    rw [if_neg h0]
    dsimp only
    rw [hlast, ← hlst, ← hk]
  have h2 : 2 ^ (f.fractionBits + 1) = 2 * f.binade := by unfold Format.binade; rw [Nat.pow_succ, Nat.mul_comm]
  rw [h2] at hup
  have hlow' : f.binade ≤ kept := hlow
  have hr : (last - f.leastPlace).toNat * f.binade + kept < f.infRung := by
    rw [← hlst, Nat.add_mul] at hE
    omega
  rw [hn, Nat.min_eq_left (by omega), read_word f neg (by have := f.infRung_lt; omega), if_neg (by omega), if_pos hr]
  by_cases hc : kept < 2 * f.binade
  · have hd : ((last - f.leastPlace).toNat * f.binade + kept) / f.binade = (last - f.leastPlace).toNat + 1 := by
      rw [Nat.mul_comm, Nat.mul_add_div hb]
      congr 1
      exact Nat.div_eq_of_lt_le (by omega) (by omega)
    have hm : ((last - f.leastPlace).toNat * f.binade + kept) % f.binade = kept - f.binade := by
      rw [Nat.mul_comm, Nat.mul_add_mod, Nat.mod_eq_sub_mod hlow', Nat.mod_eq_of_lt (by omega)]
    rw [hd, hm]
    refine ⟨_, _, rfl, by omega, ?_⟩
    have h3 : f.fractionBits ≤ (f.binade + (kept - f.binade)).log2 := by
      rw [Nat.le_log2 (by omega)]
      show f.binade ≤ _
      omega
    omega
  · have hk2 : kept = 2 * f.binade := by omega
    have hd : ((last - f.leastPlace).toNat * f.binade + kept) / f.binade = (last - f.leastPlace).toNat + 2 := by
      rw [hk2, ← Nat.add_mul, Nat.mul_div_cancel _ hb]
    have hm : ((last - f.leastPlace).toNat * f.binade + kept) % f.binade = 0 := by
      rw [hk2, ← Nat.add_mul, Nat.mul_mod_left]
    rw [hd, hm]
    refine ⟨_, _, rfl, by omega, ?_⟩
    have h3 : f.fractionBits ≤ (f.binade + 0).log2 := by
      rw [Nat.le_log2 (by omega)]
      show f.binade ≤ _
      omega
    omega
end Go.Proofs.Ytikleaiflmoffaa
