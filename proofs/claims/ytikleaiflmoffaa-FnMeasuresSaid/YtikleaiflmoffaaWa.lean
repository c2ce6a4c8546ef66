/- NoiseV, Held, Span, Growth, SpanV, WalkV, GrowV -/
import Derived.Test.YtikleaiflmoffaaRe
import Derived.Test.YtikleaiflmoffaaSr
import Derived.Test.YtikleaiflmoffaaBa
import Derived.Test.YtikleaiflmoffaaBo
import Derived.Maps.AppendAt
import Derived.Test.YtikleaiflmoffaaLo
import Derived.BigQuiet
-- The numbers of a noise walk: how great they are.
namespace Go.Proofs.Ytikleaiflmoffaa
open Ieee Go.RowKit
theorem t150 : tw (-150) ≤ 1 / 1000000000000 := by decide +kernel
theorem t24 : tw (-24) = 1 / 16777216 := by decide +kernel
theorem ulp32 (x : Rat) : ulp .f32 x = ab x * (1 / 16777216) + tw (-150) := by
  unfold ulp
  rw [fmt32.2.2.1, fmt32.2.2.2, show -(((23 : Nat) : Int) + 1) = -24 from rfl, show (-149 - 1 : Int) = -150 from rfl, t24]
theorem t1075 : tw (-1075) ≤ 1 / 1000000000000 := by decide +kernel
theorem t53 : tw (-53) ≤ 1 / 1000000000000000 := by decide +kernel
theorem ulp64 (x : Rat) : ulp .f64 x ≤ ab x * (1 / 1000000000000000) + 1 / 1000000000000 := by
  unfold ulp
  rw [fmt64.2.2.1, fmt64.2.2.2, show -(((52 : Nat) : Int) + 1) = -53 from rfl, show (-1074 - 1 : Int) = -1075 from rfl]
  have h1 := mul_up' t53 (ab_nonneg x)
  have h2 := t1075
  grind
theorem big100 : (100000000000000000000 : Rat) < tw 100 := by decide +kernel
theorem big90 : (100000000000000000000 : Rat) < tw 90 := by decide +kernel
/-- x is between -b and b -/
def In (x b : Rat) : Prop := -b ≤ x ∧ x ≤ b
theorem In.ab {x b : Rat} (h : In x b) : ab x ≤ b := by unfold In at h; exact ab_le h.2 (by grind)
theorem ab_in (x : Rat) : In x (ab x) := by have h1 := le_ab x; have h2 := neg_le_ab x; unfold In; grind
theorem in_of {x b : Rat} (h : ab x ≤ b) : In x b := by have h1 := le_ab x; have h2 := neg_le_ab x; unfold In; grind
/-- a result of a float32 operation whose exact value is not too great -/
structure Got (op : BinOp) (x y : Nat) (v b : Rat) : Prop where
  some : floatBits op .f32 x y = some (fop op .f32 x y)
  num : Is .f32 (fop op .f32 x y)
  lo : v - (b / 16777216 + 1 / 1000000000000) ≤ vl .f32 (fop op .f32 x y)
  hi : vl .f32 (fop op .f32 x y) ≤ v + (b / 16777216 + 1 / 1000000000000)
  nn : 0 ≤ v → 0 ≤ vl .f32 (fop op .f32 x y)
theorem got_of {op : BinOp} {x y : Nat} {v b : Rat} (h : Op .f32 op x y v (ulp .f32 v)) (hb : In v b) : Got op x y v b := by
  obtain ⟨h1, h2⟩ := h.near
  have h3 := hb.ab
  have h4 := t150
  rw [ulp32] at h1 h2
  exact ⟨h.some, h.num, by grind, by grind, h.nn⟩
theorem in_lt {v b : Rat} (hb : In v b) (h : b ≤ 100000000000000000000) : ab v < tw 100 := by
  have h1 := hb.ab
  have h2 := big100
  grind
theorem add_g {x y : Nat} {b : Rat} (hx : Is .f32 x) (hy : Is .f32 y) (hb : In (vl .f32 x + vl .f32 y) b) (h : b ≤ 100000000000000000000) : Got .add x y (vl .f32 x + vl .f32 y) b := got_of (add_v hx hy (in_lt hb h)) hb
theorem sub_g {x y : Nat} {b : Rat} (hx : Is .f32 x) (hy : Is .f32 y) (hb : In (vl .f32 x - vl .f32 y) b) (h : b ≤ 100000000000000000000) : Got .sub x y (vl .f32 x - vl .f32 y) b := got_of (sub_v hx hy (in_lt hb h)) hb
theorem mul_g {x y : Nat} {b : Rat} (hx : Is .f32 x) (hy : Is .f32 y) (hb : In (vl .f32 x * vl .f32 y) b) (h : b ≤ 100000000000000000000) : Got .mul x y (vl .f32 x * vl .f32 y) b := got_of (mul_v hx hy (in_lt hb h)) hb
theorem quo_g {x y : Nat} {b : Rat} (hx : Is .f32 x) (hy : Is .f32 y) (h0 : vl .f32 y ≠ 0) (hb : In (vl .f32 x / vl .f32 y) b) (h : b ≤ 100000000000000000000) : Got .quo x y (vl .f32 x / vl .f32 y) (3 * b) := by
  have hq := quo_v hx hy h0 (by have h1 := hb.ab; have h2 := big90; grind)
  obtain ⟨h1, h2⟩ := hq.near
  have h3 := hb.ab
  have h4 : tw (-150) ≤ 1 / 10000000000000 := by decide +kernel
  rw [ulp32] at h1 h2
  exact ⟨hq.some, hq.num, by grind, by grind, hq.nn⟩
theorem ab_mul (x y : Rat) : ab (x * y) = ab x * ab y := by
  rcases Classical.em (x < 0) with hx | hx <;> rcases Classical.em (y < 0) with hy | hy
  · have := Rat.mul_pos (show 0 < -x by grind) (show 0 < -y by grind)
    unfold ab; rw [if_pos hx, if_pos hy, if_neg (by grind)]; grind
  · have := Rat.mul_nonneg (show 0 ≤ -x by grind) (show 0 ≤ y by grind)
    unfold ab; rw [if_pos hx, if_neg hy]; split <;> grind
  · have := Rat.mul_nonneg (show 0 ≤ x by grind) (show 0 ≤ -y by grind)
    unfold ab; rw [if_neg hx, if_pos hy]; split <;> grind
  · have := Rat.mul_nonneg (show 0 ≤ x by grind) (show 0 ≤ y by grind)
    unfold ab; rw [if_neg hx, if_neg hy, if_neg (by grind)]
theorem in_mul {x y a b : Rat} (hx : In x a) (hy : In y b) : In (x * y) (a * b) := by
  refine in_of ?_
  rw [ab_mul]
  have h1 := mul_up hx.ab (ab_nonneg y)
  have h2 := mul_up' hy.ab (show 0 ≤ a by have := hx.ab; have := ab_nonneg x; grind)
  grind
/-- what is drawn -/
theorem c14 : Is .f32 1182793728 ∧ vl .f32 1182793728 = 16384 := ⟨⟨_, _, _, rfl⟩, by decide +kernel⟩
theorem draw_v {s : Int} (h1 : 0 ≤ s) (h2 : s < 2147483648) : floatBits .quo .f32 (floatOfInt .f32 (drawZ s)) 1182793728 = some (drawF s) ∧ Is .f32 (drawF s) ∧ In (vl .f32 (drawF s)) (1000001 / 1000000) := by
  have z1 : -16384 ≤ drawZ s := by unfold drawZ; omega
  have z2 : drawZ s ≤ 16384 := by unfold drawZ; omega
  have r1 : ((-16384 : Int) : Rat) ≤ (drawZ s : Rat) := Rat.intCast_le_intCast.2 z1
  have r2 : (drawZ s : Rat) ≤ ((16384 : Int) : Rat) := Rat.intCast_le_intCast.2 z2
  rw [show ((-16384 : Int) : Rat) = -16384 from rfl] at r1
  rw [show ((16384 : Int) : Rat) = 16384 from rfl] at r2
  have hz : In (drawZ s : Rat) 16384 := ⟨r1, r2⟩
  obtain ⟨i1, i2, i3⟩ := int_v .f32 (in_lt hz (by decide +kernel))
  rw [ulp32] at i2 i3
  have h3 := hz.ab
  have h4 := t150
  obtain ⟨c1, c2⟩ := c14
  have hin : In (vl .f32 (floatOfInt .f32 (drawZ s)) / vl .f32 1182793728) (10000002 / 10000000) := by
    rw [c2]
    unfold In
    grind
  have g := quo_g i1 c1 (by rw [c2]; decide +kernel) hin (by decide +kernel)
  refine ⟨g.some, g.num, ?_⟩
  have a1 := g.lo
  have a2 := g.hi
  unfold In at hin ⊢
  unfold drawF
  grind
/-- a quarter from -1 to 1 -/
theorem keep_v {z : Int} (h1 : -4 ≤ z) (h2 : z ≤ 4) : Is .f32 (qF z) ∧ In (vl .f32 (qF z)) 1 ∧ (FloatKind.f32.format.order (qF z) 3212836864 == some .gt || FloatKind.f32.format.order (qF z) 3212836864 == some .eq) = true ∧ (FloatKind.f32.format.order (qF z) 1065353216 == some .lt || FloatKind.f32.format.order (qF z) 1065353216 == some .eq) = true := by
  have h := all_lt (p := fun j => finB (qF ((j : Int) - 4)) && (decide (-1 ≤ vl .f32 (qF ((j : Int) - 4))) && (decide (vl .f32 (qF ((j : Int) - 4)) ≤ 1) && ((FloatKind.f32.format.order (qF ((j : Int) - 4)) 3212836864 == some .gt || FloatKind.f32.format.order (qF ((j : Int) - 4)) 3212836864 == some .eq) && (FloatKind.f32.format.order (qF ((j : Int) - 4)) 1065353216 == some .lt || FloatKind.f32.format.order (qF ((j : Int) - 4)) 1065353216 == some .eq))))) (n := 9) (by decide +kernel) (j := (z + 4).toNat) (by omega)
  rw [show (((z + 4).toNat : Nat) : Int) - 4 = z from by omega] at h
  simp only [Bool.and_eq_true, decide_eq_true_eq] at h
  exact ⟨is_fin h.1, ⟨h.2.1, h.2.2.1⟩, h.2.2.2.1, h.2.2.2.2⟩
theorem zero_is : Is .f32 0 ∧ vl .f32 0 = 0 := ⟨⟨_, _, _, rfl⟩, by decide +kernel⟩
structure WalkV (keep : Nat) (seed : Int) (j : Nat) : Prop where
  vi : Is .f32 (nV keep seed j)
  vb : In (vl .f32 (nV keep seed j)) ((j : Rat) * (1001 / 1000))
  wi : Is .f32 (nW keep seed j)
  wb : In (vl .f32 (nW keep seed j)) ((j : Rat) * 23)
theorem succ_rat (j : Nat) : ((j + 1 : Nat) : Rat) = (j : Rat) + 1 := by rw [Rat.natCast_add]; rfl
theorem walk_step {keep : Nat} {seed : Int} (hk : Is .f32 keep) (hk1 : In (vl .f32 keep) 1) (h1 : 0 ≤ seed) (h2 : seed < 2147483648) {j : Nat} (hj : j < 22) (h : WalkV keep seed j) : NoiseAt keep seed j ∧ WalkV keep seed (j + 1) ∧
    In (vl .f32 (nW keep seed (j + 1)) - vl .f32 (nW keep seed j)) (2203 / 100) := by
  obtain ⟨s1, s2⟩ := nS_bd h1 h2 (j + 1)
  obtain ⟨d1, d2, d3⟩ := draw_v s1 s2
  have hj0 : (0 : Rat) ≤ (j : Rat) := Rat.natCast_le_natCast.2 (Nat.zero_le j)
  have hj1 : (j : Rat) ≤ 21 := Rat.natCast_le_natCast.2 (show j ≤ 21 by omega)
  have hm := in_mul hk1 h.vb
  have gm := mul_g hk h.vi hm (by grind)
  have m1 := gm.lo
  have m2 := gm.hi
  have hvb := h.vb
  have hwb := h.wb
  have ha : In (vl .f32 (fop .mul .f32 keep (nV keep seed j)) + vl .f32 (drawF (nS seed (j + 1)))) ((j : Rat) * (1001 / 1000) + 100001 / 100000) := by
    unfold In at hm d3 ⊢
    grind
  have ga := add_g gm.num d2 ha (by grind)
  have a1 := ga.lo
  have a2 := ga.hi
  have hv : In (vl .f32 (nV keep seed (j + 1))) (((j + 1 : Nat) : Rat) * (1001 / 1000)) := by
    rw [succ_rat]
    show In (vl .f32 (fop .add .f32 (fop .mul .f32 keep (nV keep seed j)) (drawF (nS seed (j + 1))))) _
    unfold In at ha ⊢
    grind
  have hs : In (vl .f32 (nW keep seed j) + vl .f32 (nV keep seed (j + 1))) ((j : Rat) * 23 + ((j : Rat) + 1) * (1001 / 1000)) := by
    rw [succ_rat] at hv
    unfold In at hv hwb ⊢
    grind
  have gi : Is .f32 (nV keep seed (j + 1)) := ga.num
  have gs := add_g h.wi gi hs (by grind)
  have b1 := gs.lo
  have b2 := gs.hi
  refine ⟨⟨d1, gm.some, ga.some, gs.some⟩, ⟨ga.num, hv, gs.num, ?_⟩, ?_⟩
  · rw [succ_rat]
    show In (vl .f32 (fop .add .f32 (nW keep seed j) (nV keep seed (j + 1)))) _
    rw [succ_rat] at hv
    unfold In at hs hv hwb ⊢
    grind
  · show In (vl .f32 (fop .add .f32 (nW keep seed j) (nV keep seed (j + 1))) - _) _
    rw [succ_rat] at hv
    unfold In at hs hv hwb ⊢
    grind
end Go.Proofs.Ytikleaiflmoffaa

-- Rows of a law's own, what a write into one leaves of the others, and the marks of floats read back.
namespace Go.Proofs.Ytikleaiflmoffaa
open Ieee Go.RowKit
/-- a row of the call's own that lies between two blocks -/
def RowIn (w : World) (el : TypeId) (lo hi : Nat) (A : Option Addr) (n c : Nat) (xs : List Value) : Prop :=
  w.ownsRow lo el 1 (.slice A n c) n xs ∧ ∀ k, (Value.slice A n c).ownBlock = some k → k < hi
section
variable {w w' : World} {el el' : TypeId} {lo hi lo' hi' B : Nat} {A A' : Option Addr} {n c n' c' : Nat} {xs xs' : List Value}
theorem RowIn.new (ho : w.ownsRow lo el 1 (.slice A n c) n xs) : RowIn w el lo w.heap.size A n c xs := ⟨ho, fun k hk => (ho.lt k hk).2⟩
theorem RowIn.below (h : RowIn w el lo hi A n c xs) (hb : Below B w w') (hB : hi ≤ B) : RowIn w' el lo hi A n c xs :=
  ⟨own_below h.1 hb fun k hk => Nat.lt_of_lt_of_le (h.2 k hk) hB, h.2⟩
theorem RowIn.rd (h : RowIn w el lo hi A n c xs) : Rd w w.heap.size A xs := Rd.own h.1
theorem RowIn.grown (h : RowIn w el lo hi A n c xs) (h' : RowIn w el' lo' hi' A' n' c' xs') (hg : w.grownBy w' (Value.slice A' n' c').ownBlock) (hd : hi ≤ lo' ∨ hi' ≤ lo) : RowIn w' el lo hi A n c xs := by
  refine ⟨h.1.kept hg ?_, h.2⟩
  cases hk : (Value.slice A n c).ownBlock with
  | none => exact .inl rfl
  | some k =>
    right
    intro he
    have h1 := h.2 k hk
    have h2 := (h.1.lt k hk).1
    have h3 := h'.2 k he.symm
    have h4 := (h'.1.lt k he.symm).1
    omega
theorem belowGrownR {a : World} (h : Below B a w) (h' : RowIn w el' lo' hi' A' n' c' xs') (hgr : w.grownBy w' (Value.slice A' n' c').ownBlock) (hB : B ≤ w.heap.size) (hlo : B ≤ lo') : Below B a w' :=
  h.grown hgr hB fun k hk => Nat.le_trans hlo (h'.1.lt k hk).1
theorem RowIn.written (h : RowIn w el lo hi A n c xs) (ho : w'.ownsRow lo el 1 (.slice A n c) n xs') : RowIn w' el lo hi A n c xs' := ⟨ho, h.2⟩
end
theorem int_num {z : Int} (h0 : 0 ≤ z) (h1 : z < 1180591620717411303424) : nanF .f32 (floatOfInt .f32 z) = false := by
  have h : Fits (FloatKind.f32.format.read (FloatKind.f32.format.nearest (decide (z < 0)) z.natAbs 0)) (69 + 1) := by
    refine fits_write FloatKind.f32.format _ _ 0 69 ?_ (by decide) (by decide)
    by_cases hz : z.natAbs = 0
    · exact .inl hz
    · right
      have : z.natAbs.log2 < 70 := by rw [Nat.log2_lt hz]; omega
      omega
  exact (fits_nan h).1
end Go.Proofs.Ytikleaiflmoffaa

-- The least and the greatest number of a list, both ways; sums and what tells that they are finite.
namespace Go.Proofs.Ytikleaiflmoffaa
open Ieee Go.RowKit
def stepLo (a x : Nat) : Nat := if (FloatKind.f32.format.order x a == some .lt) = true then x else a
def stepHi (a x : Nat) : Nat := if (FloatKind.f32.format.order x a == some .gt) = true then x else a
def lowS (l : List Nat) : Nat := l.foldl stepLo (l.headD 0)
def highS (l : List Nat) : Nat := l.foldl stepHi (l.headD 0)
theorem fold_take {f : Nat → Nat → Nat} {a : Nat} {l : List Nat} {k : Nat} (h : k < l.length) : (l.take (k + 1)).foldl f a = f ((l.take k).foldl f a) l[k] := by
  rw [List.take_succ_eq_append_getElem h, List.foldl_append]; rfl
theorem stepLo_same (a : Nat) : stepLo a a = a := by unfold stepLo; split <;> rfl
theorem stepHi_same (a : Nat) : stepHi a a = a := by unfold stepHi; split <;> rfl
/-- how far numbers lie from their mean -/
def devs (xs : List Nat) : List Nat := xs.map fun x => fop .sub .f32 x (meanF xs)
/-- the sums from nought on -/
def sumsK (ds : List Nat) (k : Nat) : List Nat := (List.range (k + 1)).map fun j => sumF (ds.take j)
theorem sumsK_succ (ds : List Nat) (k : Nat) : sumsK ds (k + 1) = sumsK ds k ++ [sumF (ds.take (k + 1))] := by
  unfold sumsK
  rw [List.range_succ, List.map_append]
  rfl
theorem sumsK_len (ds : List Nat) (k : Nat) : (sumsK ds k).length = k + 1 := by unfold sumsK; simp
def rosS (xs : List Nat) : Nat := rootC (meanF (sqN (devs xs)))
def rosC (xs : List Nat) : Nat := fop .quo .f32 (fop .sub .f32 (highS (sumsK (devs xs) xs.length)) (lowS (sumsK (devs xs) xs.length))) (rosS xs)
def spOk (xs : List Nat) : Bool := gtB (rosS xs) && finB (rosS xs)
def spR (xs : List Nat) : Nat := if spOk xs = true then numV (rosC xs) else 0
def spB (xs : List Nat) : Bool := if spOk xs = true then finB (rosC xs) else false
def rosIn (xs : List Nat) : Bool := listB xs && decide (2 ≤ xs.length)
def rosR (xs : List Nat) : Nat := if rosIn xs = true then spR xs else 0
def rosB (xs : List Nat) : Bool := if rosIn xs = true then spB xs else false
theorem spR_num (xs : List Nat) : nanF .f32 (spR xs) = false := by
  unfold spR
  split
  · exact numV_num _
  · exact num_zero
theorem rosR_num (xs : List Nat) : nanF .f32 (rosR xs) = false := by
  unfold rosR
  split
  · exact spR_num _
  · exact num_zero
theorem int_fin {z : Int} (h0 : 0 ≤ z) (h1 : z < 1180591620717411303424) : finB (floatOfInt .f32 z) = true := by
  have h : Fits (FloatKind.f32.format.read (FloatKind.f32.format.nearest (decide (z < 0)) z.natAbs 0)) (69 + 1) := by
    refine fits_write FloatKind.f32.format _ _ 0 69 ?_ (by decide) (by decide)
    by_cases hz : z.natAbs = 0
    · exact .inl hz
    · right
      have : z.natAbs.log2 < 70 := by rw [Nat.log2_lt hz]; omega
      omega
  obtain ⟨s, m, p, h, _⟩ := h
  exact fin_of h
theorem fin_sq {x : Nat} (h : finB (fop .mul .f32 x x) = true) : finB x = true := by
  cases hn : nanF .f32 x
  · rcases num_read hn with ⟨s, h1⟩ | ⟨s, m, p, h1⟩
    · exfalso
      have he : floatBits .mul .f32 x x = some (FloatKind.f32.format.write (.infinity (s ^^ s))) := by
        unfold floatBits Format.mul
        dsimp only
        rw [h1]
        rfl
      rw [fop_some he, write_inf] at h
      cases h
    · exact fin_of h1
  · rw [finB_nan (fop_nan arith_mul (.inl hn))] at h; cases h
theorem sums_fin {xs : List Nat} (hl : xs.length ≤ 256) (h : finB (rosS xs) = true) : ∀ x ∈ sumsK (devs xs) xs.length, finB x = true := by
  have h1 := fin_root h
  unfold meanF at h1
  have h2 := fin_sum (fin_quo (int_fin (by omega) (by unfold sqN devs; rw [List.length_map, List.length_map]; omega)) h1)
  have h3 : ∀ d ∈ devs xs, Bd d (1 * 2 ^ 213) := by
    intro d hd
    have h4 := h2 (fop .mul .f32 d d) (List.mem_map.2 ⟨d, hd, rfl⟩)
    exact bd_of_sq (fin_sq h4) h4
  intro x hx
  obtain ⟨j, hj, rfl⟩ := List.mem_map.1 hx
  have hj2 := List.mem_range.1 hj
  have hdl : (devs xs).length = xs.length := List.length_map ..
  exact (bd_sums h3 (by rw [hdl]; exact hl) j (by rw [hdl]; omega)).fin
theorem simL_eq {xs ys : List Nat} (h : SimL xs ys) (hf : ∀ y ∈ ys, finB y = true) : xs = ys := by
  refine List.ext_getElem h.1 fun i h1 h2 => ?_
  exact (h.2 i _ _ (List.getElem?_eq_getElem h1) (List.getElem?_eq_getElem h2)).eq (fin_num (hf _ (List.getElem_mem h2)))
theorem simL_fin {xs ys : List Nat} (h : SimL xs ys) : finL xs = finL ys := by
  have key : ∀ {xs ys : List Nat}, SimL xs ys → (∀ y ∈ ys, finB y = true) → ∀ x ∈ xs, finB x = true := by
    intro xs ys h hf x hx
    rw [simL_eq h hf] at hx
    exact hf x hx
  have h' : SimL ys xs := ⟨h.1.symm, fun i x y hx hy => (h.2 i y x hy hx).symm⟩
  cases h1 : finL xs <;> cases h2 : finL ys
  · rfl
  · have := key h (finL_mem h2)
    rw [← h1]
    unfold finL
    simp only [Bool.not_eq_true', List.any_eq_false]
    intro x hx; simp [this x hx]
  · have := key h' (finL_mem h1)
    rw [← h2]
    unfold finL
    symm
    simp only [Bool.not_eq_true', List.any_eq_false]
    intro x hx; simp [this x hx]
  · rfl
theorem devs_take {xs : List Nat} {k : Nat} (h : k < xs.length) : (devs xs).take (k + 1) = (devs xs).take k ++ [fop .sub .f32 xs[k] (meanF xs)] := by
  unfold devs
  rw [List.take_succ_eq_append_getElem (by rw [List.length_map]; exact h), List.getElem_map]
theorem sqN_snoc (ds : List Nat) (d : Nat) : sqN (ds ++ [d]) = sqN ds ++ [fop .mul .f32 d d] := by unfold sqN; rw [List.map_append]; rfl
theorem own_oneF (w : World) (t : TypeId) (x B : Nat) (hB : B ≤ w.heap.size) : (w.alloc (.cells #[.float .f32 x] t)).ownsRow B t 1 (.slice (some ⟨w.heap.size, 0, none⟩) 1 1) 1 [.float .f32 x] :=
  ⟨rfl, .inr ⟨w.heap.size, 1, _, rfl, hB, heap_alloc_new w _, Nat.le_refl _, by unfold maxLen; omega, rfl, by simp⟩⟩
end Go.Proofs.Ytikleaiflmoffaa

-- RangeOfWalk and StepGrowth.
namespace Go.Proofs.Ytikleaiflmoffaa
open Ieee Go.RowKit
def spanF (xs : List Nat) : Nat := fop .sub .f32 (highS xs) (lowS xs)
/-- the steps -/
def stepF (xs : List Nat) (i : Nat) : Nat := fop .sub .f32 (xs.getD (i + 1) 0) (xs.getD i 0)
def sqF (xs : List Nat) (i : Nat) : Nat := fop .mul .f32 (stepF xs i) (stepF xs i)
def sqL (xs : List Nat) (k : Nat) : List Nat := (List.range k).map (sqF xs)
theorem sqL_snoc (xs : List Nat) (k : Nat) : sqL xs (k + 1) = sqL xs k ++ [sqF xs k] := by simp [sqL, List.range_succ]
def growF (xs : List Nat) : Nat := fop .quo .f32 (sumF (sqL xs (xs.length - 1))) (floatOfInt .f32 ((xs.length : Int) - 1))
end Go.Proofs.Ytikleaiflmoffaa

-- Widened numbers, the greatest and the least of a list, gaps: as fractions.
namespace Go.Proofs.Ytikleaiflmoffaa
open Ieee Go.RowKit
theorem read_small {x : Nat} {s : Bool} {m : Nat} {p : Int} (h : FloatKind.f32.format.read x = .number s m p) : m < 16777216 := by
  obtain ⟨a, b, c, d⟩ := fmt32
  unfold Format.read at h
  rw [a, b, c] at h
  dsimp only at h
  split at h
  · injection h with _ h2 _; omega
  · split at h
    · injection h with _ h2 _; omega
    · split at h <;> cases h
theorem wid_v {x : Nat} (h : Is .f32 x) : floatToFloatBits .f32 x .f64 = some (wid x) ∧ Is .f64 (wid x) ∧ vl .f64 (wid x) = vl .f32 x := by
  have h1 := (wid_num h.num).1
  refine ⟨h1, ?_⟩
  obtain ⟨s, m, p, hr⟩ := h
  have hm := read_small hr
  have hp := read_place hr
  have hf : Fits (.number s m p) 127 := by
    rcases read_cases .f32 x with h2 | ⟨t, h2⟩ | h2
    · rw [hr] at h2; cases h2
    · rw [hr] at h2; cases h2
    · rw [hr] at h2; exact h2
  have e1 : wid x = FloatKind.f64.format.nearest s m p := by
    have h2 := fits_enc .f64 (fits_mono hf (show (127 : Int) ≤ 128 by decide)) (by decide) (by decide)
    unfold floatToFloatBits at h1
    rw [if_neg (by decide), show FloatKind.f32.decode x = .number s m p from hr] at h1
    dsimp only at h1
    split at h1
    · cases h1
    · exact (Option.some.inj h1).symm
  by_cases h0 : m = 0
  · subst h0
    have e2 : FloatKind.f64.format.read (wid x) = .number s 0 FloatKind.f64.format.leastPlace := by
      rw [e1]
      unfold Format.nearest
      rw [if_pos rfl, read_word _ s (Nat.two_pow_pos _), if_pos (binade_pos _)]
    refine ⟨⟨_, _, _, e2⟩, ?_⟩
    unfold vl
    rw [e2, hr]
    show sg s _ = sg s _
    rw [show ((0 : Nat) : Rat) = 0 from rfl, Rat.zero_mul, Rat.zero_mul]
  · obtain ⟨a, b, c, d⟩ := fmt64
    obtain ⟨last, hlast⟩ : ∃ last, last = max (p + m.log2 - FloatKind.f64.format.fractionBits) FloatKind.f64.format.leastPlace := ⟨_, rfl⟩
    have hl : m.log2 < 24 := by rw [Nat.log2_lt h0]; exact hm
    obtain ⟨s', m', p', hh⟩ := hf
    injection hh.1 with q1 q2 q3
    have hE := (hh.2.resolve_left (by rw [← q2]; exact h0))
    rw [← q2, ← q3] at hE
    obtain ⟨m2, p2, hr2, hv⟩ := nearest_read FloatKind.f64.format s m p last h0 hlast (by rw [a, b, c]; rw [c, d] at hlast; omega)
    rw [c, d] at hlast
    rw [e1]
    refine ⟨⟨_, _, _, hr2⟩, ?_⟩
    unfold vl
    rw [hr2, hr]
    show sg s _ = sg s _
    rw [hv, show (last - p).toNat = 0 from by omega, cut_zero, Nat.shiftLeft_eq, Rat.natCast_mul, ← tw_nat, Rat.mul_assoc, ← tw_add, show ((p - last).toNat : Int) + last = p from by omega]
theorem fmax_v {k : FloatKind} {x y : Nat} (hx : Is k x) (hy : Is k y) : Is k (fmax k x y) ∧ vl k x ≤ vl k (fmax k x y) ∧ vl k y ≤ vl k (fmax k x y) ∧ (vl k (fmax k x y) = vl k x ∨ vl k (fmax k x y) = vl k y) := by
  obtain ⟨o1, o2, o3⟩ := order_v hx hy
  obtain ⟨s, m, p, h1⟩ := hx
  obtain ⟨t, n, q, h2⟩ := hy
  obtain ⟨o, ho⟩ : ∃ o, k.format.order x y = some o := ⟨_, by unfold Format.order; rw [h1, h2]; rfl⟩
  rw [ho] at o1 o2 o3
  unfold fmax
  rw [ho]
  cases o
  · have h3 : vl k x < vl k y := by simpa using o1.symm
    dsimp only
    exact ⟨⟨_, _, _, h2⟩, by grind, by grind, .inr rfl⟩
  · have h3 : vl k x = vl k y := by simpa using o3.symm
    dsimp only
    split
    · exact ⟨⟨_, _, _, h2⟩, by grind, by grind, .inr rfl⟩
    · exact ⟨⟨_, _, _, h1⟩, by grind, by grind, .inl rfl⟩
  · have h3 : vl k y < vl k x := by simpa using o2.symm
    dsimp only
    exact ⟨⟨_, _, _, h1⟩, by grind, by grind, .inl rfl⟩
/-- the gap of two numbers that are not too great -/
theorem gap_v {a b : Nat} {B : Rat} (ha : Is .f64 a) (hb : Is .f64 b) (h : In (vl .f64 a - vl .f64 b) B) (hB : B ≤ 10000) : ab (vl .f64 a - vl .f64 b) < tw 100 ∧ ab (vl .f64 b - vl .f64 a) < tw 100 ∧ Is .f64 (gapF a b) ∧ 0 ≤ vl .f64 (gapF a b) ∧
    vl .f64 (gapF a b) ≤ ab (vl .f64 a - vl .f64 b) + 1 / 10000000000 ∧ ab (vl .f64 a - vl .f64 b) ≤ vl .f64 (gapF a b) + 1 / 10000000000 := by
  have h' : In (vl .f64 b - vl .f64 a) B := by unfold In at h ⊢; grind
  have l1 := in_lt h (by grind)
  have l2 := in_lt h' (by grind)
  have o1 := sub_v ha hb l1
  have o2 := sub_v hb ha l2
  have u1 := ulp64 (vl .f64 a - vl .f64 b)
  have u2 := ulp64 (vl .f64 b - vl .f64 a)
  have b1 := h.ab
  have b2 := h'.ab
  obtain ⟨n1, n2⟩ := o1.near
  obtain ⟨n3, n4⟩ := o2.near
  obtain ⟨f1, f2, f3, f4⟩ := fmax_v o1.num o2.num
  refine ⟨l1, l2, f1, ?_, ?_, ?_⟩
  · show 0 ≤ vl .f64 (fmax .f64 _ _)
    rcases Classical.em (0 ≤ vl .f64 a - vl .f64 b) with hs | hs
    · have := o1.nn hs; grind
    · have := o2.nn (by grind); grind
  · show vl .f64 (fmax .f64 _ _) ≤ _
    have c1 := le_ab (vl .f64 a - vl .f64 b)
    have c2 := neg_le_ab (vl .f64 a - vl .f64 b)
    rcases f4 with f4 | f4 <;> rw [f4] <;> grind
  · show _ ≤ vl .f64 (fmax .f64 _ _) + _
    refine ab_le ?_ ?_ <;> grind
/-- the greatest of a list -/
theorem hi_fold (xs : List Nat) : ∀ a, Is .f32 a → (∀ x ∈ xs, Is .f32 x) → Is .f32 (xs.foldl stepHi a) ∧ vl .f32 a ≤ vl .f32 (xs.foldl stepHi a) ∧ (∀ x ∈ xs, vl .f32 x ≤ vl .f32 (xs.foldl stepHi a)) ∧ (xs.foldl stepHi a = a ∨ xs.foldl stepHi a ∈ xs) := by
  induction xs with
  | nil => intro a ha _; exact ⟨ha, by grind, fun x hx => (by cases hx), .inl rfl⟩
  | cons x r ih =>
    intro a ha hx
    rw [List.foldl_cons]
    have hx0 := hx x (by simp)
    obtain ⟨o1, o2, o3⟩ := order_v hx0 ha
    have key : Is .f32 (stepHi a x) ∧ vl .f32 a ≤ vl .f32 (stepHi a x) ∧ vl .f32 x ≤ vl .f32 (stepHi a x) ∧ (stepHi a x = a ∨ stepHi a x = x) := by
      unfold stepHi
      rw [o2]
      by_cases h : vl .f32 a < vl .f32 x
      · rw [if_pos (by simpa using h)]; exact ⟨hx0, by grind, by grind, .inr rfl⟩
      · rw [if_neg (by simpa using h)]; exact ⟨ha, by grind, by grind, .inl rfl⟩
    obtain ⟨k1, k2, k3, k4⟩ := key
    obtain ⟨i1, i2, i3, i4⟩ := ih (stepHi a x) k1 (fun y hy => hx y (by simp [hy]))
    refine ⟨i1, by grind, ?_, ?_⟩
    · intro y hy
      rcases List.mem_cons.1 hy with rfl | hy
      · grind
      · exact i3 y hy
    · rcases i4 with i4 | i4
      · rw [i4]
        rcases k4 with k4 | k4 <;> rw [k4]
        · exact .inl rfl
        · exact .inr (by simp)
      · exact .inr (by simp [i4])
theorem lo_fold (xs : List Nat) : ∀ a, Is .f32 a → (∀ x ∈ xs, Is .f32 x) → Is .f32 (xs.foldl stepLo a) ∧ vl .f32 (xs.foldl stepLo a) ≤ vl .f32 a ∧ (∀ x ∈ xs, vl .f32 (xs.foldl stepLo a) ≤ vl .f32 x) ∧ (xs.foldl stepLo a = a ∨ xs.foldl stepLo a ∈ xs) := by
  induction xs with
  | nil => intro a ha _; exact ⟨ha, by grind, fun x hx => (by cases hx), .inl rfl⟩
  | cons x r ih =>
    intro a ha hx
    rw [List.foldl_cons]
    have hx0 := hx x (by simp)
    obtain ⟨o1, o2, o3⟩ := order_v hx0 ha
    have key : Is .f32 (stepLo a x) ∧ vl .f32 (stepLo a x) ≤ vl .f32 a ∧ vl .f32 (stepLo a x) ≤ vl .f32 x ∧ (stepLo a x = a ∨ stepLo a x = x) := by
      unfold stepLo
      rw [o1]
      by_cases h : vl .f32 x < vl .f32 a
      · rw [if_pos (by simpa using h)]; exact ⟨hx0, by grind, by grind, .inr rfl⟩
      · rw [if_neg (by simpa using h)]; exact ⟨ha, by grind, by grind, .inl rfl⟩
    obtain ⟨k1, k2, k3, k4⟩ := key
    obtain ⟨i1, i2, i3, i4⟩ := ih (stepLo a x) k1 (fun y hy => hx y (by simp [hy]))
    refine ⟨i1, by grind, ?_, ?_⟩
    · intro y hy
      rcases List.mem_cons.1 hy with rfl | hy
      · grind
      · exact i3 y hy
    · rcases i4 with i4 | i4
      · rw [i4]
        rcases k4 with k4 | k4 <;> rw [k4]
        · exact .inl rfl
        · exact .inr (by simp)
      · exact .inr (by simp [i4])
theorem high_v {xs : List Nat} (h0 : 0 < xs.length) (h : ∀ x ∈ xs, Is .f32 x) : Is .f32 (highS xs) ∧ (∀ x ∈ xs, vl .f32 x ≤ vl .f32 (highS xs)) ∧ highS xs ∈ xs := by
  rcases xs with _ | ⟨x, r⟩
  · simp at h0
  · obtain ⟨a, b, c, d⟩ := hi_fold (x :: r) x (h x (by simp)) h
    refine ⟨a, c, ?_⟩
    rcases d with d | d
    · show List.foldl stepHi x (x :: r) ∈ _
      rw [d]; simp
    · exact d
theorem low_v {xs : List Nat} (h0 : 0 < xs.length) (h : ∀ x ∈ xs, Is .f32 x) : Is .f32 (lowS xs) ∧ (∀ x ∈ xs, vl .f32 (lowS xs) ≤ vl .f32 x) ∧ lowS xs ∈ xs := by
  rcases xs with _ | ⟨x, r⟩
  · simp at h0
  · obtain ⟨a, b, c, d⟩ := lo_fold (x :: r) x (h x (by simp)) h
    refine ⟨a, c, ?_⟩
    rcases d with d | d
    · show List.foldl stepLo x (x :: r) ∈ _
      rw [d]; simp
    · exact d
end Go.Proofs.Ytikleaiflmoffaa

-- What the law on walks asks of a noise walk.
namespace Go.Proofs.Ytikleaiflmoffaa
open Ieee Go.RowKit
/-- a list of numbers that are not too great, with steps that are not too great -/
structure Steps (xs : List Nat) : Prop where
  is : ∀ x ∈ xs, Is .f32 x
  bd : ∀ x ∈ xs, In (vl .f32 x) 506
  len1 : 3 ≤ xs.length
  len2 : xs.length ≤ 22
  st : ∀ i, i + 1 < xs.length → In (vl .f32 (xs.getD (i + 1) 0) - vl .f32 (xs.getD i 0)) (2203 / 100)
theorem Steps.get {xs : List Nat} (_S : Steps xs) {i : Nat} (h : i < xs.length) : xs.getD i 0 ∈ xs := by
  simp [List.getD, List.getElem?_eq_getElem h]
theorem walk_all {keep : Nat} {seed : Int} (hk : Is .f32 keep) (hk1 : In (vl .f32 keep) 1) (h1 : 0 ≤ seed) (h2 : seed < 2147483648) : ∀ j, j ≤ 22 → WalkV keep seed j := by
  intro j
  induction j with
  | zero =>
    intro _
    obtain ⟨z1, z2⟩ := zero_is
    refine ⟨z1, ?_, z1, ?_⟩
    · show In (vl .f32 0) _
      rw [z2]; unfold In; grind
    · show In (vl .f32 0) _
      rw [z2]; unfold In; grind
  | succ j ih => intro hj; exact (walk_step hk hk1 h1 h2 (by omega) (ih (by omega))).2.1
theorem noise_at {keep : Nat} {seed : Int} (hk : Is .f32 keep) (hk1 : In (vl .f32 keep) 1) (h1 : 0 ≤ seed) (h2 : seed < 2147483648) {n : Nat} (hn : n ≤ 22) : ∀ j, j < n → NoiseAt keep seed j :=
  fun j hj => (walk_step hk hk1 h1 h2 (by omega) (walk_all hk hk1 h1 h2 j (by omega))).1
theorem walkL_get (keep : Nat) (seed : Int) {n i : Nat} (h : i < n) : (walkL keep seed n).getD i 0 = nW keep seed (i + 1) := by
  simp [walkL, List.getD, h]
theorem walk_steps {keep : Nat} {seed : Int} (hk : Is .f32 keep) (hk1 : In (vl .f32 keep) 1) (h1 : 0 ≤ seed) (h2 : seed < 2147483648) {n : Nat} (hn1 : 3 ≤ n) (hn : n ≤ 22) : Steps (walkL keep seed n) := by
  have key : ∀ x ∈ walkL keep seed n, Is .f32 x ∧ In (vl .f32 x) 506 := by
    intro x hx
    obtain ⟨j, hj, rfl⟩ := List.mem_map.1 hx
    rw [List.mem_range] at hj
    have h := walk_all hk hk1 h1 h2 (j + 1) (by omega)
    have hj1 : ((j + 1 : Nat) : Rat) ≤ 22 := Rat.natCast_le_natCast.2 (show j + 1 ≤ 22 by omega)
    have hb := h.wb
    exact ⟨h.wi, by unfold In at hb ⊢; grind⟩
  refine ⟨fun x hx => (key x hx).1, fun x hx => (key x hx).2, by rw [walkL_len]; exact hn1, by rw [walkL_len]; exact hn, ?_⟩
  intro i hi
  rw [walkL_len] at hi
  rw [walkL_get _ _ hi, walkL_get _ _ (show i < n by omega)]
  exact (walk_step hk hk1 h1 h2 (by omega) (walk_all hk hk1 h1 h2 (i + 1) (by omega))).2.2
theorem Steps.fin {xs : List Nat} (S : Steps xs) : ∀ x ∈ xs, finB x = true := fun x hx => (S.is x hx).fin
theorem Steps.list {xs : List Nat} (S : Steps xs) : listB xs = true := by
  unfold listB finL
  have h1 : decide (xs.length ≤ 256) = true := by have := S.len2; simp; omega
  have h2 : (xs.any fun x => !finB x) = false := by
    rw [List.any_eq_false]
    intro x hx
    rw [S.fin x hx]; simp
  rw [h1, h2]; rfl
/-- the range -/
theorem Steps.span {xs : List Nat} (S : Steps xs) : Is .f32 (spanF xs) ∧ 0 ≤ vl .f32 (spanF xs) ∧ vl .f32 (spanF xs) ≤ 1013 ∧ vl .f32 (highS xs) - vl .f32 (lowS xs) ≤ vl .f32 (spanF xs) + 1 / 10000 := by
  obtain ⟨a1, a2, a3⟩ := high_v (by have := S.len1; omega) S.is
  obtain ⟨b1, b2, b3⟩ := low_v (by have := S.len1; omega) S.is
  have c1 := S.bd _ a3
  have c2 := S.bd _ b3
  have c3 := b2 _ a3
  have hin : In (vl .f32 (highS xs) - vl .f32 (lowS xs)) 1012 := by unfold In at c1 c2 ⊢; grind
  have g := sub_g a1 b1 hin (by decide +kernel)
  have g1 := g.lo
  have g2 := g.hi
  have g3 := g.nn (by grind)
  refine ⟨g.num, g3, ?_, ?_⟩
  · show vl .f32 (fop .sub .f32 _ _) ≤ _
    unfold In at hin
    grind
  · show _ ≤ vl .f32 (fop .sub .f32 _ _) + _
    grind
/-- the greatest gap of the first k steps -/
def mostF (xs : List Nat) : Nat → Nat
  | 0 => 0
  | k + 1 => fmax .f64 (mostF xs k) (gapF (wid (xs.getD (k + 1) 0)) (wid (xs.getD k 0)))
theorem zero64 : Is .f64 0 ∧ vl .f64 0 = 0 := ⟨⟨_, _, _, rfl⟩, by decide +kernel⟩
structure MostV (xs : List Nat) (k : Nat) : Prop where
  is : Is .f64 (mostF xs k)
  nn : 0 ≤ vl .f64 (mostF xs k)
  le : vl .f64 (mostF xs k) ≤ 2204 / 100
  span : vl .f64 (mostF xs k) ≤ vl .f32 (highS xs) - vl .f32 (lowS xs) + 1 / 10000000000
  all : ∀ i, i < k → ab (vl .f32 (xs.getD (i + 1) 0) - vl .f32 (xs.getD i 0)) ≤ vl .f64 (mostF xs k) + 1 / 10000000000
/-- one gap -/
theorem Steps.gap {xs : List Nat} (S : Steps xs) {k : Nat} (hk : k + 1 < xs.length) : Is .f64 (wid (xs.getD (k + 1) 0)) ∧ Is .f64 (wid (xs.getD k 0)) ∧ floatToFloatBits .f32 (xs.getD (k + 1) 0) .f64 = some (wid (xs.getD (k + 1) 0)) ∧ floatToFloatBits .f32 (xs.getD k 0) .f64 = some (wid (xs.getD k 0)) ∧
    ab (vl .f64 (wid (xs.getD (k + 1) 0)) - vl .f64 (wid (xs.getD k 0))) < tw 100 ∧ ab (vl .f64 (wid (xs.getD k 0)) - vl .f64 (wid (xs.getD (k + 1) 0))) < tw 100 ∧ Is .f64 (gapF (wid (xs.getD (k + 1) 0)) (wid (xs.getD k 0))) ∧
    vl .f64 (gapF (wid (xs.getD (k + 1) 0)) (wid (xs.getD k 0))) ≤ ab (vl .f32 (xs.getD (k + 1) 0) - vl .f32 (xs.getD k 0)) + 1 / 10000000000 ∧ ab (vl .f32 (xs.getD (k + 1) 0) - vl .f32 (xs.getD k 0)) ≤ vl .f64 (gapF (wid (xs.getD (k + 1) 0)) (wid (xs.getD k 0))) + 1 / 10000000000 := by
  obtain ⟨a1, a2, a3⟩ := wid_v (S.is _ (S.get hk))
  obtain ⟨b1, b2, b3⟩ := wid_v (S.is _ (S.get (show k < xs.length by omega)))
  have h := S.st k hk
  have h2 : In (vl .f64 (wid (xs.getD (k + 1) 0)) - vl .f64 (wid (xs.getD k 0))) (2203 / 100) := by rw [a3, b3]; exact h
  obtain ⟨g1, g2, g3, g4, g5, g6⟩ := gap_v a2 b2 h2 (by decide +kernel)
  rw [a3, b3] at g5 g6
  exact ⟨a2, b2, a1, b1, g1, g2, g3, g5, g6⟩
theorem Steps.most {xs : List Nat} (S : Steps xs) : ∀ k, k + 1 ≤ xs.length → MostV xs k := by
  obtain ⟨a1, a2, a3⟩ := high_v (by have := S.len1; omega) S.is
  obtain ⟨b1, b2, b3⟩ := low_v (by have := S.len1; omega) S.is
  have c3 := b2 _ a3
  intro k
  induction k with
  | zero =>
    intro _
    obtain ⟨z1, z2⟩ := zero64
    refine ⟨z1, ?_, ?_, ?_, fun i hi => by omega⟩ <;> (show _ ≤ _) <;> (try (show vl .f64 0 ≤ _)) <;> (try (show (0 : Rat) ≤ vl .f64 0)) <;> rw [z2] <;> grind
  | succ k ih =>
    intro hk
    have M := ih (by omega)
    obtain ⟨_, _, _, _, _, _, g3, g5, g6⟩ := S.gap (show k + 1 < xs.length by omega)
    obtain ⟨f1, f2, f3, f4⟩ := fmax_v M.is g3
    have m1 := M.nn
    have m2 := M.le
    have m3 := M.span
    have d1 := (S.st k (by omega)).ab
    have d2 : ab (vl .f32 (xs.getD (k + 1) 0) - vl .f32 (xs.getD k 0)) ≤ vl .f32 (highS xs) - vl .f32 (lowS xs) := by
      have e1 := a2 _ (S.get (show k + 1 < xs.length by omega))
      have e2 := a2 _ (S.get (show k < xs.length by omega))
      have e3 := b2 _ (S.get (show k + 1 < xs.length by omega))
      have e4 := b2 _ (S.get (show k < xs.length by omega))
      refine ab_le ?_ ?_ <;> grind
    refine ⟨f1, ?_, ?_, ?_, ?_⟩
    · show 0 ≤ vl .f64 (fmax .f64 _ _)
      grind
    · show vl .f64 (fmax .f64 _ _) ≤ _
      rcases f4 with f4 | f4 <;> rw [f4] <;> grind
    · show vl .f64 (fmax .f64 _ _) ≤ _
      rcases f4 with f4 | f4 <;> rw [f4] <;> grind
    · intro i hi
      show _ ≤ vl .f64 (fmax .f64 _ _) + _
      by_cases h : i < k
      · have := M.all i h; grind
      · obtain rfl : i = k := by omega
        grind
/-- a thousandth -/
theorem c001 : Is .f64 4562254508917369340 ∧ 999999 / 1000000000 ≤ vl .f64 4562254508917369340 ∧ vl .f64 4562254508917369340 ≤ 1000001 / 1000000000 := ⟨⟨_, _, _, rfl⟩, by decide +kernel, by decide +kernel⟩
structure Got64 (op : BinOp) (x y : Nat) (v b : Rat) : Prop where
  some : floatBits op .f64 x y = some (fop op .f64 x y)
  num : Is .f64 (fop op .f64 x y)
  lo : v - (b / 1000000000000000 + 1 / 1000000000000) ≤ vl .f64 (fop op .f64 x y)
  hi : vl .f64 (fop op .f64 x y) ≤ v + (b / 1000000000000000 + 1 / 1000000000000)
theorem got64_of {op : BinOp} {x y : Nat} {v b : Rat} (h : Op .f64 op x y v (ulp .f64 v)) (hb : In v b) : Got64 op x y v b := by
  obtain ⟨h1, h2⟩ := h.near
  have h3 := hb.ab
  have h4 := ulp64 v
  exact ⟨h.some, h.num, by grind, by grind⟩
theorem add_g64 {x y : Nat} {b : Rat} (hx : Is .f64 x) (hy : Is .f64 y) (hb : In (vl .f64 x + vl .f64 y) b) (h : b ≤ 100000000000000000000) : Got64 .add x y (vl .f64 x + vl .f64 y) b := got64_of (add_v hx hy (in_lt hb h)) hb
theorem mul_g64 {x y : Nat} {b : Rat} (hx : Is .f64 x) (hy : Is .f64 y) (hb : In (vl .f64 x * vl .f64 y) b) (h : b ≤ 100000000000000000000) : Got64 .mul x y (vl .f64 x * vl .f64 y) b := got64_of (mul_v hx hy (in_lt hb h)) hb
/-- the range is no less than the greatest gap, nearly -/
theorem Steps.ineq1 {xs : List Nat} (S : Steps xs) : floatToFloatBits .f32 (spanF xs) .f64 = some (wid (spanF xs)) ∧ floatBits .add .f64 (wid (spanF xs)) 4562254508917369340 = some (fop .add .f64 (wid (spanF xs)) 4562254508917369340) ∧
    (FloatKind.f64.format.order (mostF xs (xs.length - 1)) (fop .add .f64 (wid (spanF xs)) 4562254508917369340) == some .gt) = false := by
  obtain ⟨s1, s2, s3, s4⟩ := S.span
  obtain ⟨w1, w2, w3⟩ := wid_v s1
  obtain ⟨c1, c2, c3⟩ := c001
  have M := S.most (xs.length - 1) (by have := S.len1; omega)
  have hin : In (vl .f64 (wid (spanF xs)) + vl .f64 4562254508917369340) 1014 := by rw [w3]; unfold In; grind
  have g := add_g64 w2 c1 hin (by decide +kernel)
  have g1 := g.lo
  have m3 := M.span
  refine ⟨w1, g.some, ?_⟩
  rw [(order_v M.is g.num).2.1, decide_eq_false_iff_not]
  rw [w3] at g1
  grind
end Go.Proofs.Ytikleaiflmoffaa

-- The growth of a walk is no more than the greatest step, squared, nearly.
namespace Go.Proofs.Ytikleaiflmoffaa
open Ieee Go.RowKit
theorem cnt_v {n : Int} (h1 : 1 ≤ n) (h2 : n ≤ 40) : Is .f32 (floatOfInt .f32 n) ∧ vl .f32 (floatOfInt .f32 n) = (n : Rat) := by
  have h := all_lt (p := fun j => finB (floatOfInt .f32 ((j : Int) + 1)) && decide (vl .f32 (floatOfInt .f32 ((j : Int) + 1)) = (((j : Int) + 1 : Int) : Rat))) (n := 40) (by decide +kernel) (j := (n - 1).toNat) (by omega)
  rw [show (((n - 1).toNat : Nat) : Int) + 1 = n from by omega] at h
  simp only [Bool.and_eq_true, decide_eq_true_eq] at h
  exact ⟨is_fin h.1, h.2⟩
structure SqV (xs : List Nat) (Q : Rat) (i : Nat) : Prop where
  is : Is .f32 (sqF xs i)
  nn : 0 ≤ vl .f32 (sqF xs i)
  le : vl .f32 (sqF xs i) ≤ Q
theorem Steps.sq {xs : List Nat} (S : Steps xs) {i : Nat} (hi : i + 1 < xs.length) : SqV xs (vl .f64 (mostF xs (xs.length - 1)) * vl .f64 (mostF xs (xs.length - 1)) + 1 / 10000) i := by
  have M := S.most (xs.length - 1) (by have := S.len1; omega)
  have m1 := M.nn
  have m2 := M.le
  have m3 := M.all i (by omega)
  have hst := S.st i hi
  have gd := sub_g (S.is _ (S.get hi)) (S.is _ (S.get (show i < xs.length by omega))) hst (by decide +kernel)
  have d1 := gd.lo
  have d2 := gd.hi
  obtain ⟨Mx, hMx⟩ : ∃ Mx, Mx = vl .f64 (mostF xs (xs.length - 1)) := ⟨_, rfl⟩
  rw [← hMx] at m1 m2 m3 ⊢
  have dI : Is .f32 (stepF xs i) := gd.num
  have hD : In (vl .f32 (stepF xs i)) (Mx + 14 / 10000000) := by
    have e1 := le_ab (vl .f32 (xs.getD (i + 1) 0) - vl .f32 (xs.getD i 0))
    have e2 := neg_le_ab (vl .f32 (xs.getD (i + 1) 0) - vl .f32 (xs.getD i 0))
    show In (vl .f32 (fop .sub .f32 _ _)) _
    unfold In
    grind
  have hDD := in_mul hD hD
  have e3 : (Mx + 14 / 10000000) * (Mx + 14 / 10000000) = Mx * Mx + 28 / 10000000 * Mx + 196 / 100000000000000 := by grind
  rw [e3] at hDD
  have e4 := mul_up m2 m1
  have e5 : 2204 / 100 * Mx ≤ 2204 / 100 * (2204 / 100) := mul_up' m2 (by decide +kernel)
  have hb : In (vl .f32 (stepF xs i) * vl .f32 (stepF xs i)) 486 := by unfold In at hDD ⊢; grind
  have gq := mul_g dI dI hb (by decide +kernel)
  have q1 := gq.hi
  have hnn : 0 ≤ vl .f32 (stepF xs i) * vl .f32 (stepF xs i) := by
    have h := ab_mul (vl .f32 (stepF xs i)) (vl .f32 (stepF xs i))
    rcases Classical.em (vl .f32 (stepF xs i) < 0) with hs | hs
    · have := Rat.mul_nonneg (show 0 ≤ -vl .f32 (stepF xs i) by grind) (show 0 ≤ -vl .f32 (stepF xs i) by grind)
      grind
    · exact Rat.mul_nonneg (by grind) (by grind)
  refine ⟨gq.num, gq.nn hnn, ?_⟩
  show vl .f32 (fop .mul .f32 _ _) ≤ _
  unfold In at hDD
  grind
theorem sum_sq {xs : List Nat} {Q : Rat} (hQ : Q ≤ 4859 / 10) (hQ0 : 0 ≤ Q) (n : Nat) (hn : n ≤ 21) (h : ∀ i, i < n → SqV xs Q i) : ∀ k, k ≤ n → Is .f32 (sumF (sqL xs k)) ∧ 0 ≤ vl .f32 (sumF (sqL xs k)) ∧ vl .f32 (sumF (sqL xs k)) ≤ (k : Rat) * (Q + 62 / 100000) := by
  intro k
  induction k with
  | zero =>
    intro _
    obtain ⟨z1, z2⟩ := zero_is
    refine ⟨z1, ?_, ?_⟩
    · show 0 ≤ vl .f32 0
      grind
    · show vl .f32 0 ≤ _
      rw [z2, show ((0 : Nat) : Rat) = 0 from rfl]
      grind
  | succ k ih =>
    intro hk
    obtain ⟨i1, i2, i3⟩ := ih (by omega)
    have q := h k (by omega)
    have q1 := q.nn
    have q2 := q.le
    have k0 : (0 : Rat) ≤ (k : Rat) := Rat.natCast_le_natCast.2 (Nat.zero_le k)
    have k1 : (k : Rat) ≤ 20 := Rat.natCast_le_natCast.2 (show k ≤ 20 by omega)
    have e1 : (k : Rat) * (Q + 62 / 100000) ≤ 20 * (Q + 62 / 100000) := mul_up k1 (by grind)
    have hin : In (vl .f32 (sumF (sqL xs k)) + vl .f32 (sqF xs k)) 10300 := by unfold In; grind
    have g := add_g i1 q.is hin (by decide +kernel)
    have g1 := g.hi
    have g2 := g.nn (by grind)
    rw [sqL_snoc, sumF_snoc, succ_rat]
    exact ⟨g.num, g2, by grind⟩
/-- the growth -/
theorem Steps.ineq2 {xs : List Nat} (S : Steps xs) : Is .f32 (growF xs) ∧ 0 ≤ vl .f32 (growF xs) ∧ floatToFloatBits .f32 (growF xs) .f64 = some (wid (growF xs)) ∧
    floatBits .mul .f64 (mostF xs (xs.length - 1)) (mostF xs (xs.length - 1)) = some (fop .mul .f64 (mostF xs (xs.length - 1)) (mostF xs (xs.length - 1))) ∧
    floatBits .add .f64 (fop .mul .f64 (mostF xs (xs.length - 1)) (mostF xs (xs.length - 1))) 4562254508917369340 = some (fop .add .f64 (fop .mul .f64 (mostF xs (xs.length - 1)) (mostF xs (xs.length - 1))) 4562254508917369340) ∧
    (FloatKind.f64.format.order (wid (growF xs)) (fop .add .f64 (fop .mul .f64 (mostF xs (xs.length - 1)) (mostF xs (xs.length - 1))) 4562254508917369340) == some .gt) = false := by
  have M := S.most (xs.length - 1) (by have := S.len1; omega)
  have m1 := M.nn
  have m2 := M.le
  obtain ⟨c1, c2, c3⟩ := c001
  have hmm : 0 ≤ vl .f64 (mostF xs (xs.length - 1)) * vl .f64 (mostF xs (xs.length - 1)) := Rat.mul_nonneg m1 m1
  have e4 := mul_up m2 m1
  have e5 : 2204 / 100 * vl .f64 (mostF xs (xs.length - 1)) ≤ 2204 / 100 * (2204 / 100) := mul_up' m2 (by decide +kernel)
  have hsq : ∀ i, i < xs.length - 1 → SqV xs (vl .f64 (mostF xs (xs.length - 1)) * vl .f64 (mostF xs (xs.length - 1)) + 1 / 10000) i := fun i hi => S.sq (by omega)
  obtain ⟨X, hX⟩ : ∃ X, X = vl .f64 (mostF xs (xs.length - 1)) * vl .f64 (mostF xs (xs.length - 1)) := ⟨_, rfl⟩
  rw [← hX] at hsq hmm e4
  obtain ⟨s1, s2, s3⟩ := sum_sq (Q := X + 1 / 10000) (by grind) (by grind) (xs.length - 1) (by have := S.len2; omega) hsq (xs.length - 1) (Nat.le_refl _)
  obtain ⟨n1, n2⟩ := cnt_v (n := (xs.length : Int) - 1) (by have := S.len1; omega) (by have := S.len2; omega)
  have e6 : (((xs.length : Int) - 1 : Int) : Rat) = ((xs.length - 1 : Nat) : Rat) := by
    rw [show (xs.length : Int) - 1 = ((xs.length - 1 : Nat) : Int) from by have := S.len1; omega]; exact Rat.intCast_natCast _
  rw [e6] at n2
  have hN : (2 : Rat) ≤ ((xs.length - 1 : Nat) : Rat) := Rat.natCast_le_natCast.2 (show 2 ≤ xs.length - 1 by have := S.len1; omega)
  obtain ⟨N, hNe⟩ : ∃ N, N = ((xs.length - 1 : Nat) : Rat) := ⟨_, rfl⟩
  rw [← hNe] at n2 hN s3
  obtain ⟨Sm, hSm⟩ : ∃ Sm, Sm = vl .f32 (sumF (sqL xs (xs.length - 1))) := ⟨_, rfl⟩
  rw [← hSm] at s2 s3
  obtain ⟨E, hE⟩ : ∃ E, E = Sm / N := ⟨_, rfl⟩
  have hEN : E * N = Sm := by rw [hE]; exact div_mul (by grind)
  have hE1 : E ≤ X + 1 / 10000 + 62 / 100000 := le_of_mul (show 0 < N by grind) (by rw [hEN, Rat.mul_comm]; exact s3)
  have hE0 : 0 ≤ E := le_of_mul (show 0 < N by grind) (by rw [hEN, Rat.zero_mul]; exact s2)
  have hin : In (vl .f32 (sumF (sqL xs (xs.length - 1))) / vl .f32 (floatOfInt .f32 ((xs.length : Int) - 1))) 487 := by
    rw [← hSm, n2, ← hE]; unfold In; grind
  have g := quo_g s1 n1 (by rw [n2]; grind) hin (by decide +kernel)
  have g1 := g.hi
  have g2 := g.nn (by rw [← hSm, n2, ← hE]; exact hE0)
  rw [← hSm, n2, ← hE] at g1
  have gI : Is .f32 (growF xs) := g.num
  obtain ⟨w1, w2, w3⟩ := wid_v gI
  have k1 := mul_g64 M.is M.is (b := 486) (by rw [← hX]; unfold In; grind) (by decide +kernel)
  have k2 := k1.lo
  have k3 := k1.hi
  rw [← hX] at k2 k3
  have k4 := add_g64 k1.num c1 (b := 487) (by unfold In; grind) (by decide +kernel)
  have k5 := k4.lo
  refine ⟨gI, g2, w1, k1.some, k4.some, ?_⟩
  rw [(order_v w2 k4.num).2.1, decide_eq_false_iff_not, w3]
  show ¬ _ < vl .f32 (fop .quo .f32 _ _)
  grind
end Go.Proofs.Ytikleaiflmoffaa
