/- The least and the greatest number of a list, both ways; sums and what tells that they are finite. -/
import Derived.Test.YtcpimcjmckljfaaBound
import Derived.Test.YtcpimcjmckljfaaSlope
import Derived.Test.YtcpimcjmckljfaaHeld
import Derived.Maps.AppendAt
namespace Go.Proofs.Ytcpimcjmckljfaa
open Ieee Go.RowKit
def stepLo (a x : Nat) : Nat := if (FloatKind.f32.format.order x a == some .lt) = true then x else a
def stepHi (a x : Nat) : Nat := if (FloatKind.f32.format.order x a == some .gt) = true then x else a
def lowS (l : List Nat) : Nat := l.foldl stepLo (l.headD 0)
def highS (l : List Nat) : Nat := l.foldl stepHi (l.headD 0)
theorem fold_take {f : Nat → Nat → Nat} {a : Nat} {l : List Nat} {k : Nat} (h : k < l.length) : (l.take (k + 1)).foldl f a = f ((l.take k).foldl f a) l[k] := by
  rw [List.take_succ_eq_append_getElem h, List.foldl_append]; rfl
theorem stepLo_same (a : Nat) : stepLo a a = a := by unfold stepLo; split <;> rfl
theorem stepHi_same (a : Nat) : stepHi a a = a := by unfold stepHi; split <;> rfl
set_option maxHeartbeats 2000000 in
set_option maxRecDepth 100000 in
theorem span_any (A : Option Addr) (n c : Nat) (xs : List Nat) (w : World) (hn : xs.length = n) (h1 : 1 ≤ n) (hm : n ≤ 1048576) (hr : Rd w w.heap.size A (xs.map (Value.float .f32))) :
    Calls Try.prog 72 #[.slice A n c] w fun e w' => e = .returned (.tuple #[.float .f32 (lowS xs), .float .f32 (highS xs)]) ∧ ∃ m, w' = w.drewN m := by
  have Hn := Lib.hid hn; clear hn
  have Hr := Lib.hid hr; clear hr
  obtain ⟨ad, rfl, _, hc0⟩ := Hr.out.at_ (k := 0) (by rw [List.length_map, Hn.out]; omega)
  rw [List.getElem_map, show ad.add 0 = ad from rfl] at hc0
  have HH : Hid (xs.headD 0 = xs[0]'(by rw [Hn.out]; omega)) := Lib.hid (by cases xs with | nil => have := Hn.out; simp at this; omega | cons a s => rfl)
  obtain ⟨x0, hx0⟩ : ∃ x0, x0 = xs[0]'(by rw [Hn.out]; omega) := ⟨_, rfl⟩
  rw [← hx0] at hc0 HH
  clear hx0
  go_enter Try.func72, Try.ntmps72
  go_wp2_with fail
  go_quiet (fail)
  go_wp2
  go_loopw [4, 5, 16] (fun p q i wr => ∃ (k a b : Nat), k ≤ n ∧ i = .int .i64 k ∧ p = .float .f32 a ∧ q = .float .f32 b ∧ Hid (a = (xs.take k).foldl stepLo x0) ∧ Hid (b = (xs.take k).foldl stepHi x0) ∧ ∃ m, wr = w.drewN m) (fun _ _ i _ => n - (intOf i).toNat)
  case atStart => exact ⟨0, x0, x0, Nat.zero_le _, rfl, rfl, rfl, Lib.hid rfl, Lib.hid rfl, _, rfl⟩
  case round =>
    obtain ⟨k, a, b, hk, rfl, rfl, rfl, HA, HB, hq⟩ := hrel
    have HQ := Lib.hid hq
    by_cases hlt : k < n
    · have hka : k < xs.length := by rw [Hn.out]; exact hlt
      obtain ⟨ad', had', _, hck⟩ := Hr.out.at_ (k := k) (by rw [List.length_map]; exact hka)
      obtain rfl : ad' = ad := (Option.some.inj had').symm
      rw [List.getElem_map] at hck
      have HS := Lib.hid (fold_take (f := stepLo) (a := x0) hka)
      have HS' := Lib.hid (fold_take (f := stepHi) (a := x0) hka)
      obtain ⟨x, hx⟩ : ∃ x, x = xs[k] := ⟨_, rfl⟩
      rw [← hx] at hck HS HS'
      have e1 := cell_drw hq hck
      clear hx had' hck hq
      cases g1 : (FloatKind.f32.format.order x a == some .lt) <;> cases g2 : (FloatKind.f32.format.order x b == some .gt)
      all_goals
        go_wp2
        go_roundw
      case rel => exact ⟨k + 1, _, _, by omega, by go_num, rfl, rfl, Lib.hid (by rw [HS.out, ← HA.out]; unfold stepLo; rw [g1]; rfl), Lib.hid (by rw [HS'.out, ← HB.out]; unfold stepHi; rw [g2]; rfl), HQ.out⟩
      case measure => simp [intOf]; omega
      case rel => exact ⟨k + 1, _, _, by omega, by go_num, rfl, rfl, Lib.hid (by rw [HS.out, ← HA.out]; unfold stepLo; rw [g1]; rfl), Lib.hid (by rw [HS'.out, ← HB.out]; unfold stepHi; rw [g2]; rfl), HQ.out⟩
      case measure => simp [intOf]; omega
      case rel => exact ⟨k + 1, _, _, by omega, by go_num, rfl, rfl, Lib.hid (by rw [HS.out, ← HA.out]; unfold stepLo; rw [g1]; rfl), Lib.hid (by rw [HS'.out, ← HB.out]; unfold stepHi; rw [g2]; rfl), HQ.out⟩
      case measure => simp [intOf]; omega
      case rel => exact ⟨k + 1, _, _, by omega, by go_num, rfl, rfl, Lib.hid (by rw [HS.out, ← HA.out]; unfold stepLo; rw [g1]; rfl), Lib.hid (by rw [HS'.out, ← HB.out]; unfold stepHi; rw [g2]; rfl), HQ.out⟩
      case measure => simp [intOf]; omega
    · obtain rfl : n = k := by omega
      have hT : xs.take n = xs := List.take_of_length_le (by rw [Hn.out]; omega)
      have HT : Hid (lowS xs = a ∧ highS xs = b) := Lib.hid (by
        have h := HA.out
        have h' := HB.out
        rw [hT] at h h'
        unfold lowS highS
        rw [HH.out]
        exact ⟨h.symm, h'.symm⟩)
      clear hT hq
      go_wp2
      go_ret2
      rw [HT.out.1, HT.out.2]
      exact ⟨rfl, HQ.out⟩
set_option maxHeartbeats 2000000 in
set_option maxRecDepth 100000 in
theorem l06Range_any (A : Option Addr) (n c : Nat) (xs : List Nat) (w : World) (hn : xs.length = n) (h1 : 1 ≤ n) (hm : n ≤ 1048576) (hr : Rd w w.heap.size A (xs.map (Value.float .f32))) :
    Calls Try.prog 101 #[.slice A n c] w fun e w' => (∃ r, e = .returned (.float .f32 r) ∧ Sim .f32 r (fop .sub .f32 (highS xs) (lowS xs))) ∧ ∃ m, w' = w.drewN m := by
  have Hn := Lib.hid hn; clear hn
  have Hr := Lib.hid hr; clear hr
  obtain ⟨ad, rfl, _, hc0⟩ := Hr.out.at_ (k := 0) (by rw [List.length_map, Hn.out]; omega)
  rw [List.getElem_map, show ad.add 0 = ad from rfl] at hc0
  have h0 : 0 < xs.length := by rw [Hn.out]; omega
  have HH : Hid (xs.headD 0 = xs[0]) := Lib.hid (by cases xs with | nil => simp at h0 | cons a s => rfl)
  have HF : Hid ((xs.take 1).foldl stepLo xs[0] = xs[0] ∧ (xs.take 1).foldl stepHi xs[0] = xs[0]) := Lib.hid (by
    rw [fold_take h0, fold_take h0, List.take_zero]
    exact ⟨stepLo_same _, stepHi_same _⟩)
  obtain ⟨x0, hx0⟩ : ∃ x0, x0 = xs[0] := ⟨_, rfl⟩
  rw [← hx0] at hc0 HH HF
  clear hx0 h0
  go_enter Try.func101, Try.ntmps101
  go_wp2
  go_loopw [3, 4, 5] (fun p q i wr => ∃ (k a b : Nat), 1 ≤ k ∧ k ≤ n ∧ i = .int .i64 k ∧ p = .float .f32 a ∧ q = .float .f32 b ∧ Hid (a = (xs.take k).foldl stepLo x0) ∧ Hid (b = (xs.take k).foldl stepHi x0) ∧ ∃ m, wr = w.drewN m) (fun _ _ i _ => n - (intOf i).toNat)
  case atStart => exact ⟨1, x0, x0, Nat.le_refl _, h1, rfl, rfl, rfl, Lib.hid HF.out.1.symm, Lib.hid HF.out.2.symm, 0, rfl⟩
  case round =>
    obtain ⟨k, a, b, hk1, hk, rfl, rfl, rfl, HA, HB, hq⟩ := hrel
    have HQ := Lib.hid hq
    by_cases hlt : k < n
    · have hka : k < xs.length := by rw [Hn.out]; exact hlt
      obtain ⟨ad', had', _, hck⟩ := Hr.out.at_ (k := k) (by rw [List.length_map]; exact hka)
      obtain rfl : ad' = ad := (Option.some.inj had').symm
      rw [List.getElem_map] at hck
      have HS := Lib.hid (fold_take (f := stepLo) (a := x0) hka)
      have HS' := Lib.hid (fold_take (f := stepHi) (a := x0) hka)
      obtain ⟨x, hx⟩ : ∃ x, x = xs[k] := ⟨_, rfl⟩
      rw [← hx] at hck HS HS'
      have e1 := cell_drw hq hck
      clear hx had' hck hq
      cases g1 : (FloatKind.f32.format.order x a == some .lt) <;> cases g2 : (FloatKind.f32.format.order x b == some .gt)
      all_goals
        go_wp2
        go_roundw
      case rel => exact ⟨k + 1, _, _, by omega, by omega, by go_num, rfl, rfl, Lib.hid (by rw [HS.out, ← HA.out]; unfold stepLo; rw [g1]; rfl), Lib.hid (by rw [HS'.out, ← HB.out]; unfold stepHi; rw [g2]; rfl), HQ.out⟩
      case measure => simp [intOf]; omega
      case rel => exact ⟨k + 1, _, _, by omega, by omega, by go_num, rfl, rfl, Lib.hid (by rw [HS.out, ← HA.out]; unfold stepLo; rw [g1]; rfl), Lib.hid (by rw [HS'.out, ← HB.out]; unfold stepHi; rw [g2]; rfl), HQ.out⟩
      case measure => simp [intOf]; omega
      case rel => exact ⟨k + 1, _, _, by omega, by omega, by go_num, rfl, rfl, Lib.hid (by rw [HS.out, ← HA.out]; unfold stepLo; rw [g1]; rfl), Lib.hid (by rw [HS'.out, ← HB.out]; unfold stepHi; rw [g2]; rfl), HQ.out⟩
      case measure => simp [intOf]; omega
      case rel => exact ⟨k + 1, _, _, by omega, by omega, by go_num, rfl, rfl, Lib.hid (by rw [HS.out, ← HA.out]; unfold stepLo; rw [g1]; rfl), Lib.hid (by rw [HS'.out, ← HB.out]; unfold stepHi; rw [g2]; rfl), HQ.out⟩
      case measure => simp [intOf]; omega
    · obtain rfl : n = k := by omega
      have hT : xs.take n = xs := List.take_of_length_le (by rw [Hn.out]; omega)
      have HT : Hid (lowS xs = a ∧ highS xs = b) := Lib.hid (by
        have h := HA.out
        have h' := HB.out
        rw [hT] at h h'
        unfold lowS highS
        rw [HH.out]
        exact ⟨h.symm, h'.symm⟩)
      clear hT hq
      go_wp2_with (first
          | (refine wpList_fopW rfl .sub 23 (.tmp 38) (.tmp 39) 23 rfl arith_sub .f32 _ _ rfl rfl ?_; intro r1 w1 h1 q1))
      go_ret
      rw [HT.out.1, HT.out.2]
      exact ⟨⟨_, rfl, h1⟩, drw_trans HQ.out q1⟩
/-- how far numbers lie from their mean -/
def devs (xs : List Nat) : List Nat := xs.map fun x => fop .sub .f32 x (meanF xs)
/-- the sums from nought on -/
def sumsK (ds : List Nat) (k : Nat) : List Nat := (List.range (k + 1)).map fun j => sumF (ds.take j)
theorem sumsK_succ (ds : List Nat) (k : Nat) : sumsK ds (k + 1) = sumsK ds k ++ [sumF (ds.take (k + 1))] := by
  unfold sumsK
  rw [List.range_succ, List.map_append]
  rfl
theorem sumsK_len (ds : List Nat) (k : Nat) : (sumsK ds k).length = k + 1 := by unfold sumsK; simp
def rosS (xs : List Nat) : Nat := rootC (meanF (sqN (devs xs)))
def rosC (xs : List Nat) : Nat := fop .quo .f32 (fop .sub .f32 (highS (sumsK (devs xs) xs.length)) (lowS (sumsK (devs xs) xs.length))) (rosS xs)
def spOk (xs : List Nat) : Bool := gtB (rosS xs) && finB (rosS xs)
def spR (xs : List Nat) : Nat := if spOk xs = true then numV (rosC xs) else 0
def spB (xs : List Nat) : Bool := if spOk xs = true then finB (rosC xs) else false
def rosIn (xs : List Nat) : Bool := listB xs && decide (2 ≤ xs.length)
def rosR (xs : List Nat) : Nat := if rosIn xs = true then spR xs else 0
def rosB (xs : List Nat) : Bool := if rosIn xs = true then spB xs else false
theorem spR_num (xs : List Nat) : nanF .f32 (spR xs) = false := by
  unfold spR
  split
  · exact numV_num _
  · exact num_zero
theorem rosR_num (xs : List Nat) : nanF .f32 (rosR xs) = false := by
  unfold rosR
  split
  · exact spR_num _
  · exact num_zero
theorem int_fin {z : Int} (h0 : 0 ≤ z) (h1 : z < 1180591620717411303424) : finB (floatOfInt .f32 z) = true := by
  have h : Fits (FloatKind.f32.format.read (FloatKind.f32.format.nearest (decide (z < 0)) z.natAbs 0)) (69 + 1) := by
    refine fits_write FloatKind.f32.format _ _ 0 69 ?_ (by decide) (by decide)
    by_cases hz : z.natAbs = 0
    · exact .inl hz
    · right
      have : z.natAbs.log2 < 70 := by rw [Nat.log2_lt hz]; omega
      omega
  obtain ⟨s, m, p, h, _⟩ := h
  exact fin_of h
theorem fin_sq {x : Nat} (h : finB (fop .mul .f32 x x) = true) : finB x = true := by
  cases hn : nanF .f32 x
  · rcases num_read hn with ⟨s, h1⟩ | ⟨s, m, p, h1⟩
    · exfalso
      have he : floatBits .mul .f32 x x = some (FloatKind.f32.format.write (.infinity (s ^^ s))) := by
        unfold floatBits Format.mul
        dsimp only
        rw [h1]
        rfl
      rw [fop_some he, write_inf] at h
      cases h
    · exact fin_of h1
  · rw [finB_nan (fop_nan arith_mul (.inl hn))] at h; cases h
theorem sums_fin {xs : List Nat} (hl : xs.length ≤ 256) (h : finB (rosS xs) = true) : ∀ x ∈ sumsK (devs xs) xs.length, finB x = true := by
  have h1 := fin_root h
  unfold meanF at h1
  have h2 := fin_sum (fin_quo (int_fin (by omega) (by unfold sqN devs; rw [List.length_map, List.length_map]; omega)) h1)
  have h3 : ∀ d ∈ devs xs, Bd d (1 * 2 ^ 213) := by
    intro d hd
    have h4 := h2 (fop .mul .f32 d d) (List.mem_map.2 ⟨d, hd, rfl⟩)
    exact bd_of_sq (fin_sq h4) h4
  intro x hx
  obtain ⟨j, hj, rfl⟩ := List.mem_map.1 hx
  have hj2 := List.mem_range.1 hj
  have hdl : (devs xs).length = xs.length := List.length_map ..
  exact (bd_sums h3 (by rw [hdl]; exact hl) j (by rw [hdl]; omega)).fin
theorem simL_eq {xs ys : List Nat} (h : SimL xs ys) (hf : ∀ y ∈ ys, finB y = true) : xs = ys := by
  refine List.ext_getElem h.1 fun i h1 h2 => ?_
  exact (h.2 i _ _ (List.getElem?_eq_getElem h1) (List.getElem?_eq_getElem h2)).eq (fin_num (hf _ (List.getElem_mem h2)))
theorem simL_fin {xs ys : List Nat} (h : SimL xs ys) : finL xs = finL ys := by
  have key : ∀ {xs ys : List Nat}, SimL xs ys → (∀ y ∈ ys, finB y = true) → ∀ x ∈ xs, finB x = true := by
    intro xs ys h hf x hx
    rw [simL_eq h hf] at hx
    exact hf x hx
  have h' : SimL ys xs := ⟨h.1.symm, fun i x y hx hy => (h.2 i y x hy hx).symm⟩
  cases h1 : finL xs <;> cases h2 : finL ys
  · rfl
  · have := key h (finL_mem h2)
    rw [← h1]
    unfold finL
    simp only [Bool.not_eq_true', List.any_eq_false]
    intro x hx; simp [this x hx]
  · have := key h' (finL_mem h1)
    rw [← h2]
    unfold finL
    symm
    simp only [Bool.not_eq_true', List.any_eq_false]
    intro x hx; simp [this x hx]
  · rfl
theorem devs_take {xs : List Nat} {k : Nat} (h : k < xs.length) : (devs xs).take (k + 1) = (devs xs).take k ++ [fop .sub .f32 xs[k] (meanF xs)] := by
  unfold devs
  rw [List.take_succ_eq_append_getElem (by rw [List.length_map]; exact h), List.getElem_map]
theorem sqN_snoc (ds : List Nat) (d : Nat) : sqN (ds ++ [d]) = sqN ds ++ [fop .mul .f32 d d] := by unfold sqN; rw [List.map_append]; rfl
theorem own_oneF (w : World) (t : TypeId) (x B : Nat) (hB : B ≤ w.heap.size) : (w.alloc (.cells #[.float .f32 x] t)).ownsRow B t 1 (.slice (some ⟨w.heap.size, 0, none⟩) 1 1) 1 [.float .f32 x] :=
  ⟨rfl, .inr ⟨w.heap.size, 1, _, rfl, hB, heap_alloc_new w _, Nat.le_refl _, by unfold maxLen; omega, rfl, by simp⟩⟩
end Go.Proofs.Ytcpimcjmckljfaa
