/- Lists of floats: which are finite, their copies, their comparison with themselves, the marks. -/
import Derived.Test.YtbefcfdmaafghaaFlo
import Derived.Test.YtbefcfdmaafghaaPred
import Derived.Test.YtbefcfdmaafghaaMark
import Derived.Deep.RegionWith
namespace Go.Proofs.Ytbefcfdmaafghaa
open Go.RowKit
/-- what is taken from itself is nought -/
def finB (x : Nat) : Bool := match floatBits .sub .f32 x x with | some r => FloatKind.f32.format.order r 0 == some .eq | none => false
theorem finB_some {x r : Nat} (h : floatBits .sub .f32 x x = some r) : finB x = (FloatKind.f32.format.order r 0 == some .eq) := by simp [finB, h]
theorem finB_none {x : Nat} (h : floatBits .sub .f32 x x = none) : finB x = false := by simp [finB, h]

set_option maxHeartbeats 1000000 in
theorem isFinite_any (x : Nat) (w : World) : Calls Try.prog 146 #[.float .f32 x] w fun e w' => e = .returned (.bool (finB x)) ∧ ∃ m, w' = w.drewN m := by
  cases h : floatBits .sub .f32 x x with
  | some r =>
    have HX := Lib.hid (finB_some h)
    have hs : ∀ t w, (binOp .sub t (.float .f32 x) (.float .f32 x)).run Try.prog w = .ok (.float .f32 r) w := fun t w => run_float_arith w .sub t .f32 x x r h
    clear h
    go_enter Try.func146, Try.ntmps146
    go_wp2
    go_ret
    exact ⟨ret_bool HX.out.symm, 0, rfl⟩
  | none =>
    have HX := Lib.hid (finB_none h)
    obtain ⟨r, hr, hnan⟩ := run_arith_none (P := Try.prog) w 43 .f32 x x (.inr (.inl rfl)) h
    have ho := (order_nan hnan 0).1
    clear h hnan
    go_enter Try.func146, Try.ntmps146
    go_wp2
    go_ret
    exact ⟨ret_bool HX.out.symm, 1, rfl⟩

set_option maxHeartbeats 1000000 in
theorem l01Finite_any (x : Nat) (w : World) : Calls Try.prog 143 #[.float .f32 x] w fun e w' => e = .returned (.bool (finB x)) ∧ ∃ m, w' = w.drewN m := by
  cases h : floatBits .sub .f32 x x with
  | some r =>
    have HX := Lib.hid (finB_some h)
    have hs : ∀ t w, (binOp .sub t (.float .f32 x) (.float .f32 x)).run Try.prog w = .ok (.float .f32 r) w := fun t w => run_float_arith w .sub t .f32 x x r h
    clear h
    go_enter Try.func143, Try.ntmps143
    go_wp2
    go_ret
    exact ⟨ret_bool HX.out.symm, 0, rfl⟩
  | none =>
    have HX := Lib.hid (finB_none h)
    obtain ⟨r, hr, hnan⟩ := run_arith_none (P := Try.prog) w 43 .f32 x x (.inr (.inl rfl)) h
    have ho := (order_nan hnan 0).1
    clear h hnan
    go_enter Try.func143, Try.ntmps143
    go_wp2
    go_ret
    exact ⟨ret_bool HX.out.symm, 1, rfl⟩

/-- all are finite -/
def finL (xs : List Nat) : Bool := !xs.any fun x => !finB x
set_option maxHeartbeats 1000000 in
theorem finFn_any (x : Nat) (W : World) : Calls Try.prog 145 #[.float .f32 x] W fun e w' => e = .returned (.bool (!finB x)) ∧ Below W.heap.size W w' := by
  go_enter Try.func145, Try.ntmps145
  go_wp2_with fail
  refine (isFinite_any x _).mono ?_
  rintro e w' ⟨rfl, m, rfl⟩
  go_wp2
  go_ret
  exact ⟨rfl, below_drewN (Below.refl _ _) _⟩
set_option maxHeartbeats 1000000 in
theorem areFinite_any (A : Option Addr) (n c : Nat) (xs : List Nat) (w : World) (hn : xs.length = n) (hm : n ≤ 140737488351232) (hr : Rd w w.heap.size A (xs.map (Value.float .f32))) :
    Calls Try.prog 129 #[.slice A n c] w fun e w' => e = .returned (.bool (finL xs)) ∧ Below w.heap.size w w' := by
  have eg := enters_of (P := Try.prog) Try.func145 (by kernel_rfl) rfl
  have HC := Lib.hid (containsFunc_f32 145 #[] eg (fun x => !finB x) A n c xs w hn hm hr (fun W x _ _ => by simpa using finFn_any x W))
  clear hr hn eg
  go_enter Try.func129, Try.ntmps129
  go_wp2_with fail
  refine HC.out.mono ?_
  rintro e w' ⟨rfl, hb⟩
  have HB := Lib.hid hb; clear hb
  go_wp2
  go_ret
  exact ⟨rfl, HB.out⟩
set_option maxHeartbeats 1000000 in
theorem l02Finite_any (A : Option Addr) (n c : Nat) (xs : List Nat) (w : World) (hn : xs.length = n) (hm : n ≤ 140737488351232) (hr : Rd w w.heap.size A (xs.map (Value.float .f32))) :
    Calls Try.prog 128 #[.slice A n c] w fun e w' => e = .returned (.bool (finL xs)) ∧ ∃ m, w' = w.drewN m := by
  have Hn := Lib.hid hn; clear hn
  have Hr := Lib.hid hr; clear hr
  go_enter Try.func128, Try.ntmps128
  go_wp2
  go_loopw [3] (fun i wr => ∃ k : Nat, k ≤ n ∧ i = .int .i64 k ∧ Hid ((xs.take k).any (fun x => !finB x) = false) ∧ ∃ m, wr = w.drewN m) (fun i _ => n - (intOf i).toNat)
  case atStart => exact ⟨0, Nat.zero_le _, rfl, Lib.hid rfl, 0, rfl⟩
  case round =>
    obtain ⟨k, hk, rfl, HA, m, rfl⟩ := hrel
    by_cases hlt : k < n
    · have hka : k < xs.length := by rw [Hn.out]; exact hlt
      obtain ⟨ad, rfl, _, hcell⟩ := Hr.out.at_ (k := k) (by rw [List.length_map]; exact hka)
      rw [List.getElem_map] at hcell
      have HS : Hid ((!finB xs[k]) = false → (xs.take (k + 1)).any (fun x => !finB x) = false) := Lib.hid (any_step hka HA.out)
      have HT : Hid ((!finB xs[k]) = true → xs.any (fun x => !finB x) = true) := Lib.hid (any_found (p := fun x => !finB x) hka)
      obtain ⟨x, hx⟩ : ∃ x, x = xs[k] := ⟨_, rfl⟩
      rw [← hx] at hcell HS HT
      have c143 := fun W => l01Finite_any x W
      clear hx
      cases hq : finB x
      · have HT2 : Hid (finL xs = false) := Lib.hid (by unfold finL; rw [HT.out (by rw [hq]; rfl)]; rfl)
        rw [hq] at c143
        have HC := Lib.hid c143
        clear hq c143
        go_wp2_with fail
        refine (HC.out _).mono ?_
        rintro e w' ⟨rfl, m', rfl⟩
        go_wp2
        go_ret
        exact ⟨ret_bool HT2.out.symm, _, by first | exact World.drewN_drewN .. | rfl⟩
      · have HS2 := Lib.hid (HS.out (by rw [hq]; rfl))
        rw [hq] at c143
        have HC := Lib.hid c143
        clear hq c143
        go_wp2_with fail
        refine (HC.out _).mono ?_
        rintro e w' ⟨rfl, m', rfl⟩
        go_wp2
        go_roundw
        case rel => exact ⟨k + 1, by omega, by go_num, HS2.out, _, by first | exact World.drewN_drewN .. | rfl⟩
        case measure => simp [intOf]; omega
    · have HT2 : Hid (finL xs = true) := Lib.hid (by unfold finL; rw [any_none (show xs.length ≤ k by rw [Hn.out]; omega) HA.out]; rfl)
      go_wp2
      go_ret
      exact ⟨ret_bool HT2.out.symm, _, rfl⟩
theorem Try.info43 : (Try.prog.info? 43).map (fun i => (i.zero, i.size, i.bytes)) = some (some (.float .f32 0), 1, 4) := by kernel_rfl

set_option maxHeartbeats 1000000 in
theorem toFloat32S_any (A : Option Addr) (n c : Nat) (bs : List Nat) (w : World) (hn : bs.length = n) (hc : n ≤ 17592186044416) (hr : Rd w w.heap.size A (bs.map (Value.float .f32))) :
    Calls Try.prog 60 #[.slice A n c] w fun e w' => e = .returned (.slice (some ⟨w.heap.size, 0, none⟩) n n) ∧
      w'.ownsRow w.heap.size 43 1 (.slice (some ⟨w.heap.size, 0, none⟩) n n) n (bs.map (Value.float .f32)) ∧ Below w.heap.size w w' := by
  obtain ⟨i0, hi, hz0, hz1, hz2⟩ := info_parts Try.info43
  have Hn := Lib.hid hn; clear hn
  have hst := fun (a : Addr) (n : Nat) (m : Mode) (w : World) => run_store Try.prog w a (.float .f32 n) m rfl
  go_enter Try.func60, Try.ntmps60
  go_wp2_with (at_make; refine wpList_make_full _ rfl _ _ 72 rfl w.heap.size 43 i0 (.float .f32 0) 1 Try.underlying72 hi hz0 hz1 _ _ _ _ n rfl rfl rfl rfl ?_ ?_ ?_ ?_)
  · rw [hz2]; omega
  · unfold maxLen; omega
  · exact Nat.le_refl _
  · intro w1 hown hgrow
    have HB := (Below.refl w.heap.size w).grown hgrow (Nat.le_refl _) (fun k hk => by cases hk)
    clear hgrow
    have HO : w1.ownsRow w.heap.size 43 1 (.slice (some ⟨w.heap.size, 0, none⟩) n n) n (((bs.take 0).map (Value.float .f32)) ++ List.replicate (n - 0) (.float .f32 0)) := by
      simpa [toList_madeCells_one, Value.cells] using hown
    clear hown
    go_wp2
    go_loopw [4] (fun i wr => ∃ k : Nat, k ≤ n ∧ i = .int .i64 k ∧ wr.ownsRow w.heap.size 43 1 (.slice (some ⟨w.heap.size, 0, none⟩) n n) n (((bs.take k).map (Value.float .f32)) ++ List.replicate (n - k) (.float .f32 0)) ∧ Below w.heap.size w wr) (fun i _ => n - (intOf i).toNat)
    case atStart => exact ⟨0, Nat.zero_le _, rfl, HO, HB⟩
    case round =>
      obtain ⟨k, hk, rfl, ho, hb⟩ := hrel
      by_cases hlt : k < n
      · obtain ⟨ad, rfl, hab, hcell⟩ := (hr.below hb).at_ (k := k) (by rw [List.length_map, Hn.out]; exact hlt)
        have hkl : k < bs.length := by rw [Hn.out]; exact hlt
        rw [List.getElem_map] at hcell
        have hst : wr.cell? ⟨w.heap.size, k, none⟩ = some ((((bs.take k).map (Value.float .f32)) ++ List.replicate (n - k) (.float .f32 0))[k]'(by rw [List.length_append, List.length_map, List.length_take, List.length_replicate]; omega)) := by
          rw [ho.cellAt k (by omega)]; exact List.getElem?_eq_getElem _
        have hfz := ho.frozenAt k
        have hs := (ho.stored k ((Value.float .f32) bs[k])).1
        rw [show n - k = bs.length - k from by rw [Hn.out], fill_step (Value.float .f32) (.float .f32 0) bs k hkl, Hn.out] at hs
        have hb2 := hb.setCell (p := ⟨w.heap.size, k, none⟩) (Nat.le_refl _) ((Value.float .f32) bs[k])
        have HS := Lib.hid hs; clear hs
        have HB2 := Lib.hid hb2; clear hb2
        clear HO HB
        go_wp2
        go_roundw
        case rel => exact ⟨k + 1, by omega, by go_num, HS.out, HB2.out⟩
        case measure => simp [intOf]; omega
      · go_wp2
        go_ret
        have : k = n := by omega
        subst this
        rw [List.take_of_length_le (by rw [Hn.out]; omega), Nat.sub_self, List.replicate_zero, List.append_nil] at ho
        exact ⟨rfl, ho, hb⟩

set_option maxHeartbeats 1000000 in
theorem sameFloat_nan (a b : Nat) (w : World) (ha : nanF .f64 a = true) (hb : nanF .f64 b = true) :
    Calls Try.prog 74 #[.float .f64 a, .float .f64 b] w fun e w' => e = .returned (.bool true) ∧ w' = w := by
  have h1 := (order_nan ha a).1
  have h2 := (order_nan hb b).1
  clear ha hb
  go_enter Try.func74, Try.ntmps74
  go_wp2
  go_ret
  exact ⟨rfl, rfl⟩
set_option maxHeartbeats 1000000 in
theorem sameFloat_self (a : Nat) (w : World) (ha : nanF .f64 a = false) :
    Calls Try.prog 74 #[.float .f64 a, .float .f64 a] w fun e w' => e = .returned (.bool true) ∧ w' = w := by
  have h1 := order_self ha
  cases h0 : (FloatKind.f64.format.order a 0 == some .eq)
  · clear ha
    go_enter Try.func74, Try.ntmps74
    go_wp2
    go_ret
    exact ⟨rfl, rfl⟩
  · obtain ⟨r, hr⟩ := one_div_zero (a := a) (by simpa using h0)
    have hq : ∀ t w, (binOp .quo t (.float .f64 4607182418800017408) (.float .f64 a)).run Try.prog w = .ok (.float .f64 r) w := fun t w => run_float_arith w .quo t .f64 _ _ r hr
    clear ha hr
    go_enter Try.func74, Try.ntmps74
    go_wp2
    go_ret
    exact ⟨rfl, rfl⟩

set_option maxHeartbeats 4000000 in
theorem eqFloat32S_same (A A' : Option Addr) (n c n' c' : Nat) (xs : List Nat) (w : World) (hn : xs.length = n) (hn' : xs.length = n') (hc : n ≤ 140737488351232)
    (hr : Rd w w.heap.size A (xs.map (Value.float .f32))) (hr' : Rd w w.heap.size A' (xs.map (Value.float .f32))) :
    Calls Try.prog 62 #[.slice A n c, .slice A' n' c'] w fun e w' => e = .returned (.bool true) ∧ Below w.heap.size w w' := by
  obtain rfl : n = n' := by omega
  have Hn := Lib.hid hn; clear hn hn'
  have Hr := Lib.hid hr; clear hr
  have Hr' := Lib.hid hr'; clear hr'
  go_enter Try.func62, Try.ntmps62
  go_wp2
  go_loopw [5] (fun i wr => ∃ k : Nat, k ≤ n ∧ i = .int .i64 k ∧ Below w.heap.size w wr) (fun i _ => n - (intOf i).toNat)
  case atStart => exact ⟨0, Nat.zero_le _, rfl, Below.refl _ _⟩
  case round =>
    obtain ⟨k, hk, rfl, hb⟩ := hrel
    have HB := Lib.hid hb; clear hb
    by_cases hlt : k < n
    · have hka : k < xs.length := by rw [Hn.out]; exact hlt
      obtain ⟨ad, rfl, hab, hcell⟩ := (Hr.out.below HB.out).at_ (k := k) (by rw [List.length_map]; exact hka)
      obtain ⟨ad', rfl, hab', hcell'⟩ := (Hr'.out.below HB.out).at_ (k := k) (by rw [List.length_map]; exact hka)
      rw [List.getElem_map] at hcell hcell'
      obtain ⟨x, hx⟩ : ∃ x, x = xs[k] := ⟨_, rfl⟩
      rw [← hx] at hcell hcell'
      clear hx
      cases hq : nanF .f32 x
      · obtain ⟨r, hr, hrn⟩ := widen x hq
        have hcv : ∀ w, (convert 43 88 (.float .f32 x)).run Try.prog w = .ok (.float .f64 r) w := fun w => run_convert_float_float w 43 88 .f32 .f64 x r (by rw [Try.underlying43]; rfl) Try.underlying88 hr
        have HC := Lib.hid (fun W => sameFloat_self r W hrn)
        clear hq hr hrn
        go_wp2
        go_quiet ((go_at_call 74; exact Calls.quiet_of_same (HC.out _)))
        go_wp2
        go_roundw
        case rel => exact ⟨k + 1, by omega, by go_num, below_drewN HB.out _⟩
        case measure => simp [intOf]; omega
      · obtain ⟨f, hf⟩ := Classical.skolem.1 (fun W => run_conv_nan (P := Try.prog) W 43 88 .f32 .f64 x (by rw [Try.underlying43]; rfl) Try.underlying88 (by decide) hq)
        have hcv : ∀ W, (convert 43 88 (.float .f32 x)).run Try.prog W = .ok (.float .f64 (f W)) W.drew := fun W => (hf W).1
        have HC := Lib.hid (fun W1 W2 W => sameFloat_nan (f W1) (f W2) W (hf W1).2 (hf W2).2)
        clear hq hf
        go_wp2
        go_region_with ((go_at_call 74; refine (HC.out _ _ _).mono ?_; rintro e w' ⟨rfl, rfl⟩))
        all_goals
          go_wp2
          go_roundw
          case rel => exact ⟨k + 1, by omega, by go_num, by repeat (first | exact HB.out | apply Below.drew)⟩
          case measure => simp [intOf]; omega
    · go_wp2
      go_ret
      exact ⟨rfl, HB.out⟩

/-- the mark of place i, from k on -/
def mkF (k : Nat) (i : Nat) : Value := .float .f32 (floatOfInt .f32 ((k : Int) + (i : Int)))
set_option maxHeartbeats 1000000 in
theorem markFloat32S_any (A : Option Addr) (n c k B : Nat) (xs : List Value) (w : World) (hk : k + n ≤ 1099511627776) (ho : w.ownsRow B 43 1 (.slice A n c) n xs) :
    Calls Try.prog 63 #[.slice A n c, .int .i64 k] w fun e w' => e = .returned (.int .i64 ((k + n : Nat) : Int)) ∧ w'.ownsRow B 43 1 (.slice A n c) n ((List.range n).map (mkF k)) ∧ w.grownBy w' (Value.slice A n c).ownBlock := by
  have hxl : xs.length = n := by have := ho.1; omega
  have Hx := Lib.hid hxl; clear hxl
  have hst := fun (a : Addr) (n : Nat) (m : Mode) (w : World) => run_store Try.prog w a (.float .f32 n) m rfl
  have hcv := fun (n : Int) (w : World) => run_convert_int_float (P := Try.prog) w 3 43 .i64 .f32 n (by rw [Try.underlying3]; rfl) Try.underlying43
  go_enter Try.func63, Try.ntmps63
  go_wp2
  go_loopw [1, 5] (fun kk i wr => ∃ j : Nat, j ≤ n ∧ i = .int .i64 j ∧ kk = .int .i64 ((k + j : Nat) : Int) ∧ wr.ownsRow B 43 1 (.slice A n c) n ((List.range j).map (mkF k) ++ xs.drop j) ∧ w.grownBy wr (Value.slice A n c).ownBlock) (fun _ i _ => n - (intOf i).toNat)
  case atStart => exact ⟨0, Nat.zero_le _, rfl, rfl, by simpa using ho, World.grownBy.refl _ _⟩
  case round =>
    obtain ⟨j, hj, rfl, rfl, hr, hg⟩ := hrel
    by_cases hlt : j < n
    · obtain ⟨g, rfl⟩ : ∃ g, A = some ⟨g, 0, none⟩ := by
        rcases hr.2 with ⟨hv, hn⟩ | ⟨g, cap, cur, hv, _⟩
        · omega
        · exact ⟨g, by injection hv⟩
      have hjx : j < xs.length := by rw [Hx.out]; exact hlt
      have hc : wr.cell? ⟨g, j, none⟩ = some xs[j] := by
        rw [hr.cellAt j (by omega), List.getElem?_append_right (by simp)]
        simp [List.getElem?_eq_getElem hjx]
      have hf := hr.frozenAt j
      have hs := hr.stored j (mkF k j)
      have HS := Lib.hid hs.1
      have HG := Lib.hid (World.grownBy.trans' hg hs.2)
      rw [fillF_step _ _ _ hjx] at HS
      unfold mkF at HG
      have hkj : ((k + j : Nat) : Int) = (k : Int) + (j : Int) := by omega
      rw [hkj]
      clear hs hg hr hkj
      go_wp2
      go_roundw
      case rel => exact ⟨j + 1, by omega, by go_num, by go_num, by (have := HS.out; unfold mkF at this ⊢; exact this), HG.out⟩
      case measure => simp [intOf]; omega
    · have hjn : j = n := by omega
      subst hjn
      rw [List.drop_eq_nil_of_le (by rw [Hx.out]; omega), List.append_nil] at hr
      go_wp2
      go_ret
      exact ⟨rfl, hr, hg⟩
end Go.Proofs.Ytbefcfdmaafghaa
