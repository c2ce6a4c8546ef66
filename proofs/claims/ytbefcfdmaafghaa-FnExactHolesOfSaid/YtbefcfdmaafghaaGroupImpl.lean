/- Groups of cells, the program's way: a stack of the cells whose sides have yet to be looked at. -/
import Derived.Test.YtbefcfdmaafghaaRepeatI
import Derived.Test.YtbefcfdmaafghaaGrowImpl
import Derived.Test.YtbefcfdmaafghaaFlood
import Derived.Deep.LoopGhost
import Derived.Maps.AppendAt
import Derived.Outline
namespace Go.Proofs.Ytbefcfdmaafghaa
open Go.RowKit
/-- cell x is not full -/
def freeB (bs : List Bool) (x : Int) : Bool := !full bs x
set_option maxHeartbeats 1000000 in
theorem holeFn_any (x wd hg : Int) (b : Nat) (A : Option Addr) (n c : Nat) (bs : List Bool) (W : World) (hx : FBox W b wd hg (.slice A n c)) (hn : bs.length = n) (hr : Rd W W.heap.size A (bs.map Value.bool)) (h0 : 0 ≤ x) (h1 : x < n) :
    Calls Try.prog 112 #[.int .i64 x, .pointer (some ⟨b, 0, none⟩)] W fun e w' => e = .returned (.bool (freeB bs x)) ∧ W = w' := by
  obtain ⟨k0, k1, k2⟩ := hx
  obtain ⟨hxl, hxf⟩ := full_get (bs := bs) hn h0 h1
  obtain ⟨ad, rfl, _, hz⟩ := hr.at_ (k := x.toNat) (by simpa using hxl)
  rw [List.getElem_map, ← hxf] at hz
  unfold freeB
  clear hxf hxl hr hn
  cases hb : full bs x
  · rw [hb] at hz
    clear hb
    go_enter Try.func112, Try.ntmps112
    go_wp2
    go_ret
    exact ⟨rfl, rfl⟩
  · rw [hb] at hz
    clear hb
    go_enter Try.func112, Try.ntmps112
    go_wp2
    go_ret
    exact ⟨rfl, rfl⟩
/-- the contract of a question about a cell: it leaves the world as it was -/
def FullC (w : World) (g : Nat) (lb : Array Value) (fr : Int → Bool) (n : Nat) : Prop := ∀ (W : World) (x : Int), 0 ≤ x → x < n → Below w.heap.size w W →
  Calls Try.prog g (#[(Value.int .i64) x] ++ lb) W fun e w' => e = .returned (.bool (fr x)) ∧ W = w'
/-- e gives the groups' numbers, and as many counts as there are groups -/
def GivesGr (B n : Nat) (r : List Int × Nat) (e : Ending) (w' : World) : Prop :=
  ∃ A c A' c', e = .returned (.tuple #[.slice A n c, .slice A' r.2 c']) ∧ w'.ownsRow B 2 1 (.slice A n c) n (r.1.map (Value.int .i64))
theorem own_of_heap {w : World} {G B n : Nat} {t : TypeId} {xs : List Value} (h : w.heap[G]? = some (.cells xs.toArray t (0, 0))) (hB : B ≤ G) (hl : xs.length = n) (hn : n ≤ maxLen) : w.ownsRow B t 1 (.slice (some ⟨G, 0, none⟩) n n) n xs :=
  ⟨by omega, .inr ⟨G, n, xs.toArray, rfl, hB, h, Nat.le_refl _, hn, by simp [hl], by rw [Nat.mul_one, List.take_of_length_le (by simp; omega)]⟩⟩
theorem own_pop {w : World} {B g m cp : Nat} {t : TypeId} {xs : List Value} {u : Value} (h : w.ownsRow B t 1 (.slice (some ⟨g, 0, none⟩) (m + 1) cp) (m + 1) (xs ++ [u])) : w.ownsRow B t 1 (.slice (some ⟨g, 0, none⟩) m cp) m xs := by
  obtain ⟨h1, h2⟩ := h
  have hl : xs.length = m := by simp at h1; omega
  rcases h2 with ⟨h0, _⟩ | ⟨g', cap', cur, hv, hg, hh, hn, hcap, hsz, htake⟩
  · cases h0
  · cases hv
    refine ⟨by omega, .inr ⟨g, cp, cur, rfl, hg, hh, by omega, hcap, hsz, ?_⟩⟩
    have h3 : (cur.toList.take ((m + 1) * 1)).take (m * 1) = (xs ++ [u]).take (m * 1) := by rw [htake]
    rw [List.take_take, Nat.min_eq_left (by omega)] at h3
    rw [h3, Nat.mul_one, ← hl, List.take_left]
/-- a row that holds something lies in a block -/
theorem own_some {w : World} {B n : Nat} {t : TypeId} {v : Value} {xs : List Value} (h : w.ownsRow B t 1 v n xs) (hn : 0 < n) : ∃ g cp, v = .slice (some ⟨g, 0, none⟩) n cp ∧ n ≤ cp ∧ cp ≤ maxLen ∧ B ≤ g ∧ g < w.heap.size := by
  rcases h.2 with ⟨_, h0⟩ | ⟨g, cap, cur, rfl, hb, hg, h1, h2, _⟩
  · omega
  · exact ⟨g, cap, rfl, h1, h2, hb, (Array.getElem?_eq_some_iff.1 hg).1⟩
/-- a store of an int into a row -/
theorem setI_stored {w : World} {B g n cp : Nat} {xs : List Int} {j : Nat} {x : Int} (h : w.ownsRow B 2 1 (.slice (some ⟨g, 0, none⟩) n cp) n (xs.map (Value.int .i64))) :
    (w.setCell ⟨g, j, none⟩ (.int .i64 x)).ownsRow B 2 1 (.slice (some ⟨g, 0, none⟩) n cp) n ((xs.set j x).map (Value.int .i64)) ∧ w.grownBy (w.setCell ⟨g, j, none⟩ (.int .i64 x)) (some g) := by
  have hs := h.stored j (.int .i64 x)
  refine ⟨?_, hs.2⟩
  have h1 := hs.1
  rw [← List.map_set] at h1
  exact h1
theorem ownI_cell {w : World} {B g n cp : Nat} {xs : List Int} {j : Nat} (h : w.ownsRow B 2 1 (.slice (some ⟨g, 0, none⟩) n cp) n (xs.map (Value.int .i64))) (hj : j < n) (hl : xs.length = n) : w.cell? ⟨g, j, none⟩ = some (.int .i64 (xs.getD j 0)) := by
  rw [h.cellAt j (by omega), List.getElem?_map, List.getD_eq_getElem?_getD, List.getElem?_eq_getElem (by omega)]
  rfl
theorem ownI_off {w : World} {B : Nat} {e : TypeId} {v : Value} {n : Nat} {xs : List Value} (h : w.ownsRow B e 1 v n xs) : ∀ q, q < B → some q ≠ v.ownBlock := fun q hq he => by
  have := (h.lt q he.symm).1
  omega
theorem ownI_one (w : World) (x : Int) (B : Nat) (hB : B ≤ w.heap.size) : (w.alloc (.cells #[.int .i64 x] 2)).ownsRow B 2 1 (.slice (some ⟨w.heap.size, 0, none⟩) 1 1) 1 ([x].map (Value.int .i64)) :=
  ⟨rfl, .inr ⟨w.heap.size, 1, #[.int .i64 x], rfl, hB, heap_alloc_new w _, Nat.le_refl _, by unfold maxLen; omega, rfl, rfl⟩⟩
theorem noL_nat {o : List Int} {k : Nat} {b : Bool} (h : decide (o.getD k 0 < 0) = b) : noL o (k : Int) = b := by
  unfold noL
  exact h
/-- what the visits of one cell's sides make, side by side -/
def visitsK (fr : Int → Bool) (c : Int) (nbs : List Int) (s : List Int × List Int) (j : Nat) : List Int × List Int := (nbs.take j).foldl (visit fr c) s

set_option maxHeartbeats 8000000 in
set_option maxRecDepth 100000 in
theorem grouped_any (wd hg : Int) (n g : Nat) (lb : Array Value) (fr : Int → Bool) (w : World) (eg : ∀ args w, (callFunc g args).run Try.prog w = .ok (.enter g args) w)
    (h1 : 1 ≤ wd) (h2 : wd ≤ 16) (h3 : 1 ≤ hg) (h4 : hg ≤ 16) (h5 : (n : Int) = wd * hg) (hp : FullC w g lb fr n) :
    Calls Try.prog 111 #[.int .i64 wd, .int .i64 hg, .func (.func g) #[] lb] w fun e w' => GivesGr w.heap.size n (grp (nb wd hg) fr n n) e w' ∧ Below w.heap.size w w' := by
  obtain ⟨q1, q2⟩ := prod_bd h1 h2 h3 h4
  have n0 : 0 < n := by omega
  have n1 : n ≤ 256 := by omega
  obtain ⟨i0, hi, hz0, hz1, hz2⟩ := info_parts Try.info2
  have HP := Lib.hid hp
  have H5 := Lib.hid h5
  have hwr : IntKind.i64.wrap (wd * hg) = (n : Int) := by rw [← h5]; exact IntWalk.i64_in _ (by omega)
  obtain ⟨W0, hW0⟩ : ∃ W0, W0 = w.alloc (.cells #[.int .i64 (-1)] 2) := ⟨_, rfl⟩
  have z0 : W0.heap.size = w.heap.size + 1 := by rw [hW0]; simp
  have B0 : Hid (Below w.heap.size w W0) := Lib.hid (by rw [hW0]; exact below_new w _)
  have CR := repeatI_any w.heap.size (-1) n W0 (by omega) (by omega) (by rw [hW0]; simp [go_sem])
  have HCR := Lib.hid CR
  have HNB : Hid (∀ a : Int, 0 ≤ a → a < n → ∀ x ∈ nb wd hg a, 0 ≤ x ∧ x < n) := Lib.hid (fun a a0 a1 x hx => by have := nb_mem (hg := hg) h1 a0 (by omega) x hx; omega)
  clear CR hp h5
  go_enter Try.func111, Try.ntmps111
  go_wp2_with fail
  rw [← hW0]
  refine HCR.out.mono ?_
  rintro e w1 ⟨rfl, hh, hb1⟩
  have O1 := Lib.hid (own_of_heap (B := w.heap.size) (n := n) hh (by omega) (by simp) (by unfold maxLen; omega))
  have B1 := Lib.hid (B0.out.trans (hb1.mono B0.out.size))
  have hz1' : W0.heap.size < w1.heap.size := (O1.out.lt _ rfl).2
  clear hh hb1 hW0
  have hGw : w.heap.size < W0.heap.size := by omega
  clear z0 HCR
  go_wp2_with fail
  obtain ⟨G, hG⟩ : ∃ G, G = W0.heap.size := ⟨_, rfl⟩
  rw [← hG] at O1 hz1' hGw ⊢
  have O2 := Lib.hid (O1.out.alloc (.cells #[] 2))
  have B2 := Lib.hid (B1.out.alloc (by omega) (.cells #[] 2))
  have N2 := Lib.hid (own_nil_made w1 2 w1.heap.size (Nat.le_refl _))
  have hw01 : w.heap.size < w1.heap.size := by omega
  clear B0 hG O1 B1 W0
  go_loopw [9, 25] (fun v i wr => ∃ (k : Nat) (xs : List Int), k ≤ n ∧ i = .int .i64 k ∧ xs.length = (grp (nb wd hg) fr n k).2 ∧ wr.ownsRow w1.heap.size 2 1 v xs.length (xs.map (Value.int .i64)) ∧ wr.ownsRow w.heap.size 2 1 (.slice (some ⟨G, 0, none⟩) n n) n ((grp (nb wd hg) fr n k).1.map (Value.int .i64)) ∧ Below w.heap.size w wr ∧ w1.heap.size < wr.heap.size) (fun _ i _ => n - (intOf i).toNat)
  case atStart => exact ⟨0, [], Nat.zero_le _, rfl, rfl, N2.out, by simpa [grp] using O2.out, B2.out, by simp⟩
  case round =>
    obtain ⟨k, xs, hk, rfl, hxs, hv, ho, hb, hzr⟩ := hrel
    obtain ⟨wo, rfl⟩ : ∃ wo : World, wo = wr := ⟨_, rfl⟩
    have HV := Lib.hid hv
    have HO := Lib.hid ho
    have HB := Lib.hid hb
    have HXS := Lib.hid hxs
    have hxn : xs.length ≤ k := by rw [hxs]; exact grp_le _ _ _ _
    have hol : (grp (nb wd hg) fr n k).1.length = n := grp_len _ _ _ _
    have HOL := Lib.hid hol
    clear hv ho hb hxs hol
    by_cases hlt : k < n
    · have hcO := ownI_cell (j := k) HO.out hlt HOL.out
      have hcall := HP.out wo k (by omega) (by omega) HB.out
      obtain ⟨xk, hxk⟩ : ∃ xk, xk = (grp (nb wd hg) fr n k).1.getD k 0 := ⟨_, rfl⟩
      rw [← hxk] at hcO
      cases hfk : fr (k : Int)
      · have HS := Lib.hid (grp_no (nbf := nb wd hg) (n := n) (k := k) (.inl hfk))
        rw [hfk] at hcall
        have HCL := Lib.hid hcall
        clear hcall hfk hxk hcO
        go_wp2_with (go_at_fn g; refine HCL.out.mono ?_; rintro e w' ⟨rfl, rfl⟩)
        go_wp2
        go_roundw
        case rel => exact ⟨k + 1, xs, by omega, by go_num, by rw [HS.out]; exact HXS.out, HV.out, by rw [HS.out]; exact HO.out, HB.out, hzr⟩
        case measure => simp [intOf]; omega
      · rw [hfk] at hcall
        have HCL := Lib.hid hcall
        clear hcall
        by_cases hneg : xk < 0
        · have hnl : noL (grp (nb wd hg) fr n k).1 (k : Int) = true := noL_nat (by rw [← hxk]; simpa using hneg)
          have HS : Hid (grp (nb wd hg) fr n (k + 1) = (fillC (nb wd hg) fr (grp (nb wd hg) fr n k).1 k xs.length, xs.length + 1)) := Lib.hid (by rw [HXS.out]; exact grp_yes hfk hnl)
          have HNL := Lib.hid hnl
          have hd0 : decide (0 ≤ xk) = false := by simpa using hneg
          obtain ⟨Av, cv, rfl, hrv⟩ := own_shape HV.out
          clear hfk hxk hnl hrv
          go_wp2_with (first | (go_at_fn g; refine HCL.out.mono ?_; rintro e w' ⟨rfl, rfl⟩) | (at_builtin; go_must (refine wpList_append_own _ rfl (.tmp 41) (.tmp 42) 66 rfl w1.heap.size 2 i0 (.int .i64 0) 1 8 Try.underlying66 hi hz0 hz1 hz2 rfl (by decide) _ _ _ rfl (HV.out.alloc _) ⟨wo.heap.size, 0, none⟩ 1 1 [.int .i64 0] rfl rfl (new1 wo _ 2) (one1 _ _) ?_ ?_ ?_ ?_)))
          · unfold maxLen; omega
          · omega
          · simp; omega
          intro v9 w7 hown' hgrow _
          have hV7 := own_app1 hown'
          obtain ⟨g9, cp9, rfl, hcp9, hcm9, hg9a, hg9b⟩ := own_some hV7 (by simp)
          obtain ⟨ys0, hys0⟩ : ∃ ys0 : List Int, ys0 = xs ++ [0] := ⟨_, rfl⟩
          have hyl : ys0.length = xs.length + 1 := by rw [hys0]; simp
          rw [← hys0, hyl] at hV7 hcp9
          have HV7 := Lib.hid hV7
          have HYL := Lib.hid hyl
          have hob := ownI_off HV.out
          have hO7 := (HO.out.alloc (.cells #[.int .i64 0] 2)).kept hgrow (.inr fun he => hob G (by omega) (by rw [← he]; rfl))
          have HO7 := Lib.hid hO7
          have HB7 := Lib.hid ((HB.out.alloc (by omega) (.cells #[.int .i64 0] 2)).grown hgrow (by simp; omega) (fun q hq => by have := (HV.out.lt q hq).1; omega))
          have hz7 : w1.heap.size < w7.heap.size := by have := hgrow.size; simp at this; omega
          have hc7 := ownI_cell (j := k) HO7.out hlt HOL.out
          have hf7 := HO7.out.frozenAt k
          rw [← hys0, hyl]
          clear hown' hgrow hO7 hob hcO hV7 hys0 hyl
          go_wp2_with fail
          obtain ⟨W8, hW8⟩ : ∃ W8, W8 = (w7.setCell ⟨G, k, none⟩ (.int .i64 xs.length)).alloc (.cells #[.int .i64 k] 2) := ⟨_, rfl⟩
          rw [← hW8]
          have hs7 : (w7.setCell ⟨G, k, none⟩ (.int .i64 xs.length)).heap.size = w7.heap.size := World.size_setCell ..
          have hst := setI_stored (j := k) (x := (xs.length : Int)) HO7.out
          have O8 : Hid (W8.ownsRow w.heap.size 2 1 (.slice (some ⟨G, 0, none⟩) n n) n (((grp (nb wd hg) fr n k).1.set k xs.length).map (Value.int .i64))) := Lib.hid (by rw [hW8]; exact hst.1.alloc _)
          have V8 : Hid (W8.ownsRow w1.heap.size 2 1 (.slice (some ⟨g9, 0, none⟩) (xs.length + 1) cp9) (xs.length + 1) (ys0.map (Value.int .i64))) := Lib.hid (by rw [hW8]; exact (HV7.out.kept hst.2 (.inr fun he => ownI_off HV7.out G (by omega) he.symm)).alloc _)
          have L8 : Hid (W8.ownsRow w7.heap.size 2 1 (.slice (some ⟨w7.heap.size, 0, none⟩) 1 1) ([(k : Int)] : List Int).length (([(k : Int)] : List Int).map (Value.int .i64))) := Lib.hid (by
            have h := ownI_one (w7.setCell ⟨G, k, none⟩ (.int .i64 xs.length)) k w7.heap.size (by omega)
            rw [hs7] at h
            rw [hW8]; exact h)
          have B8 : Hid (Below w.heap.size w W8) := Lib.hid (by rw [hW8]; exact (HB7.out.setCell (p := ⟨G, k, none⟩) (by show w.heap.size ≤ G; omega) _).alloc (by rw [hs7]; omega) _)
          have hz8 : w7.heap.size < W8.heap.size := by rw [hW8]; simp [hs7]
          obtain ⟨O, hO⟩ : ∃ O, O = (grp (nb wd hg) fr n k).1 := ⟨_, rfl⟩
          rw [← hO] at O8 HNL HOL HS
          have hF0 : Flood (nb wd hg) fr O k xs.length (O.set k xs.length) [(k : Int)] := flood_start (by omega) HNL.out (by omega)
          have HF0 := Lib.hid hF0
          have hun : unl (O.set k xs.length) + 1 = unl O := unl_set (k := (k : Int)) HNL.out (by omega)
          have hun2 : unl (O.set k xs.length) + 1 ≤ n := by have := unl_le O; have := HOL.out; omega
          clear hW8 hs7 hst hc7 hf7 hO hF0 HV HO HV7 HO7 HB7 HB hun
          go_loopg [12] (unl (O.set k xs.length) + 1) (fun gk v wx => ∃ (o op ys : List Int), Hid (gk = unl o + op.length) ∧ unl o + op.length ≤ n ∧ Hid (Flood (nb wd hg) fr O k xs.length o op) ∧ Hid (ys.length = xs.length + 1) ∧ wx.ownsRow w7.heap.size 2 1 v op.length (op.map (Value.int .i64)) ∧ wx.ownsRow w.heap.size 2 1 (.slice (some ⟨G, 0, none⟩) n n) n (o.map (Value.int .i64)) ∧ wx.ownsRow w1.heap.size 2 1 (.slice (some ⟨g9, 0, none⟩) (xs.length + 1) cp9) (xs.length + 1) (ys.map (Value.int .i64)) ∧ Below w.heap.size w wx ∧ w7.heap.size < wx.heap.size)
          case atStart => exact ⟨_, [(k : Int)], ys0, Lib.hid rfl, hun2, HF0, HYL, L8.out, O8.out, V8.out, B8.out, hz8⟩
          case round =>
            obtain ⟨o, op, ys, HG, hgn, HF, HY, hl, ho, hv, hb, hzx⟩ := hrel
            have HL := Lib.hid hl
            have HO := Lib.hid ho
            have HV := Lib.hid hv
            have HB := Lib.hid hb
            obtain ⟨wp, rfl⟩ : ∃ wp : World, wp = wr := ⟨_, rfl⟩
            clear hl ho hv hb
            rcases List.eq_nil_or_concat op with rfl | ⟨op', a, rfl⟩
            · obtain ⟨A2, c2, rfl, _⟩ := own_shape HL.out
              have HFE := Lib.hid (flood_end (by omega) HNL.out (by omega) (fun j j0 j1 => by rw [HOL.out]; exact HNB.out j j0 (by rw [HOL.out] at j1; exact j1)) HF.out)
              simp only [List.length_nil] at HL hgn ⊢
              go_wp2
              go_roundw
              case rel => exact ⟨k + 1, ys, by omega, by go_num, by rw [HS.out]; exact HY.out, by rw [HY.out]; exact HV.out, by rw [HS.out, ← HFE.out]; exact HO.out, HB.out, by omega⟩
              case measure => simp [intOf]; omega
            · rw [List.concat_eq_append] at HL HF HG hgn
              obtain ⟨go, cpo, rfl, hco, hcom, hgo1, hgo2⟩ := own_some HL.out (by simp)
              have hll : (op' ++ [a]).length = op'.length + 1 := by simp
              have HL2 : Hid (wp.ownsRow w7.heap.size 2 1 (.slice (some ⟨go, 0, none⟩) (op'.length + 1) cpo) (op'.length + 1) (op'.map (Value.int .i64) ++ [.int .i64 a])) := Lib.hid (by have h := HL.out; rw [hll, List.map_append] at h; exact h)
              rw [hll] at hco hgn ⊢
              have HPOP := Lib.hid (own_pop HL2.out)
              have hca : wp.cell? ⟨go, op'.length, none⟩ = some (.int .i64 a) := by rw [HL2.out.cellAt op'.length (by omega)]; simp
              obtain ⟨a0, a1, _, _⟩ := HF.out.pends a (by simp)
              rw [HOL.out] at a1
              have hcv := ownI_cell (j := xs.length) HV.out (by omega) HY.out
              have hfv := HV.out.frozenAt xs.length
              obtain ⟨y, hy⟩ : ∃ y, y = ys.getD xs.length 0 := ⟨_, rfl⟩
              rw [← hy] at hcv
              have CN := neighbours_any wd hg a (wp.setCell ⟨g9, xs.length, none⟩ (.int .i64 (wrap64 (y + 1)))) h1 h2 h3 h4 a0 (by rw [← H5.out]; exact a1)
              have HCN := Lib.hid CN
              have hcpi : op'.length + 1 ≤ cpo := hco
              clear hll HL hy CN hco
              unfold maxLen at hcom
              go_wp2_with fail
              refine HCN.out.mono ?_
              rintro e w9 ⟨⟨vn, rfl, hon⟩, hb9⟩
              obtain ⟨An, cn, rfl, _⟩ := own_shape hon
              have hsv := setI_stored (j := xs.length) (x := wrap64 (y + 1)) HV.out
              have O9 := Lib.hid (own_next (HO.out.kept hsv.2 (.inr fun he => by have h : G = g9 := Option.some.inj he; omega)) hb9)
              have L9 := Lib.hid (own_next (HPOP.out.kept hsv.2 (.inr fun he => by have h : go = g9 := Option.some.inj he; omega)) hb9)
              have V9 := Lib.hid (own_next hsv.1 hb9)
              have hsz9 : (wp.setCell ⟨g9, xs.length, none⟩ (.int .i64 (wrap64 (y + 1)))).heap.size = wp.heap.size := World.size_setCell ..
              rw [hsz9] at hon hb9
              have hzz9 := hb9.size
              rw [hsz9] at hzz9
              have B9 := Lib.hid ((HB.out.setCell (p := ⟨g9, xs.length, none⟩) (by show w.heap.size ≤ g9; omega) (.int .i64 (wrap64 (y + 1)))).trans (hb9.mono (by omega)))
              have N9 := Lib.hid hon
              have HYS : Hid ((ys.set xs.length (wrap64 (y + 1))).length = xs.length + 1) := Lib.hid (by rw [List.length_set]; exact HY.out)
              obtain ⟨zs, hzs⟩ : ∃ zs, zs = ys.set xs.length (wrap64 (y + 1)) := ⟨_, rfl⟩
              rw [← hzs] at V9 HYS
              have hnl := nb_le wd hg a
              have HM := Lib.hid (HNB.out a a0 a1)
              have hNE : (Value.slice An (nb wd hg a).length cn).ownBlock = none ∨ (Value.slice An (nb wd hg a).length cn).ownBlock ≠ (Value.slice (some ⟨go, 0, none⟩) op'.length cpo).ownBlock := .inr fun he => by
                have := (hon.lt go he).1
                omega
              have HNE := Lib.hid hNE
              obtain ⟨S, hS⟩ : ∃ S : Nat → List Int × List Int, S = fun j => ((nb wd hg a).take j).foldl (visit fr xs.length) (o, op') := ⟨_, rfl⟩
              have HS0 : Hid (S 0 = (o, op')) := Lib.hid (by rw [hS]; rfl)
              have HSS : Hid (∀ j (h : j < (nb wd hg a).length), S (j + 1) = visit fr xs.length (S j) (nb wd hg a)[j]) := Lib.hid (fun j h => by rw [hS]; exact visits_snoc _ _ _ _ _ h)
              have HSL : Hid (∀ j, (S j).1.length = n) := Lib.hid (fun j => by rw [hS]; show (List.foldl (visit fr xs.length) (o, op') ((nb wd hg a).take j)).1.length = n; rw [visits_len]; show o.length = n; rw [HF.out.len]; exact HOL.out)
              have HSU : Hid (∀ j, unl (S j).1 + (S j).2.length = unl o + op'.length) := Lib.hid (fun j => by rw [hS]; exact visits_sum (by omega) _ _)
              have hF1 : Flood (nb wd hg) fr O k xs.length o (a :: op') := HF.out.perm (fun x => by simp [or_comm])
              have HSE : Hid (Flood (nb wd hg) fr O k xs.length (S (nb wd hg a).length).1 (S (nb wd hg a).length).2) := Lib.hid (by rw [hS]; show Flood _ _ _ _ _ (List.foldl (visit fr xs.length) (o, op') ((nb wd hg a).take (nb wd hg a).length)).1 (List.foldl (visit fr xs.length) (o, op') ((nb wd hg a).take (nb wd hg a).length)).2; rw [List.take_of_length_le (Nat.le_refl _)]; exact flood_step (by omega) (fun x hx => by rw [HOL.out]; exact HM.out x hx) hF1)
              obtain ⟨nbs, hnbs⟩ : ∃ nbs, nbs = nb wd hg a := ⟨_, rfl⟩
              rw [← hnbs] at N9 hnl HM HNE HSS HSE ⊢
              have hgx : unl o + op'.length < n := by omega
              clear hon hb9 hsv hNE hS hF1 hnbs hzs hsz9 HV HO HL2 HPOP HF HB HY hcv hfv hca HCN
              go_wp2_with fail
              go_loopw [12, 75] (fun v i wy => ∃ j : Nat, j ≤ nbs.length ∧ i = .int .i64 j ∧ wy.ownsRow w7.heap.size 2 1 v (S j).2.length ((S j).2.map (Value.int .i64)) ∧ wy.ownsRow w.heap.size 2 1 (.slice (some ⟨G, 0, none⟩) n n) n ((S j).1.map (Value.int .i64)) ∧ wy.ownsRow w1.heap.size 2 1 (.slice (some ⟨g9, 0, none⟩) (xs.length + 1) cp9) (xs.length + 1) (zs.map (Value.int .i64)) ∧ wy.ownsRow wp.heap.size 2 1 (.slice An nbs.length cn) nbs.length (nbs.map (Value.int .i64)) ∧ Hid ((Value.slice An nbs.length cn).ownBlock = none ∨ (Value.slice An nbs.length cn).ownBlock ≠ v.ownBlock) ∧ Below w.heap.size w wy ∧ w7.heap.size < wy.heap.size) (fun _ i _ => nbs.length - (intOf i).toNat)
              case atStart => exact ⟨0, Nat.zero_le _, rfl, by rw [HS0.out]; exact L9.out, by rw [HS0.out]; exact O9.out, V9.out, N9.out, HNE, B9.out, by omega⟩
              case round =>
                obtain ⟨j, hj, rfl, hl, ho, hv, hn, HNEj, hb, hzy⟩ := hrel
                obtain ⟨wy, rfl⟩ : ∃ wy : World, wy = wr := ⟨_, rfl⟩
                have HL := Lib.hid hl
                have HO := Lib.hid ho
                have HV := Lib.hid hv
                have HN := Lib.hid hn
                have HB := Lib.hid hb
                have hsu := HSU.out j
                have hsl := HSL.out j
                have HSLj := Lib.hid hsl
                have hsj : (S j).2.length < n := by omega
                clear hl ho hv hn hb hsu hsl
                by_cases hjl : j < nbs.length
                · obtain ⟨ad, rfl, _, hcx⟩ := (Rd.own HN.out).at_ (k := j) (by simpa using hjl)
                  rw [List.getElem_map] at hcx
                  have hSj := HSS.out j hjl
                  obtain ⟨x0, x1⟩ := HM.out _ (List.getElem_mem hjl)
                  obtain ⟨x, hx⟩ : ∃ x, x = nbs[j] := ⟨_, rfl⟩
                  rw [← hx] at hcx hSj x0 x1
                  have hcall := HP.out wy x x0 x1 HB.out
                  cases hfx : fr x
                  · rw [visit_no (.inl hfx)] at hSj
                    have HSj := Lib.hid hSj
                    rw [hfx] at hcall
                    have HCL := Lib.hid hcall
                    clear hcall hfx hx hSj
                    go_wp2_with (go_at_fn g; refine HCL.out.mono ?_; rintro e w' ⟨rfl, rfl⟩)
                    go_wp2
                    go_roundw
                    case rel => exact ⟨j + 1, by omega, by go_num, by rw [HSj.out]; exact HL.out, by rw [HSj.out]; exact HO.out, HV.out, HN.out, HNEj, HB.out, hzy⟩
                    case measure => simp [intOf]; omega
                  · rw [hfx] at hcall
                    have HCL := Lib.hid hcall
                    have hcz := ownI_cell (j := x.toNat) HO.out (by omega) HSLj.out
                    obtain ⟨z, hz⟩ : ∃ z, z = (S j).1.getD x.toNat 0 := ⟨_, rfl⟩
                    rw [← hz] at hcz
                    clear hcall
                    by_cases hneg : z < 0
                    · have hnl : noL (S j).1 x = true := by unfold noL; rw [← hz]; simpa using hneg
                      rw [visit_yes hfx hnl] at hSj
                      have HSj := Lib.hid hSj
                      have hfz := HO.out.frozenAt x.toNat
                      have hst := setI_stored (j := x.toNat) (x := (xs.length : Int)) HO.out
                      have hsy : (wy.setCell ⟨G, x.toNat, none⟩ (.int .i64 xs.length)).heap.size = wy.heap.size := World.size_setCell ..
                      have HSY := Lib.hid hsy
                      have HOs := Lib.hid hst.1
                      have HLs := Lib.hid (HL.out.kept hst.2 (.inr fun he => ownI_off HL.out G (by omega) he.symm))
                      have HVs := Lib.hid (HV.out.kept hst.2 (.inr fun he => ownI_off HV.out G (by omega) he.symm))
                      have HNs := Lib.hid (HN.out.kept hst.2 (.inr fun he => ownI_off HN.out G (by omega) he.symm))
                      have HBs := Lib.hid (HB.out.setCell (p := ⟨G, x.toNat, none⟩) (by show w.heap.size ≤ G; omega) (.int .i64 xs.length))
                      have HN9 : Hid (∀ i u, [Value.int .i64 x][i]? = some u → ((wy.setCell ⟨G, x.toNat, none⟩ (.int .i64 xs.length)).alloc (.cells #[.int .i64 x] 2)).cell? ((⟨wy.heap.size, 0, none⟩ : Addr).add i) = some u) := Lib.hid (by
                        have h9 := new1 (wy.setCell ⟨G, x.toNat, none⟩ (.int .i64 xs.length)) (.int .i64 x) 2
                        rw [hsy] at h9
                        exact h9)
                      have HZ9 : Hid (w7.heap.size ≤ ((wy.setCell ⟨G, x.toNat, none⟩ (.int .i64 xs.length)).alloc (.cells #[.int .i64 x] 2)).heap.size) := Lib.hid (by rw [World.size_alloc, hsy]; omega)
                      clear hst hsy hSj hnl hz hx hfx
                      go_wp2_with (first | (go_at_fn g; refine HCL.out.mono ?_; rintro e w' ⟨rfl, rfl⟩) | (at_builtin; go_must (refine wpList_append_own_at _ rfl (.tmp 93) (.tmp 95) 66 rfl w7.heap.size 2 i0 (.int .i64 0) 1 8 Try.underlying66 hi hz0 hz1 hz2 rfl (by decide) _ _ _ rfl (HLs.out.alloc _) ⟨wy.heap.size, 0, none⟩ 1 1 [.int .i64 x] rfl rfl HN9.out (one1 _ _) ?_ ?_ HZ9.out ?_)))
                      · unfold maxLen; omega
                      · omega
                      intro v' w10 hown' hgrow _ hat'
                      have HE10 := Lib.hid (own_app1 hown')
                      have HO10 := Lib.hid ((HOs.out.alloc (.cells #[.int .i64 x] 2)).kept hgrow (.inr fun he => ownI_off HLs.out G (by omega) he))
                      have HV10 := Lib.hid ((HVs.out.alloc (.cells #[.int .i64 x] 2)).kept hgrow (.inr fun he => ownI_off HLs.out g9 (by omega) he))
                      have HN10 := Lib.hid ((HNs.out.alloc (.cells #[.int .i64 x] 2)).kept hgrow HNEj.out)
                      have hne10 : (Value.slice (some ad) nbs.length cn).ownBlock = none ∨ (Value.slice (some ad) nbs.length cn).ownBlock ≠ v'.ownBlock := by
                        rcases hat' with h | h
                        · rw [h]; exact HNEj.out
                        · rw [h]
                          right
                          intro he
                          have h2 := (HNs.out.lt _ he).2
                          rw [HSY.out] at h2
                          omega
                      have HNE10 := Lib.hid hne10
                      have HB10 := Lib.hid ((HBs.out.alloc (by rw [HSY.out]; omega) (.cells #[.int .i64 x] 2)).grown hgrow (by rw [World.size_alloc, HSY.out]; omega) (fun q hq => by have := (HLs.out.lt q hq).1; omega))
                      have hz10 : w7.heap.size < w10.heap.size := by have := hgrow.size; have h3 := HSY.out; rw [World.size_alloc] at this; omega
                      clear hown' hgrow hat' hne10
                      go_wp2
                      go_roundw
                      case rel => exact ⟨j + 1, by omega, by go_num, by rw [HSj.out]; exact HE10.out, by rw [HSj.out]; exact HO10.out, HV10.out, HN10.out, HNE10, HB10.out, hz10⟩
                      case measure => simp [intOf]; omega
                    · have hnl : noL (S j).1 x = false := by unfold noL; rw [← hz]; simpa using hneg
                      rw [visit_no (.inr hnl)] at hSj
                      have HSj := Lib.hid hSj
                      clear hnl hz hx hfx hSj
                      go_wp2_with (go_at_fn g; refine HCL.out.mono ?_; rintro e w' ⟨rfl, rfl⟩)
                      go_wp2
                      go_roundw
                      case rel => exact ⟨j + 1, by omega, by go_num, by rw [HSj.out]; exact HL.out, by rw [HSj.out]; exact HO.out, HV.out, HN.out, HNEj, HB.out, hzy⟩
                      case measure => simp [intOf]; omega
                · have hjn : j = nbs.length := by omega
                  have hsu := HSU.out nbs.length
                  subst hjn
                  obtain ⟨A2, c2, rfl, _⟩ := own_shape HL.out
                  have hgm : unl (S nbs.length).1 + (S nbs.length).2.length < gk := by have := HG.out; have hll : (op' ++ [a]).length = op'.length + 1 := by simp
                                                                                       omega
                  have HSU1 := Lib.hid hsu
                  have HGM := Lib.hid hgm
                  clear hsu hgm
                  go_wp2
                  go_roundg (unl (S nbs.length).1 + (S nbs.length).2.length)
                  case measure => exact HGM.out
                  case rel => exact ⟨(S nbs.length).1, (S nbs.length).2, zs, Lib.hid rfl, by rw [HSU1.out]; omega, HSE, HYS, HL.out, HO.out, HV.out, HB.out, hzy⟩
        · have hnl : noL (grp (nb wd hg) fr n k).1 (k : Int) = false := noL_nat (by rw [← hxk]; simpa using hneg)
          have HS := Lib.hid (grp_no (nbf := nb wd hg) (n := n) (k := k) (.inr hnl))
          clear hfk hxk hnl
          go_wp2_with (go_at_fn g; refine HCL.out.mono ?_; rintro e w' ⟨rfl, rfl⟩)
          go_wp2
          go_roundw
          case rel => exact ⟨k + 1, xs, by omega, by go_num, by rw [HS.out]; exact HXS.out, HV.out, by rw [HS.out]; exact HO.out, HB.out, hzr⟩
          case measure => simp [intOf]; omega
    · have hkn : k = n := by omega
      subst hkn
      obtain ⟨A2, c2, rfl, _⟩ := own_shape HV.out
      go_wp2
      go_ret2
      exact ⟨⟨_, _, A2, c2, by rw [← HXS.out]; rfl, HO.out⟩, HB.out⟩
end Go.Proofs.Ytbefcfdmaafghaa
