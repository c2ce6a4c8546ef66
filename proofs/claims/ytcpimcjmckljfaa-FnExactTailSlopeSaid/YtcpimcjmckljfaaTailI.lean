/- TailSlope told over lists; the program's way. -/
import Derived.Test.YtcpimcjmckljfaaTail
namespace Go.Proofs.Ytcpimcjmckljfaa
open Ieee Go.Shelf Go.RowKit Go.Lib Go.Sort
theorem ins_ex {lt : Nat → Nat → Prop} (tr : ∀ x y z, lt x y → lt y z → lt x z) (tot : ∀ x y, x ≠ y → lt x y ∨ lt y x) (x : Nat) : ∀ D : List Nat, D.Pairwise lt → x ∉ D → ∃ M : List Nat, M.Perm (x :: D) ∧ M.Pairwise lt := by
  intro D
  induction D with
  | nil => intro _ _; exact ⟨[x], .refl _, List.pairwise_singleton _ _⟩
  | cons a D ih =>
    intro hD hx
    obtain ⟨h1, h2⟩ := List.pairwise_cons.1 hD
    rcases tot x a (fun e => hx (by rw [e]; exact List.mem_cons_self)) with h | h
    · refine ⟨x :: a :: D, .refl _, List.pairwise_cons.2 ⟨fun z hz => ?_, hD⟩⟩
      rcases List.mem_cons.1 hz with rfl | hz
      · exact h
      · exact tr _ _ _ h (h1 z hz)
    · obtain ⟨M, hM1, hM2⟩ := ih h2 (fun hh => hx (List.mem_cons_of_mem _ hh))
      refine ⟨a :: M, (hM1.cons a).trans (List.Perm.swap x a D), List.pairwise_cons.2 ⟨fun z hz => ?_, hM2⟩⟩
      rcases List.mem_cons.1 (hM1.mem_iff.1 hz) with rfl | hz
      · exact h
      · exact h1 z hz
theorem sorted_ex {lt : Nat → Nat → Prop} (tr : ∀ x y z, lt x y → lt y z → lt x z) (tot : ∀ x y, x ≠ y → lt x y ∨ lt y x) : ∀ ts : List Nat, ts.Nodup → ∃ M : List Nat, M.Perm ts ∧ M.Pairwise lt := by
  intro ts
  induction ts with
  | nil => intro _; exact ⟨[], .refl _, .nil⟩
  | cons x ts ih =>
    intro h
    obtain ⟨h1, h2⟩ := List.nodup_cons.1 h
    obtain ⟨D, hD1, hD2⟩ := ih h2
    obtain ⟨M, hM1, hM2⟩ := ins_ex tr tot x D hD2 (fun hh => h1 (hD1.mem_iff.1 hh))
    exact ⟨M, hM1.trans (hD1.cons x), hM2⟩
theorem rank_spec (xs : List Nat) : (rankL xs).Perm (List.range xs.length) ∧ (rankL xs).Pairwise (ltD xs) := by
  obtain ⟨M, h1, h2⟩ := sorted_ex (ltD_tr xs) (fun x y h => by unfold ltD; omega) (List.range xs.length) List.nodup_range
  unfold rankL
  rw [sortedOf_eq (ltD_as xs) h1 h2]
  exact ⟨h1, h2⟩
/-- the numbers downwards -/
noncomputable def srtD (xs : List Nat) : List Nat := (rankL xs).map fun i => xs.getD i 0
theorem srtD_len (xs : List Nat) : (srtD xs).length = xs.length := by unfold srtD; rw [List.length_map, (rank_spec xs).1.length_eq]; simp
def tailQ (sl : List Nat) (cnt i : Nat) : Nat := fop .quo .f32 (sl.getD i 0) (sl.getD cnt 0)
def tailS (sl : List Nat) (cnt k : Nat) : Nat := sumF ((List.range k).map fun i => logX (tailQ sl cnt i))
theorem tailS_up (sl : List Nat) (cnt k : Nat) : tailS sl cnt (k + 1) = fop .add .f32 (tailS sl cnt k) (logX (tailQ sl cnt k)) := by
  unfold tailS
  rw [List.range_succ, List.map_append]
  exact sumF_snoc _ _
def tailIn (xs : List Nat) (z : Int) : Bool := listB xs && (inB z 1 ((xs.length : Int) - 1) && !(xs.any fun x => !gtB x))
def tailC (sl : List Nat) (z : Int) : Nat := fop .quo .f32 (floatOfInt .f32 z) (tailS sl z.toNat z.toNat)
noncomputable def tailOk (xs : List Nat) (z : Int) : Bool := tailIn xs z && gtB (tailS (srtD xs) z.toNat z.toNat)
noncomputable def tailR (xs : List Nat) (z : Int) : Nat := if tailOk xs z = true then numV (tailC (srtD xs) z) else 0
noncomputable def tailB (xs : List Nat) (z : Int) : Bool := if tailOk xs z = true then finB (tailC (srtD xs) z) else false
theorem tailR_num (xs : List Nat) (z : Int) : nanF .f32 (tailR xs z) = false := by
  unfold tailR
  split
  · exact numV_num _
  · exact num_zero
theorem tail_no {xs : List Nat} {z : Int} (h : tailOk xs z = false) : tailR xs z = 0 ∧ tailB xs z = false := by
  unfold tailR tailB
  rw [h]
  exact ⟨rfl, rfl⟩
theorem tail_no' {xs : List Nat} {z : Int} (h : tailIn xs z = false) : tailR xs z = 0 ∧ tailB xs z = false := tail_no (by unfold tailOk; rw [h]; rfl)
theorem srtD_get {xs : List Nat} {i : Nat} (hi : i < xs.length) : ∃ j, j < xs.length ∧ (rankL xs)[i]? = some j ∧ (srtD xs).getD i 0 = xs.getD j 0 := by
  have hl : (rankL xs).length = xs.length := by rw [(rank_spec xs).1.length_eq]; simp
  have hi' : i < (rankL xs).length := by omega
  refine ⟨(rankL xs)[i], List.mem_range.1 ((rank_spec xs).1.mem_iff.1 (List.getElem_mem hi')), List.getElem?_eq_getElem hi', ?_⟩
  unfold srtD
  rw [List.getD_eq_getElem?_getD, List.getElem?_map, List.getElem?_eq_getElem hi']
  rfl
theorem gt_get {xs : List Nat} (h : xs.any (fun x => !gtB x) = false) {j : Nat} (hj : j < xs.length) : gtB (xs.getD j 0) = true := by
  rw [List.any_eq_false] at h
  have := h xs[j] (List.getElem_mem hj)
  rw [List.getD_eq_getElem?_getD, List.getElem?_eq_getElem hj]
  simpa using this
/-- a quotient of two of the numbers, the second not the greater -/
theorem tail_q {xs : List Nat} (hf : finL xs = true) (hp : xs.any (fun x => !gtB x) = false) {cnt i : Nat} (hi : i ≤ cnt) (hc : cnt < xs.length) :
    floatBits .quo .f32 ((srtD xs).getD i 0) ((srtD xs).getD cnt 0) = some (tailQ (srtD xs) cnt i) ∧ FloatKind.f32.format.order (tailQ (srtD xs) cnt i) 0 = some .gt := by
  obtain ⟨a, ha, ha2, ha3⟩ := srtD_get (xs := xs) (i := i) (by omega)
  obtain ⟨b, hb, hb2, hb3⟩ := srtD_get (xs := xs) (i := cnt) hc
  unfold tailQ
  rw [ha3, hb3]
  refine quo_pos (fin_get (finL_mem hf) a) (fin_get (finL_mem hf) b) (gt_get hp ha) (gt_get hp hb) ?_
  rcases Nat.lt_or_eq_of_le hi with h | h
  · obtain ⟨ia, ea⟩ := List.getElem?_eq_some_iff.1 ha2
    obtain ⟨ib, eb⟩ := List.getElem?_eq_some_iff.1 hb2
    have := pair_get (rank_spec xs).2 ia ib h
    rw [ea, eb] at this
    unfold ltD keyAt at this
    omega
  · subst h
    rw [ha2] at hb2
    cases hb2
    exact Int.le_refl _
theorem tail_log {xs : List Nat} (hf : finL xs = true) (hp : xs.any (fun x => !gtB x) = false) {cnt i : Nat} (hi : i ≤ cnt) (hc : cnt < xs.length) : SV 1 (logX (tailQ (srtD xs) cnt i)) := by
  have h := (tail_q hf hp hi hc).2
  refine logX_sv ?_ h
  cases hn : nanF .f32 (tailQ (srtD xs) cnt i)
  · rfl
  · rw [(order_nan hn 0).1] at h; cases h
set_option maxHeartbeats 1000000 in
theorem tailFn_any (x : Nat) (W : World) : Calls Try.prog 86 #[.float .f32 x] W fun e w' => e = .returned (.bool (!gtB x)) ∧ Below W.heap.size W w' := by
  cases hg : gtB x
  · have ho : (FloatKind.f32.format.order x 0 == some .gt) = false := hg
    go_enter Try.func86, Try.ntmps86
    go_wp2
    go_ret
    exact ⟨rfl, Below.refl _ _⟩
  · have ho : (FloatKind.f32.format.order x 0 == some .gt) = true := hg
    go_enter Try.func86, Try.ntmps86
    go_wp2
    go_ret
    exact ⟨rfl, Below.refl _ _⟩
set_option maxHeartbeats 1000000 in
theorem tailCmp_any (a b : Nat) (W : World) : Calls Try.prog 87 #[.float .f32 a, .float .f32 b] W fun e w' => e = .returned (.int .i64 (cmpN b a)) ∧ w' = W := by
  go_enter Try.func87, Try.ntmps87
  go_wp2_with fail
  refine (compareNumbers_any b a _).mono ?_
  rintro e w' ⟨rfl, rfl⟩
  go_wp2
  go_ret
  exact ⟨rfl, rfl⟩
set_option maxHeartbeats 1000000 in
/-- a list of floats sorted downwards -/
theorem sortDown_any {w : World} {B g cap n : Nat} {xs : List Nat} (hn : xs.length = n) (hm : n ≤ 1048576) (hf : finL xs = true) (ho : w.ownsRow B 23 1 (.slice (some ⟨g, 0, none⟩) n cap) n (xs.map (Value.float .f32))) :
    Calls Try.prog 81 #[.slice (some ⟨g, 0, none⟩) n cap, .func (.func 87) #[] #[]] w fun e w' => e = .returned (.tuple #[]) ∧ w'.ownsRow B 23 1 (.slice (some ⟨g, 0, none⟩) n cap) n ((srtD xs).map (Value.float .f32)) ∧ Below B w w' := by
  obtain ⟨enc, henc⟩ : ∃ enc : Nat → Value, enc = fun i => Value.float .f32 (xs.getD i 0) := ⟨_, rfl⟩
  have ho' : w.ownsRow B 23 1 (.slice (some ⟨g, 0, none⟩) n cap) n ((List.range n).map enc) := by rw [henc, ← hn, vals_map, hn]; exact ho
  obtain ⟨hrow, hsl, hgB⟩ := row_sw ho' (by rw [henc]; exact fun i => rfl)
  have hin : SortIn enc (fun i j => cmpN (xs.getD j 0) (xs.getD i 0)) (ltD xs) 87 #[] g 0 n (List.range n).toArray w := by
    refine ⟨enters_of (P := Try.prog) Try.func87 (by kernel_rfl) rfl, ?_, hrow, by simp, ltD_tr xs, by omega⟩
    intro m os dk hdk x y
    subst henc
    change Calls Try.prog 87 #[.float .f32 (xs.getD x 0), .float .f32 (xs.getD y 0)] _ _
    refine (tailCmp_any _ _ _).mono ?_
    rintro e w' ⟨rfl, rfl⟩
    exact ⟨rfl, 0, #[], by rw [grow_empty]; rfl⟩
  have hok := rank_ok xs hf (fun i j => cmpN (xs.getD j 0) (xs.getD i 0)) (fun i j _ _ => rfl)
  rw [hn] at hok
  refine (sortStable_F hin cap (List.range n) w (by simp) hok hsl).mono ?_
  rintro e w' ⟨rfl, M, h1, h2, h3⟩
  have hMl : M.length = n := by rw [h1.length_eq]; simp
  have hE : rankL xs = M := by unfold rankL; rw [hn]; exact sortedOf_eq (ltD_as xs) h1 h2
  have ho2 := own_sw ho' hMl h3
  refine ⟨rfl, ?_, ?_⟩
  · unfold srtD
    rw [hE, List.map_map]
    rw [henc] at ho2
    exact ho2
  · exact (Below.refl B w).grown (grownBy_sw h3) (by have := hrow.hblk; omega) (fun q hq => by injection hq with hq; rw [← hq]; exact hgB)
set_option maxHeartbeats 8000000 in
set_option maxRecDepth 100000 in
theorem tailSlope_any (A : Option Addr) (n c : Nat) (xs : List Nat) (z : Int) (w : World) (hn : xs.length = n) (hm : n ≤ 1048576) (hr : Rd w w.heap.size A (xs.map (Value.float .f32))) (hz : -9223372036854775808 ≤ z ∧ z ≤ 9223372036854775807) :
    Calls Try.prog 44 #[.slice A n c, .int .i64 z] w fun e w' => e = .returned (.tuple #[.float .f32 (tailR xs z), .bool (tailB xs z)]) ∧ Below w.heap.size w w' := by
  have c1 := isList_any A n c xs w hn hm hr
  cases hl : listB xs
  · rw [hl] at c1
    have HO := Lib.hid (tail_no' (xs := xs) (z := z) (by unfold tailIn; rw [hl]; rfl))
    have HC1 := Lib.hid c1
    clear c1 hl hr hn
    go_enter Try.func44, Try.ntmps44
    go_wp2_with fail
    refine HC1.out.mono ?_
    rintro e w1 ⟨rfl, hb⟩
    have B1 := Lib.hid hb
    clear hb
    go_wp2
    go_ret2
    rw [HO.out.1, HO.out.2]
    exact ⟨rfl, B1.out⟩
  · rw [hl] at c1
    have c2 := fun W => within_any z 1 ((n : Int) - 1) W
    have HC1 := Lib.hid c1
    have eg := enters_of (P := Try.prog) Try.func86 (by kernel_rfl) rfl
    cases hi : inB z 1 ((n : Int) - 1)
    · rw [hi] at c2
      have HO := Lib.hid (tail_no' (xs := xs) (z := z) (by unfold tailIn; rw [hn, hi]; simp))
      have HC2 := Lib.hid c2
      clear c1 c2 hl hr hn hi eg
      go_enter Try.func44, Try.ntmps44
      go_wp2_with fail
      refine HC1.out.mono ?_
      rintro e w1 ⟨rfl, hb⟩
      have B1 := Lib.hid hb
      clear hb
      go_wp2_with fail
      refine (HC2.out _).mono ?_
      rintro e w' ⟨rfl, rfl⟩
      go_wp2
      go_ret2
      rw [HO.out.1, HO.out.2]
      exact ⟨rfl, B1.out⟩
    · rw [hi] at c2
      have HC2 := Lib.hid c2
      have c3 := fun (W : World) (hb : Below w.heap.size w W) => containsFunc_f32 86 #[] eg (fun x => !gtB x) A n c xs W hn (by omega) (hr.next hb) (fun V x _ _ => by simpa using tailFn_any x V)
      cases hp : xs.any (fun x => !gtB x)
      · rw [hp] at c3
        obtain ⟨hlo, hhi⟩ : 1 ≤ z ∧ z ≤ (n : Int) - 1 := by simpa [inB] using hi
        obtain ⟨cnt, rfl⟩ : ∃ cnt : Nat, z = (cnt : Int) := ⟨z.toNat, by omega⟩
        have hc1 : 1 ≤ cnt := by omega
        have hcn : cnt < n := by omega
        obtain ⟨hn256, hfin⟩ := listB_len hl
        have HIN : Hid (tailOk xs (cnt : Int) = gtB (tailS (srtD xs) cnt cnt)) := Lib.hid (by unfold tailOk tailIn; rw [hl, hn, hi, hp]; rfl)
        have HTC : Hid (tailC (srtD xs) (cnt : Int) = fop .quo .f32 (floatOfInt .f32 (cnt : Int)) (tailS (srtD xs) cnt cnt)) := Lib.hid rfl
        have HTQ := Lib.hid (fun (i : Nat) (h : i ≤ cnt) => tail_q hfin hp h (by rw [hn]; exact hcn))
        have HTL := Lib.hid (fun (i : Nat) (h : i ≤ cnt) => tail_log hfin hp h (by rw [hn]; exact hcn))
        obtain ⟨ad, hA⟩ : ∃ ad, A = some ad := by
          obtain ⟨ad, h, _⟩ := hr.at_ (k := 0) (by rw [List.length_map]; omega)
          exact ⟨ad, h⟩
        subst hA
        have HC3 := Lib.hid c3
        have HCL := Lib.hid (fun (W : World) (hb : Below w.heap.size w W) => cloneF_any ad n c xs W hn hm (hr.next hb))
        have HSO := Lib.hid (fun (W : World) (B g cap : Nat) ho => sortDown_any (w := W) (B := B) (g := g) (cap := cap) hn hm hfin ho)
        have HSL : Hid ((srtD xs).length = n) := Lib.hid (by rw [srtD_len, hn])
        have hcv := fun (n : Int) (w : World) => run_convert_int_float (P := Try.prog) w 2 23 .i64 .f32 n (by rw [Try.underlying2]; rfl) Try.underlying23
        rw [hn] at hn256
        obtain ⟨sl, hsl⟩ : ∃ sl, sl = srtD xs := ⟨_, rfl⟩
        have HSE := Lib.hid hsl
        rw [← hsl] at HIN HTC HTQ HTL HSL
        clear c1 c2 c3 hl hi hp hn hr hfin hlo hhi eg hsl
        go_enter Try.func44, Try.ntmps44
        go_wp2_with fail
        refine HC1.out.mono ?_
        rintro e w1 ⟨rfl, hb⟩
        have B1 := Lib.hid hb
        have HC4 := Lib.hid (HC3.out w1 hb)
        clear hb
        go_wp2_with fail
        refine (HC2.out _).mono ?_
        rintro e w' ⟨rfl, rfl⟩
        go_wp2_with fail
        refine HC4.out.mono ?_
        rintro e w2 ⟨rfl, hb⟩
        have B2 := Lib.hid (bthen B1.out hb)
        clear hb
        go_wp2_with fail
        refine (HCL.out w2 B2.out).mono ?_
        rintro e w3 ⟨⟨g, cp, rfl, ho⟩, hb⟩
        have B3 := Lib.hid (bthen B2.out hb)
        have HO2 := Lib.hid (HSO.out w3 _ g cp ho)
        have hz23 := B2.out.size
        clear ho hb
        go_wp2_with fail
        refine HO2.out.mono ?_
        rintro e w4 ⟨rfl, ho, hb⟩
        have B4 := Lib.hid (B3.out.trans (hb.mono hz23))
        rw [← HSE.out] at ho
        have hcap : n ≤ cp := by
          rcases ho.2 with ⟨hv, h0⟩ | ⟨g', cap', cur, hv, _, _, h1, _⟩
          · cases hv
          · injection hv with _ _ e3; omega
        have HRS := Lib.hid (Rd.own ho)
        have hcz : (cnt : Int) ≤ (cp : Int) := by omega
        clear ho hb
        go_wp2_with fail
        go_loopw [7, 33] (fun s i wr => ∃ (k sm : Nat), k ≤ cnt ∧ i = .int .i64 k ∧ s = .float .f32 sm ∧ Hid (sm = tailS sl cnt k ∧ SV k sm) ∧ ∃ m, wr = w4.drewN m) (fun _ i _ => cnt - (intOf i).toNat)
        case atStart => exact ⟨0, 0, Nat.zero_le _, rfl, rfl, Lib.hid ⟨rfl, .inl ⟨false, 0, -149, by decide, Int.le_refl _, by simp⟩⟩, 0, rfl⟩
        case round =>
          obtain ⟨k, sm, hk, rfl, rfl, HSM, hq⟩ := hrel
          have HQ := Lib.hid hq
          by_cases hlt : k < cnt
          · have hkz : (k : Int) < (cnt : Int) := by omega
            have hka : k < sl.length := by rw [HSL.out]; omega
            have hkb : cnt < sl.length := by rw [HSL.out]; omega
            obtain ⟨ad2, had2, _, hck⟩ := HRS.out.at_ (k := k) (by rw [List.length_map]; exact hka)
            obtain ⟨ad3, had3, _, hcc⟩ := HRS.out.at_ (k := cnt) (by rw [List.length_map]; exact hkb)
            cases had2
            cases had3
            rw [List.getElem_map, add_zero_off, show sl[k] = sl.getD k 0 by rw [List.getD_eq_getElem?_getD, List.getElem?_eq_getElem hka]; rfl] at hck
            rw [List.getElem_map, add_zero_off, show sl[cnt] = sl.getD cnt 0 by rw [List.getD_eq_getElem?_getD, List.getElem?_eq_getElem hkb]; rfl] at hcc
            have hq1 := HTQ.out k (by omega)
            have p1 := run_num (P := Try.prog) hq1.1
            have e1 := cell_drw hq hck
            have e2 := cell_drw hq hcc
            have HLG := Lib.hid (fun W => logNumber_all (tailQ sl cnt k) (tailQ sl cnt k) W (good_quo _ _) (.refl _ _))
            have hsv := sv_add HSM.out.2 (HTL.out k (by omega)) (by omega)
            have HLN := Lib.hid (HTL.out k (by omega)).num
            have p2 := run_num (P := Try.prog) hsv.1
            have HUP : Hid (fop .add .f32 sm (logX (tailQ sl cnt k)) = tailS sl cnt (k + 1)) := Lib.hid (by rw [tailS_up, HSM.out.1])
            have HSV := Lib.hid hsv.2
            obtain ⟨x, hx⟩ : ∃ x, x = sl.getD k 0 := ⟨_, rfl⟩
            obtain ⟨y, hy⟩ : ∃ y, y = sl.getD cnt 0 := ⟨_, rfl⟩
            obtain ⟨q, hqq⟩ : ∃ q, q = tailQ sl cnt k := ⟨_, rfl⟩
            rw [← hx] at e1 p1
            rw [← hy] at e2 p1
            rw [← hqq] at p1 p2 HLG HLN HUP HSV
            obtain ⟨lg, hlg⟩ : ∃ lg, lg = logX q := ⟨_, rfl⟩
            rw [← hlg] at p2 HLG HLN HUP HSV
            clear hx hy hqq hlg hck hcc hq hq1 hsv
            go_wp2_with fail
            refine (HLG.out _).mono ?_
            rintro e w' ⟨⟨r, rfl, hr⟩, hq2⟩
            obtain rfl := hr.eq HLN.out
            have HQ2 := Lib.hid (drw_trans HQ.out hq2)
            clear hr hq2 e1 e2 p1
            go_wp2
            go_roundw
            case rel => exact ⟨k + 1, _, by omega, by go_num, rfl, Lib.hid ⟨HUP.out, HSV.out⟩, HQ2.out⟩
            case measure => simp [intOf]; omega
          · obtain rfl : cnt = k := by omega
            have BR := Lib.hid (below_drw B4.out hq)
            have hs1 := HSM.out.1
            clear hq
            cases hg : gtB (tailS sl cnt cnt)
            · have ho : (FloatKind.f32.format.order sm 0 == some .gt) = false := by rw [hs1]; exact hg
              have HO := Lib.hid (tail_no (xs := xs) (z := (cnt : Int)) (HIN.out.trans hg))
              clear hs1 hg
              go_wp2
              go_ret2
              rw [HO.out.1, HO.out.2]
              exact ⟨rfl, BR.out⟩
            · have ho : (FloatKind.f32.format.order sm 0 == some .gt) = true := by rw [hs1]; exact hg
              have HO : Hid (tailR xs (cnt : Int) = numV (tailC sl (cnt : Int)) ∧ tailB xs (cnt : Int) = finB (tailC sl (cnt : Int))) := Lib.hid (by
                have h := HIN.out.trans hg
                unfold tailR tailB
                rw [h, ← HSE.out]
                exact ⟨rfl, rfl⟩)
              have HTC2 : Hid (tailC sl (cnt : Int) = fop .quo .f32 (floatOfInt .f32 (cnt : Int)) sm) := Lib.hid (by rw [HTC.out, hs1])
              clear hs1 hg
              go_wp2_with (refine wpList_fopW rfl .quo 23 (.tmp 51) (.tmp 52) 23 rfl arith_quo .f32 _ _ rfl rfl ?_; intro r1 w5 h1 q1)
              have HI := Lib.hid (fun W => ifNumber_any r1 (tailC sl (cnt : Int)) W (by rw [HTC2.out]; exact h1))
              have B5 := Lib.hid (below_drw BR.out q1)
              clear h1 q1
              refine (HI.out _).mono ?_
              rintro e w' ⟨rfl, m9, rfl⟩
              rw [← HO.out.1, ← HO.out.2]
              go_wp2
              go_ret2
              exact ⟨rfl, below_drewN B5.out _⟩
      · rw [hp] at c3
        have HO := Lib.hid (tail_no' (xs := xs) (z := z) (by unfold tailIn; rw [hp]; simp))
        have HC3 := Lib.hid c3
        clear c1 c2 c3 hl hr hn hi hp eg
        go_enter Try.func44, Try.ntmps44
        go_wp2_with fail
        refine HC1.out.mono ?_
        rintro e w1 ⟨rfl, hb⟩
        have B1 := Lib.hid hb
        have HC4 := Lib.hid (HC3.out w1 hb)
        clear hb
        go_wp2_with fail
        refine (HC2.out _).mono ?_
        rintro e w' ⟨rfl, rfl⟩
        go_wp2_with fail
        refine HC4.out.mono ?_
        rintro e w2 ⟨rfl, hb⟩
        have B2 := Lib.hid (bthen B1.out hb)
        clear hb
        go_wp2
        go_ret2
        rw [HO.out.1, HO.out.2]
        exact ⟨rfl, B2.out⟩
end Go.Proofs.Ytcpimcjmckljfaa
