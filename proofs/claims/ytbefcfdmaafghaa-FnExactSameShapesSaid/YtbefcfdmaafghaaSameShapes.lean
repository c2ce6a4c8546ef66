/- SameShapes, both ways, and the comparison of two equal rows of shapes. -/
import Derived.Test.YtbefcfdmaafghaaShapes
import Derived.Test.YtbefcfdmaafghaaSameAt
import Derived.StillTailTactics
import Derived.Outline
namespace Go.Proofs.Ytbefcfdmaafghaa
open Go.RowKit
/-- two rows of shapes are the same -/
def sameK (ss ts : List Sh) : Bool := decide (ss.map Sh.key = ts.map Sh.key)
theorem key_parts {s t : Sh} (h : s.key = t.key) : s.nm = t.nm ∧ s.wd = t.wd ∧ s.hg = t.hg ∧ s.bs = t.bs := by
  unfold Sh.key at h
  simpa using h
theorem key_at {ss ts : List Sh} (h : ss.map Sh.key = ts.map Sh.key) {k : Nat} (h1 : k < ss.length) (h2 : k < ts.length) : ss[k].key = ts[k].key := by
  have h3 : (ss.map Sh.key)[k]? = (ts.map Sh.key)[k]? := by rw [h]
  rw [List.getElem?_map, List.getElem?_map, List.getElem?_eq_getElem h1, List.getElem?_eq_getElem h2] at h3
  exact Option.some.inj h3
set_option maxHeartbeats 2000000 in
set_option maxRecDepth 100000 in
theorem eqShapeS_same (A A' : Option Addr) (n c n' c' : Nat) (ss ts : List Sh) (w : World) (hn : ss.length = n) (hn' : n = n') (hk : ss.map Sh.key = ts.map Sh.key) (hm : n ≤ 1048576) (hl : szN ss ≤ 1048576)
    (hr : RdS w w.heap.size A ss) (hr' : RdS w w.heap.size A' ts) :
    Calls Try.prog 53 #[.slice A n c, .slice A' n' c'] w fun e w' => e = .returned (.bool true) ∧ Below w.heap.size w w' := by
  subst hn'
  have hlt2 : ts.length = n := by have := congrArg List.length hk; simp at this; omega
  have Hn := Lib.hid hn; clear hn
  have Hn' := Lib.hid hlt2; clear hlt2
  have Hr := Lib.hid hr; clear hr
  have Hr' := Lib.hid hr'; clear hr'
  have HK := Lib.hid hk; clear hk
  go_enter Try.func53, Try.ntmps53
  go_wp2
  go_loopw [5] (fun i wr => ∃ k : Nat, k ≤ n ∧ i = .int .i64 k ∧ Below w.heap.size w wr) (fun i _ => n - (intOf i).toNat)
  case atStart => exact ⟨0, Nat.zero_le _, rfl, Below.refl _ _⟩
  case round =>
    obtain ⟨k, hk, rfl, hb⟩ := hrel
    have HB := Lib.hid hb; clear hb
    by_cases hlt : k < n
    · have hka : k < ss.length := by rw [Hn.out]; exact hlt
      have hkb : k < ts.length := by rw [Hn'.out]; exact hlt
      have hle := szN_le (ss := ss) (k + 1)
      have hsn := szN_snoc hka
      obtain ⟨p1, p2, p3, p4⟩ := key_parts (key_at HK.out hka hkb)
      obtain ⟨ad, rfl, _, hc0, hc1, hc2, hc3⟩ := (Hr.out.below HB.out).at_ hka
      obtain ⟨ad', rfl, _, hd0, hd1, hd2, hd3⟩ := (Hr'.out.below HB.out).at_ hkb
      have hp := ((Hr.out.below HB.out).more HB.out.size).part hka
      have hp' := ((Hr'.out.below HB.out).more HB.out.size).part hkb
      obtain ⟨s, hs⟩ : ∃ s, s = ss[k] := ⟨_, rfl⟩
      obtain ⟨t, ht⟩ : ∃ t, t = ts[k] := ⟨_, rfl⟩
      rw [← hs] at hc0 hc1 hc2 hc3 hp p1 p2 p3 p4 hsn
      rw [← ht] at hd0 hd1 hd2 hd3 hp' p1 p2 p3 p4
      rw [← p1] at hd0
      rw [← p2] at hd1
      rw [← p3] at hd2
      rw [← p4] at hd3 hp'
      have HC := Lib.hid (eqShape_same s.nm s.wd s.hg s.A t.A s.bs.length s.c s.bs.length t.c s.bs wr.drew rfl rfl (by omega) hp.1 hp'.1)
      clear hs ht p1 p2 p3 p4 hp hp' hle hsn
      go_wp2_with fail
      go_still_tail 8, (by kernel_rfl)
      change wpList _ _ _ _ _ wr.drew
      go_wp2_with fail
      refine HC.out.mono ?_
      rintro e w1 ⟨rfl, hbd⟩
      have HB1 := Lib.hid (bthen HB.out (undrew hbd))
      clear hbd hc0 hc1 hc2 hc3 hd0 hd1 hd2 hd3
      go_wp2
      go_roundw
      case rel => exact ⟨k + 1, by omega, by go_num, HB1.out⟩
      case measure => simp [intOf]; omega
    · go_wp2
      go_ret
      exact ⟨rfl, HB.out⟩
theorem take_key {ss ts : List Sh} {k : Nat} (h : (ss.take k).map Sh.key = (ts.take k).map Sh.key) (h1 : k < ss.length) (h2 : k < ts.length) (he : ss[k].key = ts[k].key) : (ss.take (k + 1)).map Sh.key = (ts.take (k + 1)).map Sh.key := by
  rw [List.take_succ_eq_append_getElem h1, List.take_succ_eq_append_getElem h2, List.map_append, List.map_append, h]
  simp [he]
theorem sameK_ne {ss ts : List Sh} {k : Nat} (h1 : k < ss.length) (h2 : k < ts.length) (hne : ss[k].key ≠ ts[k].key) : sameK ss ts = false := by
  unfold sameK
  rw [decide_eq_false_iff_not]
  intro h
  exact hne (key_at h h1 h2)
theorem sameK_len {ss ts : List Sh} (h : ss.length ≠ ts.length) : sameK ss ts = false := by
  unfold sameK
  rw [decide_eq_false_iff_not]
  intro h2
  apply h
  have := congrArg List.length h2
  simpa using this
theorem sameF_key {s t : Sh} (h : s.nm = t.nm) : sameF s.wd s.hg s.bs t.wd t.hg t.bs = decide (s.key = t.key) := by
  unfold sameF sameL Sh.key
  rw [Bool.eq_iff_iff]
  simp [h, and_assoc]
set_option maxHeartbeats 4000000 in
set_option maxRecDepth 100000 in
theorem specSameShapes_any (A A' : Option Addr) (n c n' c' : Nat) (ss ts : List Sh) (w : World) (hn : ss.length = n) (hn' : ts.length = n') (hm : n ≤ 1048576) (hm' : n' ≤ 1048576) (hl : szN ss ≤ 1048576) (hl' : szN ts ≤ 1048576)
    (hr : RdS w w.heap.size A ss) (hr' : RdS w w.heap.size A' ts) :
    Calls Try.prog 50 #[.slice A n c, .slice A' n' c'] w fun e w' => e = .returned (.bool (sameK ss ts)) ∧ ∃ m, w' = w.drewN m := by
  by_cases hnn : n = n'
  · subst hnn
    have Hn := Lib.hid hn; clear hn
    have Hn' := Lib.hid hn'; clear hn'
    have Hr := Lib.hid hr; clear hr
    have Hr' := Lib.hid hr'; clear hr'
    go_enter Try.func50, Try.ntmps50
    go_wp2
    go_loopw [13] (fun i wr => ∃ k : Nat, k ≤ n ∧ i = .int .i64 k ∧ Hid ((ss.take k).map Sh.key = (ts.take k).map Sh.key) ∧ ∃ m, wr = w.drewN m) (fun i _ => n - (intOf i).toNat)
    case atStart => exact ⟨0, Nat.zero_le _, rfl, Lib.hid rfl, 0, rfl⟩
    case round =>
      obtain ⟨k, hk, rfl, HK, m, rfl⟩ := hrel
      by_cases hlt : k < n
      · have hka : k < ss.length := by rw [Hn.out]; exact hlt
        have hkb : k < ts.length := by rw [Hn'.out]; exact hlt
        have hle := szN_le (ss := ss) (k + 1)
        have hsn := szN_snoc hka
        have hle' := szN_le (ss := ts) (k + 1)
        have hsn' := szN_snoc hkb
        obtain ⟨ad, rfl, _, hc0, hc1, hc2, hc3⟩ := Hr.out.at_ hka
        obtain ⟨ad', rfl, _, hd0, hd1, hd2, hd3⟩ := Hr'.out.at_ hkb
        have hp := Hr.out.part hka
        have hp' := Hr'.out.part hkb
        have hyes : ss[k].key = ts[k].key → (ss.take (k + 1)).map Sh.key = (ts.take (k + 1)).map Sh.key := take_key HK.out hka hkb
        have hno : ss[k].key ≠ ts[k].key → sameK ss ts = false := sameK_ne hka hkb
        obtain ⟨s, hs⟩ : ∃ s, s = ss[k] := ⟨_, rfl⟩
        obtain ⟨t, ht⟩ : ∃ t, t = ts[k] := ⟨_, rfl⟩
        rw [← hs] at hc0 hc1 hc2 hc3 hp hsn hyes hno
        rw [← ht] at hd0 hd1 hd2 hd3 hp' hsn' hyes hno
        by_cases hnm : s.nm = t.nm
        · have hsf := sameF_key hnm
          have hc := fun q => (l07Same_at s.wd s.hg t.wd t.hg s.A t.A s.bs.length s.c t.bs.length t.c _ _ _ _ s.bs t.bs (w := w.drewN (m + q)) rfl rfl (by omega) (by omega) (x0 := hc1) (x1 := hc2) (x2 := hc3) (y0 := hd1) (y1 := hd2) (y2 := hd3) hp.1 hp'.1).mono (R' := fun e w'' => e = .returned (.bool (sameF s.wd s.hg s.bs t.wd t.hg t.bs)) ∧ ∃ n, w'' = w.drewN (m + n)) fun e w'' ⟨he, n, hw⟩ => ⟨he, q + n, by rw [hw, World.drewN_drewN, Nat.add_assoc]⟩
          have HC := Lib.hid hc
          clear hc
          rw [← hnm] at hd0
          by_cases hke : s.key = t.key
          · have HY := Lib.hid (hyes hke)
            rw [show sameF s.wd s.hg s.bs t.wd t.hg t.bs = true by rw [hsf]; simpa using hke] at HC
            clear hs ht hsf hyes hno hke hp hp' hsn hsn' hle hle' hnm
            go_wp2
            go_quiet ((go_at_call 81; exact HC.out _))
            go_wp2
            go_roundw
            case rel => exact ⟨k + 1, by omega, by go_num, HY, _, by first | rfl | exact World.drewN_drewN ..⟩
            case measure => simp [intOf]; omega
          · have HN := Lib.hid (hno hke)
            rw [show sameF s.wd s.hg s.bs t.wd t.hg t.bs = false by rw [hsf]; simpa using hke] at HC
            clear hs ht hsf hyes hno hke hp hp' hsn hsn' hle hle' hnm
            go_wp2
            go_quiet ((go_at_call 81; exact HC.out _))
            go_wp2
            go_ret
            exact ⟨ret_bool HN.out.symm, _, by first | rfl | exact World.drewN_drewN ..⟩
        · have HN := Lib.hid (hno (fun h => hnm (key_parts h).1))
          have hnq : (s.nm.toList == t.nm.toList) = false := by rw [beq_eq_false_iff_ne, ByteArray.toList_eq, ByteArray.toList_eq]; exact fun h => hnm (ByteArray.ext (Array.toList_inj.mp h))
          clear hs ht hyes hno hp hp' hsn hsn' hle hle' hnm
          go_wp2
          go_quiet (fail)
          go_wp2
          go_ret
          exact ⟨ret_bool HN.out.symm, _, by first | rfl | exact World.drewN_drewN ..⟩
      · have HT : Hid (sameK ss ts = true) := Lib.hid (by
          have h := HK.out
          rw [List.take_of_length_le (by rw [Hn.out]; omega), List.take_of_length_le (by rw [Hn'.out]; omega)] at h
          unfold sameK
          rw [decide_eq_true_eq]
          exact h)
        go_wp2
        go_ret
        exact ⟨ret_bool HT.out.symm, _, rfl⟩
  · have HN := Lib.hid (sameK_len (ss := ss) (ts := ts) (by rw [hn, hn']; exact hnn))
    clear hn hn' hr hr'
    go_enter Try.func50, Try.ntmps50
    go_wp2
    go_ret
    exact ⟨ret_bool HN.out.symm, 0, rfl⟩
def Sh.val (s : Sh) : Value := .agg #[.string s.nm, .int .i64 s.wd, .int .i64 s.hg, .slice s.A s.bs.length s.c]
set_option maxHeartbeats 2000000 in
set_option maxRecDepth 100000 in
theorem sameFn_any (s t : Sh) (w : World) (hc : s.bs.length ≤ 140737488351232) (hc' : t.bs.length ≤ 140737488351232) (hr : Rd w w.heap.size s.A (s.bs.map Value.bool)) (hr' : Rd w w.heap.size t.A (t.bs.map Value.bool)) :
    Calls Try.prog 96 #[.agg #[.string s.nm, .int .i64 s.wd, .int .i64 s.hg, .slice s.A s.bs.length s.c], .agg #[.string t.nm, .int .i64 t.wd, .int .i64 t.hg, .slice t.A t.bs.length t.c]] w fun e w' => e = .returned (.bool (decide (s.key = t.key))) ∧ Below w.heap.size w w' := by
  have hb := bthen (below_new w (.cells #[.string s.nm, .int .i64 s.wd, .int .i64 s.hg, .slice s.A s.bs.length s.c] 52)) (below_new _ (.cells #[.string t.nm, .int .i64 t.wd, .int .i64 t.hg, .slice t.A t.bs.length t.c] 52))
  have HB := Lib.hid hb
  by_cases hnm : s.nm = t.nm
  · have HF := Lib.hid (sameF_key hnm)
    have HC := Lib.hid (sameField_any s.wd s.hg t.wd t.hg s.A t.A _ s.c _ t.c s.bs t.bs _ rfl rfl hc hc' (hr.next hb) (hr'.next hb))
    rw [← hnm]
    rw [← hnm] at HC HB
    clear hr hr' hb hnm
    go_enter Try.func96, Try.ntmps96
    go_wp2_with fail
    refine HC.out.mono ?_
    rintro e w1 ⟨rfl, hb1⟩
    have HB1 := Lib.hid (bthen HB.out hb1)
    clear hb1
    go_wp2
    go_ret
    exact ⟨ret_bool HF.out, HB1.out⟩
  · have hnq : (s.nm.toList == t.nm.toList) = false := by rw [beq_eq_false_iff_ne, ByteArray.toList_eq, ByteArray.toList_eq]; exact fun h => hnm (ByteArray.ext (Array.toList_inj.mp h))
    have HN : Hid (decide (s.key = t.key) = false) := Lib.hid (by rw [decide_eq_false_iff_not]; exact fun h => hnm (key_parts h).1)
    clear hr hr' hb hnm
    go_enter Try.func96, Try.ntmps96
    go_wp2
    go_ret
    exact ⟨ret_bool HN.out.symm, HB.out⟩
set_option maxHeartbeats 4000000 in
set_option maxRecDepth 100000 in
theorem equalFunc_any (A A' : Option Addr) (n c n' c' : Nat) (ss ts : List Sh) (w : World) (hn : ss.length = n) (hn' : ts.length = n') (hm : n ≤ 1048576) (hm' : n' ≤ 1048576) (hl : szN ss ≤ 1048576) (hl' : szN ts ≤ 1048576)
    (hr : RdS w w.heap.size A ss) (hr' : RdS w w.heap.size A' ts) :
    Calls Try.prog 95 #[.slice A n c, .slice A' n' c', .func (.func 96) #[] #[]] w fun e w' => e = .returned (.bool (sameK ss ts)) ∧ Below w.heap.size w w' := by
  by_cases hnn : n = n'
  · subst hnn
    have Hn := Lib.hid hn; clear hn
    have Hn' := Lib.hid hn'; clear hn'
    have Hr := Lib.hid hr; clear hr
    have Hr' := Lib.hid hr'; clear hr'
    have eg := enters_of (P := Try.prog) Try.func96 (by kernel_rfl) rfl
    go_enter Try.func95, Try.ntmps95
    go_wp2
    go_loopw [17] (fun i wr => ∃ k : Nat, k ≤ n ∧ i = .int .i64 k ∧ Hid ((ss.take k).map Sh.key = (ts.take k).map Sh.key) ∧ Below w.heap.size w wr) (fun i _ => n - (intOf i).toNat)
    case atStart => exact ⟨0, Nat.zero_le _, rfl, Lib.hid rfl, Below.refl _ _⟩
    case round =>
      obtain ⟨k, hk, rfl, HK, hb⟩ := hrel
      have HB := Lib.hid hb; clear hb
      by_cases hlt : k < n
      · have hka : k < ss.length := by rw [Hn.out]; exact hlt
        have hkb : k < ts.length := by rw [Hn'.out]; exact hlt
        have hle := szN_le (ss := ss) (k + 1)
        have hsn := szN_snoc hka
        have hle' := szN_le (ss := ts) (k + 1)
        have hsn' := szN_snoc hkb
        obtain ⟨ad, rfl, hz, hc0, hc1, hc2, hc3⟩ := (Hr.out.below HB.out).at_ hka
        obtain ⟨ad', rfl, hz', hd0, hd1, hd2, hd3⟩ := (Hr'.out.below HB.out).at_ hkb
        have hp := ((Hr.out.below HB.out).more HB.out.size).part hka
        have hp' := ((Hr'.out.below HB.out).more HB.out.size).part hkb
        have hyes : ss[k].key = ts[k].key → (ss.take (k + 1)).map Sh.key = (ts.take (k + 1)).map Sh.key := take_key HK.out hka hkb
        have hno : ss[k].key ≠ ts[k].key → sameK ss ts = false := sameK_ne hka hkb
        obtain ⟨s, hs⟩ : ∃ s, s = ss[k] := ⟨_, rfl⟩
        obtain ⟨t, ht⟩ : ∃ t, t = ts[k] := ⟨_, rfl⟩
        rw [← hs] at hc0 hc1 hc2 hc3 hp hsn hyes hno
        rw [← ht] at hd0 hd1 hd2 hd3 hp' hsn' hyes hno
        have hwz := HB.out.size
        have hab : (ad.add (k * 4)).block < wr.heap.size := by rw [add_block]; omega
        have hab' : (ad'.add (k * 4)).block < wr.heap.size := by rw [add_block]; omega
        have hbn := bthen (below_new wr (.cells #[.string s.nm, .int .i64 s.wd, .int .i64 s.hg, .slice s.A s.bs.length s.c] 52)) (below_new _ (.cells #[.string t.nm, .int .i64 t.wd, .int .i64 t.hg, .slice t.A t.bs.length t.c] 52))
        have HC := Lib.hid (sameFn_any s t _ (by omega) (by omega) (hp.1.next hbn) (hp'.1.next hbn))
        have HBN := Lib.hid hbn
        clear hs ht hp hp' hsn hsn' hle hle' hbn
        by_cases hke : s.key = t.key
        · have HY := Lib.hid (hyes hke)
          rw [show decide (s.key = t.key) = true by simpa using hke] at HC
          clear hyes hno hke
          go_wp2_with fail
          refine HC.out.mono ?_
          rintro e w1 ⟨rfl, hb1⟩
          have HB1 := Lib.hid (bthen HB.out (bthen HBN.out hb1))
          clear hb1 hc0 hc1 hc2 hc3 hd0 hd1 hd2 hd3
          go_wp2
          go_roundw
          case rel => exact ⟨k + 1, by omega, by go_num, HY, HB1.out⟩
          case measure => simp [intOf]; omega
        · have HN := Lib.hid (hno hke)
          rw [show decide (s.key = t.key) = false by simpa using hke] at HC
          clear hyes hno hke
          go_wp2_with fail
          refine HC.out.mono ?_
          rintro e w1 ⟨rfl, hb1⟩
          have HB1 := Lib.hid (bthen HB.out (bthen HBN.out hb1))
          clear hb1 hc0 hc1 hc2 hc3 hd0 hd1 hd2 hd3
          go_wp2
          go_ret
          exact ⟨ret_bool HN.out.symm, HB1.out⟩
      · have HT : Hid (sameK ss ts = true) := Lib.hid (by
          have h := HK.out
          rw [List.take_of_length_le (by rw [Hn.out]; omega), List.take_of_length_le (by rw [Hn'.out]; omega)] at h
          unfold sameK
          rw [decide_eq_true_eq]
          exact h)
        go_wp2
        go_ret
        exact ⟨ret_bool HT.out.symm, HB.out⟩
  · have HN := Lib.hid (sameK_len (ss := ss) (ts := ts) (by rw [hn, hn']; exact hnn))
    clear hn hn' hr hr'
    go_enter Try.func95, Try.ntmps95
    go_wp2
    go_ret
    exact ⟨ret_bool HN.out.symm, Below.refl _ _⟩
set_option maxHeartbeats 1000000 in
theorem sameShapes_any (A A' : Option Addr) (n c n' c' : Nat) (ss ts : List Sh) (w : World) (hn : ss.length = n) (hn' : ts.length = n') (hm : n ≤ 1048576) (hm' : n' ≤ 1048576) (hl : szN ss ≤ 1048576) (hl' : szN ts ≤ 1048576)
    (hr : RdS w w.heap.size A ss) (hr' : RdS w w.heap.size A' ts) :
    Calls Try.prog 52 #[.slice A n c, .slice A' n' c'] w fun e w' => e = .returned (.bool (sameK ss ts)) ∧ Below w.heap.size w w' := by
  have HC := Lib.hid (equalFunc_any A A' n c n' c' ss ts w hn hn' hm hm' hl hl' hr hr')
  clear hn hn' hr hr'
  go_enter Try.func52, Try.ntmps52
  go_wp2_with fail
  refine HC.out.mono ?_
  rintro e w1 ⟨rfl, hb⟩
  have HB := Lib.hid hb; clear hb
  go_wp2
  go_ret
  exact ⟨rfl, HB.out⟩
end Go.Proofs.Ytbefcfdmaafghaa
