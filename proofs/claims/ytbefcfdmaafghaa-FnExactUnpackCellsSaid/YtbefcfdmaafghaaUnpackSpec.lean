/- The cells of a text of runs: the reference's way. -/
import Derived.Test.YtbefcfdmaafghaaUnpackImpl
namespace Go.Proofs.Ytbefcfdmaafghaa
open Go.RowKit
theorem uS_big {s : ByteArray} {o : List Bool} (h : unS (bytesN s) false [] = o) (hb : 256 < o.length) : uS s = none := by simp [uS, h, hb]
theorem uS_bad {s : ByteArray} {o : List Bool} (h : unS (bytesN s) false [] = o) (hs : sameT o s = false) : uS s = none := by simp [uS, h, hs]
theorem uS_good {s : ByteArray} {o : List Bool} (h : unS (bytesN s) false [] = o) (hb : o.length ≤ 256) (hs : sameT o s = true) : uS s = some o := by
  unfold uS
  rw [h, if_neg (by omega), if_pos hs]
theorem unS_one {x : Nat} {l : List Nat} {b : Bool} {out : List Bool} (h : x ≠ 255 ∨ l = []) (ho : out.length ≤ 256) : unS (x :: l) b out = unS l (!b) (out ++ List.replicate x b) := by
  cases l with
  | nil => simp only [unS]; rw [if_neg (by omega)]
  | cons m r =>
    have hx : x ≠ 255 := by rcases h with h | h; exact h; cases h
    simp only [unS]; rw [if_neg (by omega), if_neg hx]
theorem unS_two {m : Nat} {l : List Nat} {b : Bool} {out : List Bool} (ho : out.length ≤ 256) : unS (255 :: m :: l) b out = unS l (!b) (out ++ List.replicate (255 + m) b) := by
  simp only [unS]; rw [if_neg (by omega), if_pos trivial]
theorem one_new (w : World) (b : Bool) : ∀ j u, [Value.bool b][j]? = some u → (w.alloc (.cells #[.bool b] 4)).cell? ((⟨w.heap.size, 0, none⟩ : Addr).add j) = some u := by
  intro j u hu
  cases j with
  | zero =>
    simp only [List.getElem?_cons_zero, Option.some.injEq] at hu
    subst hu
    rw [add_flat]
    simp
  | succ j => simp at hu
theorem own_more {w : World} {B n j : Nat} {v : Value} {b : Bool} {out : List Bool} (hj : j + 1 ≤ n) (h : w.ownsRow B 4 1 v (out.length + (n - (j + 1)) + 1) (out.map Value.bool ++ (List.replicate (n - (j + 1)) (Value.bool b) ++ [Value.bool b]))) : w.ownsRow B 4 1 v (out ++ List.replicate (n - j) b).length ((out ++ List.replicate (n - j) b).map Value.bool) := by
  have e : out ++ List.replicate (n - j) b = (out ++ List.replicate (n - (j + 1)) b) ++ [b] := by
    rw [show n - j = (n - (j + 1)) + 1 from by omega, List.replicate_succ', List.append_assoc]
  rw [e]
  simpa [Nat.add_assoc] using h

set_option maxHeartbeats 4000000 in
set_option maxRecDepth 100000 in
theorem l07Unpack_any (s : ByteArray) (w : World) (hs : s.size ≤ 1048576) :
    Calls Try.prog 93 #[.string s] w fun e w' => ∃ A c, e = .returned (.tuple #[.slice A ((uS s).getD []).length c, .bool (uS s).isSome]) ∧ w'.ownsRow w.heap.size 4 1 (.slice A ((uS s).getD []).length c) ((uS s).getD []).length (((uS s).getD []).map Value.bool) ∧ Below w.heap.size w w' := by
  obtain ⟨i0, hi, hz0, hz1, hz2⟩ := info_parts Try.info4
  go_enter Try.func93, Try.ntmps93
  go_wp2
  go_loopw [4, 5, 6, 7] (fun v fl i _ wr => ∃ (k : Nat) (b : Bool) (out : List Bool), k ≤ s.size ∧ i = .int .i64 k ∧ fl = .bool b ∧ wr.ownsRow w.heap.size 4 1 v out.length (out.map Value.bool) ∧ Below w.heap.size w wr ∧ out.length ≤ 766 ∧ Hid (unS (bytesN s) false [] = unS ((bytesN s).drop k) b out))
    (fun _ _ i _ _ => s.size - (intOf i).toNat)
  case atStart =>
    refine ⟨0, false, [], Nat.zero_le _, rfl, rfl, ?_, below_new _ _, by simp, Lib.hid rfl⟩
    have h := World.ownsRow_made (e := 4) (size := 1) (base := w.heap.size) w #[] 0 (Nat.le_refl _) (Nat.zero_le _) rfl
    simpa [Nat.add_assoc] using h
  case round =>
    obtain ⟨k, b, out, hk, rfl, rfl, hown, hb, hout, HU⟩ := hrel
    obtain ⟨A, c, rfl⟩ := own_form hown
    have HO := Lib.hid hown; clear hown
    have HB := Lib.hid hb; clear hb
    by_cases hlt : k < s.size
    · by_cases hle : out.length ≤ 256
      · have HD := Lib.hid (bytesN_drop s k hlt)
        have hx1 : s[k].toNat ≤ 255 := by have := s[k].toNat_lt; omega
        by_cases h255 : s[k].toNat = 255
        · by_cases hlt2 : k + 1 < s.size
          · have hx2 : s[k + 1].toNat ≤ 255 := by have := s[k + 1].toNat_lt; omega
            have HT : Hid (unS (bytesN s) false [] = unS ((bytesN s).drop (k + 1 + 1)) (!b) (out ++ List.replicate (255 + s[k + 1].toNat) b)) := Lib.hid (by rw [HU.out, HD.out, h255, bytesN_drop s (k + 1) hlt2, unS_two hle])
            obtain ⟨n, hn⟩ : ∃ n, n = 255 + s[k + 1].toNat := ⟨_, rfl⟩
            have HN : Hid ((n : Int) = ((255 + s[k + 1].toNat : Nat) : Int)) := Lib.hid (by rw [hn])
            rw [← hn] at HT
            have hn2 : n ≤ 510 := by omega
            clear hn HU HD
            go_wp2
            go_loopw [4, 7] (fun v r wi => ∃ j : Nat, j ≤ n ∧ r = .int .i64 j ∧ wi.ownsRow w.heap.size 4 1 v (out ++ List.replicate (n - j) b).length ((out ++ List.replicate (n - j) b).map Value.bool) ∧ Below w.heap.size w wi) (fun _ r _ => (intOf r).toNat)
            case atStart => exact ⟨n, Nat.le_refl _, by first | rfl | (have := HN.out; congr 1; omega), by simpa using HO.out, HB.out⟩
            case round =>
              obtain ⟨j, hj, rfl, ho, hbi⟩ := hrel
              have HOi := Lib.hid ho; clear ho
              have HBi := Lib.hid hbi; clear hbi
              have hol : (out ++ List.replicate (n - j) b).length ≤ 766 := by rw [List.length_append, List.length_replicate]; omega
              have HL := Lib.hid hol; clear hol
              cases j with
              | zero =>
                rw [Nat.sub_zero] at HOi HL
                go_wp2
                go_roundw
                case rel => exact ⟨k + 1 + 1, !b, _, by omega, by go_num, rfl, HOi.out, HBi.out, HL.out, HT⟩
                case measure => simp [intOf]; omega
              | succ j =>
                go_wp2_with (at_builtin; refine wpList_append_own _ rfl (.tmp 45) (.tmp 47) 22 rfl w.heap.size 4 i0 (.bool false) 1 1 Try.underlying22 hi hz0 hz1 hz2 rfl (by decide) _ _ _ rfl (HOi.out.alloc _) ⟨wr.heap.size, 0, none⟩ 1 1 [.bool b] rfl rfl (one_new wr b) (one_rep b 1) ?_ ?_ ?_ ?_)
                · unfold maxLen; first | omega | (have := HL.out; omega)
                · first | omega | (have := HL.out; omega)
                · have := HBi.out.size; simp; omega
                · intro v' w1 hown' hgrow _
                  have HO1 := Lib.hid (own_more hj hown')
                  have HB1 := Lib.hid ((HBi.out.alloc HBi.out.size _).grown hgrow (by have := HBi.out.size; simp; omega) (fun k hk => (HOi.out.lt k hk).1))
                  clear hown' hgrow
                  go_wp2
                  go_roundw
                  case rel => first | exact ⟨j, by omega, by go_num, HO1.out, HB1.out⟩ | ((repeat apply Exists.intro); exact ⟨⟨j, by omega, by go_num, HO1.out, HB1.out⟩, rfl⟩)
                  case measure => simp [intOf]
          · have HT : Hid (unS (bytesN s) false [] = unS ((bytesN s).drop (k + 1)) (!b) (out ++ List.replicate 255 b)) := Lib.hid (by rw [HU.out, HD.out, h255, unS_one (.inr (bytesN_end s _ (by omega))) hle])
            have hd1 : decide ((out.length : Int) ≤ 256) = true := by simp; omega
            have hd2 : decide ((k : Int) + 1 < (s.size : Int)) = false := by simp; omega
            obtain ⟨n, hn⟩ : ∃ n, n = 255 := ⟨_, rfl⟩
            have HN : Hid ((n : Int) = ((255 : Nat) : Int)) := Lib.hid (by rw [hn])
            rw [← hn] at HT
            have hn2 : n ≤ 510 := by omega
            clear hn HU HD
            go_wp2
            go_loopw [4, 7] (fun v r wi => ∃ j : Nat, j ≤ n ∧ r = .int .i64 j ∧ wi.ownsRow w.heap.size 4 1 v (out ++ List.replicate (n - j) b).length ((out ++ List.replicate (n - j) b).map Value.bool) ∧ Below w.heap.size w wi) (fun _ r _ => (intOf r).toNat)
            case atStart => exact ⟨n, Nat.le_refl _, by first | rfl | (have := HN.out; congr 1; omega), by simpa using HO.out, HB.out⟩
            case round =>
              obtain ⟨j, hj, rfl, ho, hbi⟩ := hrel
              have HOi := Lib.hid ho; clear ho
              have HBi := Lib.hid hbi; clear hbi
              have hol : (out ++ List.replicate (n - j) b).length ≤ 766 := by rw [List.length_append, List.length_replicate]; omega
              have HL := Lib.hid hol; clear hol
              cases j with
              | zero =>
                rw [Nat.sub_zero] at HOi HL
                go_wp2
                go_roundw
                case rel => exact ⟨k + 1, !b, _, by omega, by go_num, rfl, HOi.out, HBi.out, HL.out, HT⟩
                case measure => simp [intOf]; omega
              | succ j =>
                go_wp2_with (at_builtin; refine wpList_append_own _ rfl (.tmp 45) (.tmp 47) 22 rfl w.heap.size 4 i0 (.bool false) 1 1 Try.underlying22 hi hz0 hz1 hz2 rfl (by decide) _ _ _ rfl (HOi.out.alloc _) ⟨wr.heap.size, 0, none⟩ 1 1 [.bool b] rfl rfl (one_new wr b) (one_rep b 1) ?_ ?_ ?_ ?_)
                · unfold maxLen; first | omega | (have := HL.out; omega)
                · first | omega | (have := HL.out; omega)
                · have := HBi.out.size; simp; omega
                · intro v' w1 hown' hgrow _
                  have HO1 := Lib.hid (own_more hj hown')
                  have HB1 := Lib.hid ((HBi.out.alloc HBi.out.size _).grown hgrow (by have := HBi.out.size; simp; omega) (fun k hk => (HOi.out.lt k hk).1))
                  clear hown' hgrow
                  go_wp2
                  go_roundw
                  case rel => first | exact ⟨j, by omega, by go_num, HO1.out, HB1.out⟩ | ((repeat apply Exists.intro); exact ⟨⟨j, by omega, by go_num, HO1.out, HB1.out⟩, rfl⟩)
                  case measure => simp [intOf]
        · have HT : Hid (unS (bytesN s) false [] = unS ((bytesN s).drop (k + 1)) (!b) (out ++ List.replicate s[k].toNat b)) := Lib.hid (by rw [HU.out, HD.out, unS_one (.inl h255) hle])
          have hne : ¬ ((s[k].toNat : Int) = 255) := by omega
          obtain ⟨n, hn⟩ : ∃ n, n = s[k].toNat := ⟨_, rfl⟩
          have HN : Hid ((n : Int) = ((s[k].toNat : Nat) : Int)) := Lib.hid (by rw [hn])
          rw [← hn] at HT
          have hn2 : n ≤ 510 := by omega
          clear hn HU HD
          go_wp2
          go_loopw [4, 7] (fun v r wi => ∃ j : Nat, j ≤ n ∧ r = .int .i64 j ∧ wi.ownsRow w.heap.size 4 1 v (out ++ List.replicate (n - j) b).length ((out ++ List.replicate (n - j) b).map Value.bool) ∧ Below w.heap.size w wi) (fun _ r _ => (intOf r).toNat)
          case atStart => exact ⟨n, Nat.le_refl _, by first | rfl | (have := HN.out; congr 1; omega), by simpa using HO.out, HB.out⟩
          case round =>
            obtain ⟨j, hj, rfl, ho, hbi⟩ := hrel
            have HOi := Lib.hid ho; clear ho
            have HBi := Lib.hid hbi; clear hbi
            have hol : (out ++ List.replicate (n - j) b).length ≤ 766 := by rw [List.length_append, List.length_replicate]; omega
            have HL := Lib.hid hol; clear hol
            cases j with
            | zero =>
              rw [Nat.sub_zero] at HOi HL
              go_wp2
              go_roundw
              case rel => exact ⟨k + 1, !b, _, by omega, by go_num, rfl, HOi.out, HBi.out, HL.out, HT⟩
              case measure => simp [intOf]; omega
            | succ j =>
              go_wp2_with (at_builtin; refine wpList_append_own _ rfl (.tmp 45) (.tmp 47) 22 rfl w.heap.size 4 i0 (.bool false) 1 1 Try.underlying22 hi hz0 hz1 hz2 rfl (by decide) _ _ _ rfl (HOi.out.alloc _) ⟨wr.heap.size, 0, none⟩ 1 1 [.bool b] rfl rfl (one_new wr b) (one_rep b 1) ?_ ?_ ?_ ?_)
              · unfold maxLen; first | omega | (have := HL.out; omega)
              · first | omega | (have := HL.out; omega)
              · have := HBi.out.size; simp; omega
              · intro v' w1 hown' hgrow _
                have HO1 := Lib.hid (own_more hj hown')
                have HB1 := Lib.hid ((HBi.out.alloc HBi.out.size _).grown hgrow (by have := HBi.out.size; simp; omega) (fun k hk => (HOi.out.lt k hk).1))
                clear hown' hgrow
                go_wp2
                go_roundw
                case rel => first | exact ⟨j, by omega, by go_num, HO1.out, HB1.out⟩ | ((repeat apply Exists.intro); exact ⟨⟨j, by omega, by go_num, HO1.out, HB1.out⟩, rfl⟩)
                case measure => simp [intOf]
      · have HX : Hid (uS s = none) := Lib.hid (uS_big (by rw [HU.out, unS_big _ _ _ (by omega)]) (show 256 < out.length by omega))
        clear HU
        go_wp2
        go_ret2
        exact ⟨none, 0, by rw [HX.out]; rfl, by rw [HX.out]; exact own_nil _ _ _, HB.out⟩
    · have HF : Hid (unS (bytesN s) false [] = out) := Lib.hid (by rw [HU.out, bytesN_end s k (by omega)]; simp [unS])
      clear HU
      by_cases hle : out.length ≤ 256
      · have HP := Lib.hid (l07Pack_any A out.length c out wr rfl hle (Rd.own HO.out))
        go_wp2_with fail
        refine HP.out.mono ?_
        rintro e w2 ⟨rfl, hb2⟩
        have HB2 := Lib.hid (HB.out.trans (hb2.mono HB.out.size))
        have HO2 := Lib.hid (own_next HO.out hb2)
        clear hb2 HP
        by_cases hsame : sameT out s = true
        · have hq : ((strOfNums (packL out)).toList == s.toList) = true := hsame
          have HG := Lib.hid (uS_good HF.out hle hsame)
          clear hsame
          go_wp2
          go_ret2
          exact ⟨A, c, by rw [HG.out]; rfl, by rw [HG.out]; exact HO2.out, HB2.out⟩
        · have hq : ((strOfNums (packL out)).toList == s.toList) = false := by simpa [sameT] using hsame
          have HG := Lib.hid (uS_bad HF.out (by simpa using hsame))
          clear hsame
          go_wp2
          go_ret2
          exact ⟨none, 0, by rw [HG.out]; rfl, by rw [HG.out]; exact own_nil _ _ _, HB2.out⟩
      · have HX : Hid (uS s = none) := Lib.hid (uS_big HF.out (by omega))
        clear HF
        go_wp2
        go_ret2
        exact ⟨none, 0, by rw [HX.out]; rfl, by rw [HX.out]; exact own_nil _ _ _, HB.out⟩
theorem specUnpack_any (s : ByteArray) (w : World) (hs : s.size ≤ 1048576) :
    Calls Try.prog 45 #[.string s] w fun e w' => ∃ A c, e = .returned (.tuple #[.slice A ((uS s).getD []).length c, .bool (uS s).isSome]) ∧ w'.ownsRow w.heap.size 4 1 (.slice A ((uS s).getD []).length c) ((uS s).getD []).length (((uS s).getD []).map Value.bool) ∧ Below w.heap.size w w' := by
  have HP := Lib.hid (l07Unpack_any s w hs)
  go_enter Try.func45, Try.ntmps45
  go_wp2_with fail
  refine HP.out.mono ?_
  rintro e w1 ⟨A, c, rfl, ho, hb⟩
  have HO := Lib.hid ho
  have HB := Lib.hid hb
  clear ho hb HP
  go_wp2
  go_ret2
  exact ⟨A, c, rfl, HO.out, HB.out⟩
end Go.Proofs.Ytbefcfdmaafghaa
