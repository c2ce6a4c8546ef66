/- The two packings of a list of at most 256 bools: both give the bytes of its runs. -/
import Derived.Test.YtbefcfdmaafghaaPackPlain
import Derived.Test.YtbefcfdmaafghaaSmall
namespace Go.Proofs.Ytbefcfdmaafghaa
open Go.RowKit
theorem Try.info5 : (Try.prog.info? 5).map (fun i => (i.zero, i.size, i.bytes)) = some (some (.int .u8 0), 1, 1) := by kernel_rfl
def boolOf : Value → Bool | .bool b => b | _ => false
theorem packF_len (f : Nat) : ∀ (b : Bool) (l : List Bool), (packF f b l).length ≤ 2 * f := by
  induction f with
  | zero => intro b l; simp [packF]
  | succ f ih =>
    intro b l
    simp only [packF]
    split
    · simp
    · rw [List.length_append]
      have h1 := (runB_len (lead b l)).1
      have h2 := ih (!b) (l.drop (lead b l))
      omega
theorem drop_ne {bs : List Bool} {k n : Nat} (hn : bs.length = n) (hk : k < n) : bs.drop k ≠ [] := by
  intro h
  have := congrArg List.length h
  rw [List.length_drop] at this
  simp at this
  omega
theorem pack_turn {bs : List Bool} {k j : Nat} {b : Bool} {acc : List Int} (hne : bs.drop k ≠ []) (hj : j = lead b (bs.drop k)) (hp : packL bs = acc ++ packR b (bs.drop k)) :
    packL bs = (acc ++ runB j) ++ packR (!b) (bs.drop (k + j)) ∧ needP (!b) (bs.drop (k + j)) < needP b (bs.drop k) := by
  have h1 := packR_step (b := b) hne
  have h2 := need_step (b := b) hne
  rw [List.drop_drop, ← hj] at h1 h2
  exact ⟨by rw [hp, h1, List.append_assoc], by omega⟩
theorem own_app {w : World} {B : Nat} {v : Value} {acc new : List Int} {m : Nat} (hm : m = new.length) (h : w.ownsRow B 5 1 v (acc.length + m) (acc.map (Value.int .u8) ++ new.map (Value.int .u8))) :
    w.ownsRow B 5 1 v (acc ++ new).length ((acc ++ new).map (Value.int .u8)) := by
  subst hm
  rw [List.length_append, List.map_append]
  exact h

set_option maxHeartbeats 2000000 in
set_option maxRecDepth 100000 in
theorem pack_any (A : Option Addr) (n c : Nat) (bs : List Bool) (w : World) (hn : bs.length = n) (hc : n ≤ 256) (hr : Rd w w.heap.size A (bs.map Value.bool)) :
    Calls Try.prog 79 #[.slice A n c] w fun e w' => (∃ v, e = .returned v ∧ w'.ownsRow w.heap.size 5 1 v (packL bs).length ((packL bs).map (Value.int .u8))) ∧ Below w.heap.size w w' := by
  obtain ⟨i0, hi, hz0, hz1, hz2⟩ := info_parts Try.info5
  have Hn := Lib.hid hn; clear hn
  have Hr := Lib.hid hr; clear hr
  have hlen : (packL bs).length ≤ 1026 := by
    have h := packF_len (2 * bs.length + 1) false bs
    have : bs.length ≤ 256 := by rw [Hn.out]; exact hc
    unfold packL; omega
  go_enter Try.func79, Try.ntmps79
  go_wp2
  go_loopw [3, 4, 5, 6] (fun v fl i _ wr => ∃ (k : Nat) (b : Bool) (acc : List Int), k ≤ n ∧ i = .int .i64 k ∧ fl = .bool b ∧ wr.ownsRow w.heap.size 5 1 v acc.length (acc.map (Value.int .u8)) ∧ Below w.heap.size w wr ∧ Hid (packL bs = acc ++ packR b (bs.drop k)))
    (fun _ fl i _ _ => needP (boolOf fl) (bs.drop (intOf i).toNat))
  case atStart =>
    refine ⟨0, false, [], Nat.zero_le _, rfl, rfl, ?_, below_new _ _, Lib.hid (by rw [packL_eq]; rfl)⟩
    have h := World.ownsRow_made (e := 5) (size := 1) (base := w.heap.size) w #[] 0 (Nat.le_refl _) (Nat.zero_le _) rfl
    simpa using h
  case round =>
    obtain ⟨k, b, acc, hk, rfl, rfl, hown, hb, HP⟩ := hrel
    have hacc : acc.length ≤ 1026 := by
      have := congrArg List.length HP.out
      rw [List.length_append] at this
      omega
    by_cases hlt : k < n
    · have hne := drop_ne Hn.out hlt
      have hlead := lead_le b (bs.drop k)
      rw [List.length_drop, Hn.out] at hlead
      have HR := Lib.hid (packR_step (b := b) hne)
      have HO := Lib.hid hown; clear hown
      have HB := Lib.hid hb; clear hb
      go_wp2
      go_loop [5, 6] (fun i r => ∃ j : Nat, j ≤ lead b (bs.drop k) ∧ i = .int .i64 ((k + j : Nat) : Int) ∧ r = .int .i64 (j : Nat)) (fun _ r => n - (intOf r).toNat)
      case atStart => exact ⟨0, Nat.zero_le _, rfl, rfl⟩
      case round =>
        obtain ⟨j, hj, rfl, rfl⟩ := hrel
        have hjl : k + j < n → k + j < bs.length := fun h => by rw [Hn.out]; exact h
        have hcell : ∀ h : k + j < n, ∃ ad, A = some ad ∧ wr.cell? (ad.add (k + j)) = some (.bool (bs[k + j]'(hjl h))) := fun h => by
          obtain ⟨ad, e, _, hx⟩ := (Hr.out.below HB.out).at_ (k := k + j) (by rw [List.length_map]; exact hjl h)
          rw [List.getElem_map] at hx
          exact ⟨ad, e, hx⟩
        have hbf : ((!b) == b) = false := by cases b <;> rfl
        by_cases hj2 : j < lead b (bs.drop k)
        · have hx := lead_lt hj2
          rw [List.getElem?_drop] at hx
          have hkj : k + j < n := by have := (List.getElem?_eq_some_iff.1 hx).1; rw [Hn.out] at this; exact this
          obtain ⟨ad, rfl, hc1⟩ := hcell hkj
          obtain ⟨_, hx2⟩ := List.getElem?_eq_some_iff.1 hx
          rw [hx2] at hc1
          clear hcell hx hx2 hbf hjl
          go_wp2
          go_round
          case rel => exact ⟨j + 1, hj2, by go_num, by go_num⟩
          case measure => simp [intOf]; omega
        · have hje : j = lead b (bs.drop k) := by omega
          have HJ := Lib.hid hje; clear hje
          have hexit : k + j = n ∨ (k + j < n) := by omega
          rcases hexit with hend | hin
          · have HE := Lib.hid hend
            have hge : ¬ (((k + j : Nat) : Int) < (n : Int)) := by omega
            clear hend hcell hjl hbf
            by_cases h255 : j < 255
            · have hwr : IntKind.u8.wrap (j : Int) = (j : Int) := IntWalk.u8_in _ (by omega)
              go_wp2_with (at_builtin; refine wpList_append_own _ rfl (.tmp 32) (.tmp 35) 93 rfl w.heap.size 5 i0 (.int .u8 0) 1 1 Try.underlying93 hi hz0 hz1 hz2 rfl (by decide) _ _ _ rfl (HO.out.alloc _) ⟨wr.heap.size, 0, none⟩ 1 1 [.int .u8 j] rfl rfl ?_ ?_ ?_ ?_ ?_ ?_)
              · exact rfl
              · unfold maxLen; omega
              · omega
              · have := HB.out.size; simp; omega
              · intro v' w1 hown' hgrow _
                have HO1 := Lib.hid (own_app (new := [(j : Int)]) rfl hown')
                have HB1 := Lib.hid ((HB.out.alloc HB.out.size _).grown hgrow (by have := HB.out.size; simp; omega) (fun k hk => (HO.out.lt k hk).1))
                have HT := Lib.hid (pack_turn hne HJ.out HP.out)
                have hrb : runB j = [(j : Int)] := by simp [runB, h255]
                rw [hrb] at HT
                clear hown' hgrow hrb hwr
                go_wp2
                go_roundw
                case rel => exact ⟨k + j, !b, acc ++ [(j : Int)], by omega, by go_num, rfl, HO1.out, HB1.out, Lib.hid HT.out.1⟩
                case measure => have h9 := HT.out.2; simp [intOf, boolOf]; rw [show ((k : Int) + (j : Int)).toNat = k + j from by omega]; exact h9
            · have hwr : IntKind.u8.wrap ((j : Int) - 255) = (j : Int) - 255 := IntWalk.u8_in _ (by omega)
              go_wp2_with (at_builtin; refine wpList_append_own _ rfl (.tmp 37) (.tmp 41) 93 rfl w.heap.size 5 i0 (.int .u8 0) 1 1 Try.underlying93 hi hz0 hz1 hz2 rfl (by decide) _ _ _ rfl (HO.out.alloc _) ⟨wr.heap.size, 0, none⟩ 2 2 [.int .u8 255, .int .u8 ((j : Int) - 255)] rfl rfl ?_ ?_ ?_ ?_ ?_ ?_)
              · exact ⟨rfl, rfl⟩
              · unfold maxLen; omega
              · omega
              · have := HB.out.size; simp; omega
              · intro v' w1 hown' hgrow _
                have HO1 := Lib.hid (own_app (new := [255, (j : Int) - 255]) rfl hown')
                have HB1 := Lib.hid ((HB.out.alloc HB.out.size _).grown hgrow (by have := HB.out.size; simp; omega) (fun k hk => (HO.out.lt k hk).1))
                have HT := Lib.hid (pack_turn hne HJ.out HP.out)
                have hrb : runB j = [255, (j : Int) - 255] := by simp [runB, h255]
                rw [hrb] at HT
                clear hown' hgrow hrb hwr
                go_wp2
                go_roundw
                case rel => exact ⟨k + j, !b, acc ++ [255, (j : Int) - 255], by omega, by go_num, rfl, HO1.out, HB1.out, Lib.hid HT.out.1⟩
                case measure => have h9 := HT.out.2; simp [intOf, boolOf]; rw [show ((k : Int) + (j : Int)).toNat = k + j from by omega]; exact h9
          · obtain ⟨ad, rfl, hc1⟩ := hcell hin
            have hx : bs[k + j]'(hjl hin) = !b := by
              have h1 := lead_at (b := b) (l := bs.drop k) (by rw [← HJ.out, List.length_drop, Hn.out]; omega)
              rw [← HJ.out, List.getElem?_drop, List.getElem?_eq_getElem (hjl hin)] at h1
              exact Option.some.inj h1
            rw [hx] at hc1
            clear hcell hx hjl
            by_cases h255 : j < 255
            · have hwr : IntKind.u8.wrap (j : Int) = (j : Int) := IntWalk.u8_in _ (by omega)
              go_wp2_with (at_builtin; refine wpList_append_own _ rfl (.tmp 32) (.tmp 35) 93 rfl w.heap.size 5 i0 (.int .u8 0) 1 1 Try.underlying93 hi hz0 hz1 hz2 rfl (by decide) _ _ _ rfl (HO.out.alloc _) ⟨wr.heap.size, 0, none⟩ 1 1 [.int .u8 j] rfl rfl ?_ ?_ ?_ ?_ ?_ ?_)
              · exact rfl
              · unfold maxLen; omega
              · omega
              · have := HB.out.size; simp; omega
              · intro v' w1 hown' hgrow _
                have HO1 := Lib.hid (own_app (new := [(j : Int)]) rfl hown')
                have HB1 := Lib.hid ((HB.out.alloc HB.out.size _).grown hgrow (by have := HB.out.size; simp; omega) (fun k hk => (HO.out.lt k hk).1))
                have HT := Lib.hid (pack_turn hne HJ.out HP.out)
                have hrb : runB j = [(j : Int)] := by simp [runB, h255]
                rw [hrb] at HT
                clear hown' hgrow hrb hwr
                go_wp2
                go_roundw
                case rel => exact ⟨k + j, !b, acc ++ [(j : Int)], by omega, by go_num, rfl, HO1.out, HB1.out, Lib.hid HT.out.1⟩
                case measure => have h9 := HT.out.2; simp [intOf, boolOf]; rw [show ((k : Int) + (j : Int)).toNat = k + j from by omega]; exact h9
            · have hwr : IntKind.u8.wrap ((j : Int) - 255) = (j : Int) - 255 := IntWalk.u8_in _ (by omega)
              go_wp2_with (at_builtin; refine wpList_append_own _ rfl (.tmp 37) (.tmp 41) 93 rfl w.heap.size 5 i0 (.int .u8 0) 1 1 Try.underlying93 hi hz0 hz1 hz2 rfl (by decide) _ _ _ rfl (HO.out.alloc _) ⟨wr.heap.size, 0, none⟩ 2 2 [.int .u8 255, .int .u8 ((j : Int) - 255)] rfl rfl ?_ ?_ ?_ ?_ ?_ ?_)
              · exact ⟨rfl, rfl⟩
              · unfold maxLen; omega
              · omega
              · have := HB.out.size; simp; omega
              · intro v' w1 hown' hgrow _
                have HO1 := Lib.hid (own_app (new := [255, (j : Int) - 255]) rfl hown')
                have HB1 := Lib.hid ((HB.out.alloc HB.out.size _).grown hgrow (by have := HB.out.size; simp; omega) (fun k hk => (HO.out.lt k hk).1))
                have HT := Lib.hid (pack_turn hne HJ.out HP.out)
                have hrb : runB j = [255, (j : Int) - 255] := by simp [runB, h255]
                rw [hrb] at HT
                clear hown' hgrow hrb hwr
                go_wp2
                go_roundw
                case rel => exact ⟨k + j, !b, acc ++ [255, (j : Int) - 255], by omega, by go_num, rfl, HO1.out, HB1.out, Lib.hid HT.out.1⟩
                case measure => have h9 := HT.out.2; simp [intOf, boolOf]; rw [show ((k : Int) + (j : Int)).toNat = k + j from by omega]; exact h9
    · have hkn : k = n := by omega
      subst hkn
      have HF : Hid (packL bs = acc) := by
        have h := HP.out
        rw [List.drop_eq_nil_of_le (by rw [Hn.out]; omega), packR_nil, List.append_nil] at h
        exact h
      have HO := Lib.hid hown; clear hown
      have HB := Lib.hid hb; clear hb
      go_wp2
      go_ret
      refine ⟨⟨_, rfl, ?_⟩, HB.out⟩
      rw [HF.out]
      exact HO.out
/-- 'string(b)' of an owned row of bytes -/
theorem own_string {w : World} {B : Nat} {v : Value} {acc : List Int} (h : w.ownsRow B 5 1 v acc.length (acc.map (Value.int .u8))) : (convert 93 9 v).run Try.prog w = .ok (.string (strOfNums acc)) w := by
  have h0 := h
  rcases h.2 with ⟨rfl, hn⟩ | ⟨g, cap, cur, rfl, _⟩
  · have : acc = [] := List.eq_nil_of_length_eq_zero hn
    subst this
    rw [run_convert_bytes_nil w 93 5 Try.underlying93 Try.underlying5 0 0 9 Try.underlying9]
    rfl
  · refine run_convert_bytes_arg w 93 5 Try.underlying93 Try.underlying5 g 0 acc.length cap acc rfl ?_ 9 Try.underlying9
    intro i hi
    rw [Nat.zero_add, h0.cellAt i (by omega)]
    simp [List.getD, List.getElem?_eq_getElem hi]

set_option maxHeartbeats 2000000 in
set_option maxRecDepth 100000 in
theorem l07Pack_any (A : Option Addr) (n c : Nat) (bs : List Bool) (w : World) (hn : bs.length = n) (hc : n ≤ 256) (hr : Rd w w.heap.size A (bs.map Value.bool)) :
    Calls Try.prog 78 #[.slice A n c] w fun e w' => e = .returned (.string (strOfNums (packL bs))) ∧ Below w.heap.size w w' := by
  obtain ⟨i0, hi, hz0, hz1, hz2⟩ := info_parts Try.info5
  have Hn := Lib.hid hn; clear hn
  have Hr := Lib.hid hr; clear hr
  have hlen : (packL bs).length ≤ 1026 := by
    have h := packF_len (2 * bs.length + 1) false bs
    have : bs.length ≤ 256 := by rw [Hn.out]; exact hc
    unfold packL; omega
  go_enter Try.func78, Try.ntmps78
  go_wp2
  go_loopw [3, 4, 5, 6] (fun v fl i _ wr => ∃ (k : Nat) (b : Bool) (acc : List Int), k ≤ n ∧ i = .int .i64 k ∧ fl = .bool b ∧ wr.ownsRow w.heap.size 5 1 v acc.length (acc.map (Value.int .u8)) ∧ Below w.heap.size w wr ∧ Hid (packL bs = acc ++ packR b (bs.drop k)))
    (fun _ fl i _ _ => needP (boolOf fl) (bs.drop (intOf i).toNat))
  case atStart =>
    refine ⟨0, false, [], Nat.zero_le _, rfl, rfl, ?_, below_new _ _, Lib.hid (by rw [packL_eq]; rfl)⟩
    have h := World.ownsRow_made (e := 5) (size := 1) (base := w.heap.size) w #[] 0 (Nat.le_refl _) (Nat.zero_le _) rfl
    simpa using h
  case round =>
    obtain ⟨k, b, acc, hk, rfl, rfl, hown, hb, HP⟩ := hrel
    have hacc : acc.length ≤ 1026 := by
      have := congrArg List.length HP.out
      rw [List.length_append] at this
      omega
    by_cases hlt : k < n
    · have hne := drop_ne Hn.out hlt
      have hlead := lead_le b (bs.drop k)
      rw [List.length_drop, Hn.out] at hlead
      have HR := Lib.hid (packR_step (b := b) hne)
      have HO := Lib.hid hown; clear hown
      have HB := Lib.hid hb; clear hb
      go_wp2
      go_loop [6] (fun r => ∃ j : Nat, j ≤ lead b (bs.drop k) ∧ r = .int .i64 (j : Nat)) (fun r => n - (intOf r).toNat)
      case atStart => exact ⟨0, Nat.zero_le _, rfl⟩
      case round =>
        obtain ⟨j, hj, rfl⟩ := hrel
        have hjl : k + j < n → k + j < bs.length := fun h => by rw [Hn.out]; exact h
        have hcell : ∀ h : k + j < n, ∃ ad, A = some ad ∧ wr.cell? (ad.add (k + j)) = some (.bool (bs[k + j]'(hjl h))) := fun h => by
          obtain ⟨ad, e, _, hx⟩ := (Hr.out.below HB.out).at_ (k := k + j) (by rw [List.length_map]; exact hjl h)
          rw [List.getElem_map] at hx
          exact ⟨ad, e, hx⟩
        have hbf : ((!b) == b) = false := by cases b <;> rfl
        by_cases hj2 : j < lead b (bs.drop k)
        · have hx := lead_lt hj2
          rw [List.getElem?_drop] at hx
          have hkj : k + j < n := by have := (List.getElem?_eq_some_iff.1 hx).1; rw [Hn.out] at this; exact this
          obtain ⟨ad, rfl, hc1⟩ := hcell hkj
          obtain ⟨_, hx2⟩ := List.getElem?_eq_some_iff.1 hx
          rw [hx2] at hc1
          clear hcell hx hx2 hbf hjl
          go_wp2
          go_round
          case rel => exact ⟨j + 1, hj2, by go_num⟩
          case measure => simp [intOf]; omega
        · have hje : j = lead b (bs.drop k) := by omega
          have HJ := Lib.hid hje; clear hje
          have hexit : k + j = n ∨ (k + j < n) := by omega
          rcases hexit with hend | hin
          · have HE := Lib.hid hend
            have hge : ¬ (((k + j : Nat) : Int) < (n : Int)) := by omega
            clear hend hcell hjl hbf
            by_cases h255 : j < 255
            · have hwr : IntKind.u8.wrap (j : Int) = (j : Int) := IntWalk.u8_in _ (by omega)
              go_wp2_with (at_builtin; refine wpList_append_own _ rfl (.tmp 32) (.tmp 35) 93 rfl w.heap.size 5 i0 (.int .u8 0) 1 1 Try.underlying93 hi hz0 hz1 hz2 rfl (by decide) _ _ _ rfl (HO.out.alloc _) ⟨wr.heap.size, 0, none⟩ 1 1 [.int .u8 j] rfl rfl ?_ ?_ ?_ ?_ ?_ ?_)
              · exact rfl
              · unfold maxLen; omega
              · omega
              · have := HB.out.size; simp; omega
              · intro v' w1 hown' hgrow _
                have HO1 := Lib.hid (own_app (new := [(j : Int)]) rfl hown')
                have HB1 := Lib.hid ((HB.out.alloc HB.out.size _).grown hgrow (by have := HB.out.size; simp; omega) (fun k hk => (HO.out.lt k hk).1))
                have HT := Lib.hid (pack_turn hne HJ.out HP.out)
                have hrb : runB j = [(j : Int)] := by simp [runB, h255]
                rw [hrb] at HT
                clear hown' hgrow hrb hwr
                go_wp2
                go_roundw
                case rel => exact ⟨k + j, !b, acc ++ [(j : Int)], by omega, by go_num, rfl, HO1.out, HB1.out, Lib.hid HT.out.1⟩
                case measure => have h9 := HT.out.2; simp [intOf, boolOf]; rw [show ((k : Int) + (j : Int)).toNat = k + j from by omega]; exact h9
            · have hwr : IntKind.u8.wrap ((j : Int) - 255) = (j : Int) - 255 := IntWalk.u8_in _ (by omega)
              go_wp2_with (at_builtin; refine wpList_append_own _ rfl (.tmp 37) (.tmp 41) 93 rfl w.heap.size 5 i0 (.int .u8 0) 1 1 Try.underlying93 hi hz0 hz1 hz2 rfl (by decide) _ _ _ rfl (HO.out.alloc _) ⟨wr.heap.size, 0, none⟩ 2 2 [.int .u8 255, .int .u8 ((j : Int) - 255)] rfl rfl ?_ ?_ ?_ ?_ ?_ ?_)
              · exact ⟨rfl, rfl⟩
              · unfold maxLen; omega
              · omega
              · have := HB.out.size; simp; omega
              · intro v' w1 hown' hgrow _
                have HO1 := Lib.hid (own_app (new := [255, (j : Int) - 255]) rfl hown')
                have HB1 := Lib.hid ((HB.out.alloc HB.out.size _).grown hgrow (by have := HB.out.size; simp; omega) (fun k hk => (HO.out.lt k hk).1))
                have HT := Lib.hid (pack_turn hne HJ.out HP.out)
                have hrb : runB j = [255, (j : Int) - 255] := by simp [runB, h255]
                rw [hrb] at HT
                clear hown' hgrow hrb hwr
                go_wp2
                go_roundw
                case rel => exact ⟨k + j, !b, acc ++ [255, (j : Int) - 255], by omega, by go_num, rfl, HO1.out, HB1.out, Lib.hid HT.out.1⟩
                case measure => have h9 := HT.out.2; simp [intOf, boolOf]; rw [show ((k : Int) + (j : Int)).toNat = k + j from by omega]; exact h9
          · obtain ⟨ad, rfl, hc1⟩ := hcell hin
            have hx : bs[k + j]'(hjl hin) = !b := by
              have h1 := lead_at (b := b) (l := bs.drop k) (by rw [← HJ.out, List.length_drop, Hn.out]; omega)
              rw [← HJ.out, List.getElem?_drop, List.getElem?_eq_getElem (hjl hin)] at h1
              exact Option.some.inj h1
            rw [hx] at hc1
            clear hcell hx hjl
            by_cases h255 : j < 255
            · have hwr : IntKind.u8.wrap (j : Int) = (j : Int) := IntWalk.u8_in _ (by omega)
              go_wp2_with (at_builtin; refine wpList_append_own _ rfl (.tmp 32) (.tmp 35) 93 rfl w.heap.size 5 i0 (.int .u8 0) 1 1 Try.underlying93 hi hz0 hz1 hz2 rfl (by decide) _ _ _ rfl (HO.out.alloc _) ⟨wr.heap.size, 0, none⟩ 1 1 [.int .u8 j] rfl rfl ?_ ?_ ?_ ?_ ?_ ?_)
              · exact rfl
              · unfold maxLen; omega
              · omega
              · have := HB.out.size; simp; omega
              · intro v' w1 hown' hgrow _
                have HO1 := Lib.hid (own_app (new := [(j : Int)]) rfl hown')
                have HB1 := Lib.hid ((HB.out.alloc HB.out.size _).grown hgrow (by have := HB.out.size; simp; omega) (fun k hk => (HO.out.lt k hk).1))
                have HT := Lib.hid (pack_turn hne HJ.out HP.out)
                have hrb : runB j = [(j : Int)] := by simp [runB, h255]
                rw [hrb] at HT
                clear hown' hgrow hrb hwr
                go_wp2
                go_roundw
                case rel => exact ⟨k + j, !b, acc ++ [(j : Int)], by omega, by go_num, rfl, HO1.out, HB1.out, Lib.hid HT.out.1⟩
                case measure => have h9 := HT.out.2; simp [intOf, boolOf]; rw [show ((k : Int) + (j : Int)).toNat = k + j from by omega]; exact h9
            · have hwr : IntKind.u8.wrap ((j : Int) - 255) = (j : Int) - 255 := IntWalk.u8_in _ (by omega)
              go_wp2_with (at_builtin; refine wpList_append_own _ rfl (.tmp 37) (.tmp 41) 93 rfl w.heap.size 5 i0 (.int .u8 0) 1 1 Try.underlying93 hi hz0 hz1 hz2 rfl (by decide) _ _ _ rfl (HO.out.alloc _) ⟨wr.heap.size, 0, none⟩ 2 2 [.int .u8 255, .int .u8 ((j : Int) - 255)] rfl rfl ?_ ?_ ?_ ?_ ?_ ?_)
              · exact ⟨rfl, rfl⟩
              · unfold maxLen; omega
              · omega
              · have := HB.out.size; simp; omega
              · intro v' w1 hown' hgrow _
                have HO1 := Lib.hid (own_app (new := [255, (j : Int) - 255]) rfl hown')
                have HB1 := Lib.hid ((HB.out.alloc HB.out.size _).grown hgrow (by have := HB.out.size; simp; omega) (fun k hk => (HO.out.lt k hk).1))
                have HT := Lib.hid (pack_turn hne HJ.out HP.out)
                have hrb : runB j = [255, (j : Int) - 255] := by simp [runB, h255]
                rw [hrb] at HT
                clear hown' hgrow hrb hwr
                go_wp2
                go_roundw
                case rel => exact ⟨k + j, !b, acc ++ [255, (j : Int) - 255], by omega, by go_num, rfl, HO1.out, HB1.out, Lib.hid HT.out.1⟩
                case measure => have h9 := HT.out.2; simp [intOf, boolOf]; rw [show ((k : Int) + (j : Int)).toNat = k + j from by omega]; exact h9
    · have hkn : k = n := by omega
      subst hkn
      have HF : Hid (packL bs = acc) := by
        have h := HP.out
        rw [List.drop_eq_nil_of_le (by rw [Hn.out]; omega), packR_nil, List.append_nil] at h
        exact h
      have HO := Lib.hid hown; clear hown
      have HB := Lib.hid hb; clear hb
      have hcv := own_string HO.out
      go_wp2
      go_ret
      exact ⟨congrArg (fun l => Ending.returned (Value.string (strOfNums l))) HF.out.symm, HB.out⟩

set_option maxHeartbeats 400000 in
theorem packCells_yes (A : Option Addr) (n c : Nat) (bs : List Bool) (w : World) (hn : bs.length = n) (hc : n ≤ 256) (hr : Rd w w.heap.size A (bs.map Value.bool)) :
    Calls Try.prog 26 #[.slice A n c] w fun e w' => e = .returned (.tuple #[.string (strOfNums (packL bs)), .bool true]) ∧ Below w.heap.size w w' := by
  have C := pack_any A n c bs w hn hc hr
  have HC := Lib.hid C; clear C
  clear hn hr
  go_enter Try.func26, Try.ntmps26
  go_wp2_with fail
  refine HC.out.mono ?_
  rintro e w1 ⟨⟨v, rfl, ho⟩, hb⟩
  have hcv := own_string ho
  have HB := Lib.hid hb; clear hb ho
  go_wp2
  go_ret2
  exact ⟨rfl, HB.out⟩
set_option maxHeartbeats 400000 in
theorem packCells_no (A : Option Addr) (n c : Nat) (w : World) (hc : 256 < n) (hm : n ≤ 140737488351232) :
    Calls Try.prog 26 #[.slice A n c] w fun e w' => e = .returned (.tuple #[.string ⟨#[]⟩, .bool false]) ∧ Below w.heap.size w w' := by
  go_enter Try.func26, Try.ntmps26
  go_wp2
  go_ret2
  exact ⟨rfl, Below.refl _ _⟩
set_option maxHeartbeats 400000 in
theorem specPackCells_yes (A : Option Addr) (n c : Nat) (bs : List Bool) (w : World) (hn : bs.length = n) (hc : n ≤ 256) (hr : Rd w w.heap.size A (bs.map Value.bool)) :
    Calls Try.prog 24 #[.slice A n c] w fun e w' => e = .returned (.tuple #[.string (strOfNums (packL bs)), .bool true]) ∧ Below w.heap.size w w' := by
  have HC := Lib.hid (l07Pack_any A n c bs w hn hc hr)
  clear hn hr
  go_enter Try.func24, Try.ntmps24
  go_wp2_with fail
  refine HC.out.mono ?_
  rintro e w1 ⟨rfl, hb⟩
  have HB := Lib.hid hb; clear hb
  go_wp2
  go_ret2
  exact ⟨rfl, HB.out⟩
set_option maxHeartbeats 400000 in
theorem specPackCells_no (A : Option Addr) (n c : Nat) (w : World) (hc : 256 < n) (hm : n ≤ 140737488351232) :
    Calls Try.prog 24 #[.slice A n c] w fun e w' => e = .returned (.tuple #[.string ⟨#[]⟩, .bool false]) ∧ Below w.heap.size w w' := by
  go_enter Try.func24, Try.ntmps24
  go_wp2
  go_ret2
  exact ⟨rfl, Below.refl _ _⟩
end Go.Proofs.Ytbefcfdmaafghaa
