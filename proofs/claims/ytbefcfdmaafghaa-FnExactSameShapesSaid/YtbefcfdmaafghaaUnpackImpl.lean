/- The cells of a text of runs: the program's way. -/
import Derived.Test.YtbefcfdmaafghaaUnpackPlain
import Derived.Test.YtbefcfdmaafghaaPackWalk
import Derived.Test.YtbefcfdmaafghaaRepeat
namespace Go.Proofs.Ytbefcfdmaafghaa
open Go.RowKit
def bytesN (s : ByteArray) : List Nat := s.data.toList.map UInt8.toNat
theorem bytesN_len (s : ByteArray) : (bytesN s).length = s.size := by simp [bytesN]
theorem bytesN_drop (s : ByteArray) (k : Nat) (h : k < s.size) : (bytesN s).drop k = s[k].toNat :: (bytesN s).drop (k + 1) := by
  rw [List.drop_eq_getElem_cons (by rw [bytesN_len]; exact h)]
  congr 1
  simp only [bytesN, List.getElem_map]
  rfl
theorem bytesN_end (s : ByteArray) (k : Nat) (h : s.size ≤ k) : (bytesN s).drop k = [] := List.drop_eq_nil_of_le (by rw [bytesN_len]; exact h)
/-- the runs of o read as s -/
def sameT (o : List Bool) (s : ByteArray) : Bool := (strOfNums (packL o)).toList == s.toList
theorem sameT_tok {o : List Bool} {s : ByteArray} (ho : o.length ≤ 256) (h : tok (bytesN s) = false) : sameT o s = false := by
  rw [← Bool.not_eq_true]
  intro hs
  have e : (strOfNums (packL o)).toList = s.toList := by simpa [sameT] using hs
  rw [ByteArray.toList_eq, ByteArray.toList_eq, strOfNums_data] at e
  have hb : bytesN s = packN (2 * o.length + 1) false o := by
    unfold bytesN
    rw [← e]
    unfold packL
    have hbd := packF_bd (2 * o.length + 1) false o ho
    rw [packF_packN] at hbd ⊢
    rw [List.map_map, List.map_map]
    conv => rhs; rw [← List.map_id (packN (2 * o.length + 1) false o)]
    refine List.map_congr_left fun x hx => ?_
    have := hbd (x : Int) (List.mem_map_of_mem hx)
    simp
    omega
  rw [hb, tok_pack] at h
  cases h
def uI (s : ByteArray) : Option (List Bool) := match unI (bytesN s) false [] with
  | some o => if sameT o s = true then some o else none
  | none => none
def uS (s : ByteArray) : Option (List Bool) := if 256 < (unS (bytesN s) false []).length then none else if sameT (unS (bytesN s) false []) s = true then some (unS (bytesN s) false []) else none
theorem uI_uS (s : ByteArray) : uI s = uS s := by
  obtain ⟨h1, h2⟩ := un_rel (bytesN s) false [] (by simp)
  unfold uI uS
  cases h : unI (bytesN s) false [] with
  | some o =>
    obtain ⟨e, hle⟩ := h1 o h
    rw [e, if_neg (by omega)]
  | none =>
    rcases h2 h with hb | ht
    · rw [if_pos hb]
    · by_cases hb : 256 < (unS (bytesN s) false []).length
      · rw [if_pos hb]
      · rw [if_neg hb, if_neg]
        rw [sameT_tok (by omega) ht]
        simp
theorem uI_none {s : ByteArray} (h : unI (bytesN s) false [] = none) : uI s = none := by simp [uI, h]
theorem uI_bad {s : ByteArray} {o : List Bool} (h : unI (bytesN s) false [] = some o) (hs : sameT o s = false) : uI s = none := by simp [uI, h, hs]
theorem uI_good {s : ByteArray} {o : List Bool} (h : unI (bytesN s) false [] = some o) (hs : sameT o s = true) : uI s = some o := by simp [uI, h, hs]
theorem unI_one {x : Nat} {l : List Nat} {b : Bool} {out : List Bool} (h : x ≠ 255) : unI (x :: l) b out = if 256 < out.length + x then none else unI l (!b) (out ++ List.replicate x b) := by
  cases l with
  | nil => simp only [unI]; rw [if_neg h]
  | cons m r => simp only [unI]; rw [if_neg h]
theorem unI_two {m : Nat} {l : List Nat} {b : Bool} {out : List Bool} : unI (255 :: m :: l) b out = if 256 < out.length + (255 + m) then none else unI l (!b) (out ++ List.replicate (255 + m) b) := by
  simp only [unI]; rw [if_pos trivial]
theorem own_form {w : World} {B n : Nat} {e : TypeId} {v : Value} {xs : List Value} (h : w.ownsRow B e 1 v n xs) : ∃ A c, v = .slice A n c := by
  rcases h.2 with ⟨rfl, rfl⟩ | ⟨g, cap, cur, rfl, _⟩
  · exact ⟨_, _, rfl⟩
  · exact ⟨_, _, rfl⟩
theorem own_nil (w : World) (B : Nat) (e : TypeId) : w.ownsRow B e 1 (.slice none 0 0) 0 [] := ⟨rfl, .inl ⟨rfl, rfl⟩⟩
theorem own_rep {w : World} {B m : Nat} {v : Value} {b : Bool} {out : List Bool} (h : w.ownsRow B 4 1 v (out.length + m) (out.map Value.bool ++ List.replicate m (Value.bool b))) : w.ownsRow B 4 1 v (out ++ List.replicate m b).length ((out ++ List.replicate m b).map Value.bool) := by
  rw [List.length_append, List.length_replicate, List.map_append, List.map_replicate]
  exact h
theorem rep_cells {w : World} {g m : Nat} {b : Bool} {t : TypeId} (h : w.heap[g]? = some (.cells (List.replicate m (Value.bool b)).toArray t (0, 0))) : ∀ j u, (List.replicate m (Value.bool b))[j]? = some u → w.cell? ((⟨g, 0, none⟩ : Addr).add j) = some u := by
  intro j u hu
  obtain ⟨hj, rfl⟩ := rep_at hu
  rw [← rowK_full] at h
  rw [add_flat, Nat.zero_add]
  exact rowK_cell h hj
theorem repeat_int (g : Nat) (b : Bool) (z : Int) (m : Nat) (hz : z = (m : Int)) (w : World) (hg : g < w.heap.size) (hm : m ≤ 1024) (hc : w.cell? ⟨g, 0, none⟩ = some (.bool b)) :
    Calls Try.prog 94 #[.slice (some ⟨g, 0, none⟩) 1 1, .int .i64 z] w fun e w' => e = .returned (.slice (some ⟨w.heap.size, 0, none⟩) m m) ∧
      w'.heap[w.heap.size]? = some (.cells (List.replicate m (Value.bool b)).toArray 4 (0, 0)) ∧ Below w.heap.size w w' := by
  subst hz
  exact repeat_any g b m w hg hm hc

set_option maxHeartbeats 4000000 in
set_option maxRecDepth 100000 in
theorem unpackCells_any (s : ByteArray) (w : World) (hs : s.size ≤ 1048576) :
    Calls Try.prog 46 #[.string s] w fun e w' => ∃ A c, e = .returned (.tuple #[.slice A ((uI s).getD []).length c, .bool (uI s).isSome]) ∧ w'.ownsRow w.heap.size 4 1 (.slice A ((uI s).getD []).length c) ((uI s).getD []).length (((uI s).getD []).map Value.bool) ∧ Below w.heap.size w w' := by
  obtain ⟨i0, hi, hz0, hz1, hz2⟩ := info_parts Try.info4
  go_enter Try.func46, Try.ntmps46
  go_wp2
  go_loopw [4, 5, 6, 7] (fun v fl i _ wr => ∃ (k : Nat) (b : Bool) (out : List Bool), k ≤ s.size ∧ i = .int .i64 k ∧ fl = .bool b ∧ wr.ownsRow w.heap.size 4 1 v out.length (out.map Value.bool) ∧ Below w.heap.size w wr ∧ out.length ≤ 256 ∧ Hid (unI (bytesN s) false [] = unI ((bytesN s).drop k) b out))
    (fun _ _ i _ _ => s.size - (intOf i).toNat)
  case atStart =>
    refine ⟨0, false, [], Nat.zero_le _, rfl, rfl, ?_, below_new _ _, by simp, Lib.hid rfl⟩
    have h := World.ownsRow_made (e := 4) (size := 1) (base := w.heap.size) w #[] 0 (Nat.le_refl _) (Nat.zero_le _) rfl
    simpa using h
  case round =>
    obtain ⟨k, b, out, hk, rfl, rfl, hown, hb, hout, HU⟩ := hrel
    obtain ⟨A, c, rfl⟩ := own_form hown
    have HO := Lib.hid hown; clear hown
    have HB := Lib.hid hb; clear hb
    by_cases hlt : k < s.size
    · have HD := Lib.hid (bytesN_drop s k hlt)
      have hx1 : s[k].toNat ≤ 255 := by have := s[k].toNat_lt; omega
      by_cases h255 : s[k].toNat = 255
      · by_cases hend : k + 1 = s.size
        · have HN : Hid (uI s = none) := Lib.hid (uI_none (by rw [HU.out, HD.out, h255, bytesN_end s _ (by omega)]; rfl))
          go_wp2
          go_ret2
          exact ⟨none, 0, by rw [HN.out]; rfl, by rw [HN.out]; exact own_nil _ _ _, HB.out⟩
        · have hlt2 : k + 1 < s.size := by omega
          have hx2 : s[k + 1].toNat ≤ 255 := by have := s[k + 1].toNat_lt; omega
          have HT : Hid (unI (bytesN s) false [] = if 256 < out.length + (255 + s[k + 1].toNat) then none else unI ((bytesN s).drop (k + 1 + 1)) (!b) (out ++ List.replicate (255 + s[k + 1].toNat) b)) := Lib.hid (by rw [HU.out, HD.out, h255, bytesN_drop s (k + 1) hlt2, unI_two])
          by_cases hbig : (256 : Int) < (out.length : Int) + (255 + (s[k + 1].toNat : Int))
          · have HN : Hid (uI s = none) := Lib.hid (uI_none (by rw [HT.out, if_pos (by omega)]))
            go_wp2
            go_ret2
            exact ⟨none, 0, by rw [HN.out]; rfl, by rw [HN.out]; exact own_nil _ _ _, HB.out⟩
          · have HT2 : Hid (unI (bytesN s) false [] = unI ((bytesN s).drop (k + 1 + 1)) (!b) (out ++ List.replicate (255 + s[k + 1].toNat) b)) := Lib.hid (by rw [HT.out, if_neg (by omega)])
            clear HT
            go_wp2_with fail
            refine (repeat_int wr.heap.size b _ (255 + s[k + 1].toNat) (by first | rfl | omega) _ (by simp) (by omega) (by simp)).mono ?_
            rintro e w2 ⟨rfl, hh, hb2⟩
            have HB2 := Lib.hid (((HB.out.alloc HB.out.size _)).trans (hb2.mono (by have := HB.out.size; simp; omega)))
            have HO2 := Lib.hid (own_next (HO.out.alloc _) hb2)
            have hsz : (wr.alloc (.cells #[.bool b] 4)).heap.size = wr.heap.size + 1 := by simp
            rw [hsz] at hh
            have HR := Lib.hid (rep_cells hh)
            clear hsz
            clear hb2 hh
            go_wp2_with (at_builtin; go_loud (refine wpList_append_own _ rfl (.tmp 38) (.tmp 42) 22 rfl w.heap.size 4 i0 (.bool false) 1 1 Try.underlying22 hi hz0 hz1 hz2 rfl (by decide) _ _ _ rfl HO2.out ⟨_, 0, none⟩ (255 + s[k + 1].toNat) (255 + s[k + 1].toNat) (List.replicate (255 + s[k + 1].toNat) (.bool b)) rfl (by rw [List.length_replicate, Nat.mul_one]) HR.out (one_rep _ _) ?_ ?_ ?_ ?_))
            · unfold maxLen; omega
            · omega
            · exact HB2.out.size
            · intro v' w3 hown' hgrow _
              have HO3 := Lib.hid (own_rep hown')
              have HB3 := Lib.hid (HB2.out.grown hgrow HB2.out.size (fun k hk => (HO2.out.lt k hk).1))
              clear hown' hgrow
              have hol : (out ++ List.replicate (255 + s[k + 1].toNat) b).length ≤ 256 := by rw [List.length_append, List.length_replicate]; omega
              have HL := Lib.hid hol; clear hol
              go_wp2
              go_roundw
              case rel => exact ⟨k + 1 + 1, !b, _, by omega, by go_num, rfl, HO3.out, HB3.out, HL.out, HT2⟩
              case measure => simp [intOf]; omega
      · have HT : Hid (unI (bytesN s) false [] = if 256 < out.length + s[k].toNat then none else unI ((bytesN s).drop (k + 1)) (!b) (out ++ List.replicate s[k].toNat b)) := Lib.hid (by rw [HU.out, HD.out, unI_one h255])
        have hne : ¬ ((s[k].toNat : Int) = 255) := by omega
        by_cases hbig : (256 : Int) < (out.length : Int) + (s[k].toNat : Int)
        · have HN : Hid (uI s = none) := Lib.hid (uI_none (by rw [HT.out, if_pos (by omega)]))
          go_wp2
          go_ret2
          exact ⟨none, 0, by rw [HN.out]; rfl, by rw [HN.out]; exact own_nil _ _ _, HB.out⟩
        · have HT2 : Hid (unI (bytesN s) false [] = unI ((bytesN s).drop (k + 1)) (!b) (out ++ List.replicate s[k].toNat b)) := Lib.hid (by rw [HT.out, if_neg (by omega)])
          clear HT
          go_wp2_with fail
          refine (repeat_int wr.heap.size b _ s[k].toNat (by first | rfl | omega) _ (by simp) (by omega) (by simp)).mono ?_
          rintro e w2 ⟨rfl, hh, hb2⟩
          have HB2 := Lib.hid (((HB.out.alloc HB.out.size _)).trans (hb2.mono (by have := HB.out.size; simp; omega)))
          have HO2 := Lib.hid (own_next (HO.out.alloc _) hb2)
          have hsz : (wr.alloc (.cells #[.bool b] 4)).heap.size = wr.heap.size + 1 := by simp
          rw [hsz] at hh
          have HR := Lib.hid (rep_cells hh)
          clear hsz
          clear hb2 hh
          go_wp2_with (at_builtin; go_loud (refine wpList_append_own _ rfl (.tmp 38) (.tmp 42) 22 rfl w.heap.size 4 i0 (.bool false) 1 1 Try.underlying22 hi hz0 hz1 hz2 rfl (by decide) _ _ _ rfl HO2.out ⟨_, 0, none⟩ (s[k].toNat) (s[k].toNat) (List.replicate (s[k].toNat) (.bool b)) rfl (by rw [List.length_replicate, Nat.mul_one]) HR.out (one_rep _ _) ?_ ?_ ?_ ?_))
          · unfold maxLen; omega
          · omega
          · exact HB2.out.size
          · intro v' w3 hown' hgrow _
            have HO3 := Lib.hid (own_rep hown')
            have HB3 := Lib.hid (HB2.out.grown hgrow HB2.out.size (fun k hk => (HO2.out.lt k hk).1))
            clear hown' hgrow
            have hol : (out ++ List.replicate (s[k].toNat) b).length ≤ 256 := by rw [List.length_append, List.length_replicate]; omega
            have HL := Lib.hid hol; clear hol
            go_wp2
            go_roundw
            case rel => exact ⟨k + 1, !b, _, by omega, by go_num, rfl, HO3.out, HB3.out, HL.out, HT2⟩
            case measure => simp [intOf]; omega
    · have hke : k = s.size := by omega
      have HX : Hid (unI (bytesN s) false [] = some out) := Lib.hid (by rw [HU.out, bytesN_end s k (by omega)]; rfl)
      clear HU
      have HP := Lib.hid (pack_any A out.length c out wr rfl hout (Rd.own HO.out))
      go_wp2_with fail
      refine HP.out.mono ?_
      rintro e w2 ⟨⟨v, rfl, ho2⟩, hb2⟩
      have hcv := own_string ho2
      have HB2 := Lib.hid (HB.out.trans (hb2.mono HB.out.size))
      have HO2 := Lib.hid (own_next HO.out hb2)
      clear ho2 hb2 HP
      by_cases hsame : sameT out s = true
      · have hq : ((strOfNums (packL out)).toList == s.toList) = true := hsame
        have HG := Lib.hid (uI_good HX.out hsame)
        clear hsame
        go_wp2
        go_ret2
        exact ⟨A, c, by rw [HG.out]; rfl, by rw [HG.out]; exact HO2.out, HB2.out⟩
      · have hq : ((strOfNums (packL out)).toList == s.toList) = false := by simpa [sameT] using hsame
        have HG := Lib.hid (uI_bad HX.out (by simpa using hsame))
        clear hsame
        go_wp2
        go_ret2
        exact ⟨none, 0, by rw [HG.out]; rfl, by rw [HG.out]; exact own_nil _ _ _, HB2.out⟩
end Go.Proofs.Ytbefcfdmaafghaa
