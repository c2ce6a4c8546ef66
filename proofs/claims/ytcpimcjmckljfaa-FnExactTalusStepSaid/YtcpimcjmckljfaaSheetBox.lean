/- Boxes that hold a sheet, and what leaves them. -/
import Derived.Test.YtcpimcjmckljfaaHeld
import Derived.Test.YtcpimcjmckljfaaStill
import Derived.Deep.RegionHeld3
import Derived.Deep.RegionHeldLaw
import Derived.Deep.AppendLies
import Derived.StillTailTactics
import Derived.BigQuiet
namespace Go.Proofs.Ytcpimcjmckljfaa
open Go.RowKit
/-- both sides from 1 to 17 -/
def sidesB (wd hg : Int) : Bool := inB wd 1 17 && inB hg 1 17
/-- a sheet has as many places as its sides say -/
def vF (wd hg : Int) (n : Nat) : Bool := sidesB wd hg && decide ((n : Int) = wd * hg)
theorem inB_iff {n lo hi : Int} : inB n lo hi = true ↔ lo ≤ n ∧ n ≤ hi := by simp [inB]
theorem sidesB_iff {wd hg : Int} : sidesB wd hg = true ↔ (1 ≤ wd ∧ wd ≤ 17) ∧ (1 ≤ hg ∧ hg ≤ 17) := by simp [sidesB, inB_iff]
theorem vF_iff {wd hg : Int} {n : Nat} : vF wd hg n = true ↔ ((1 ≤ wd ∧ wd ≤ 17) ∧ (1 ≤ hg ∧ hg ≤ 17)) ∧ (n : Int) = wd * hg := by simp [vF, sidesB_iff]
theorem prod_bd {wd hg : Int} (h1 : 1 ≤ wd) (h2 : wd ≤ 17) (h3 : 1 ≤ hg) (h4 : hg ≤ 17) : 1 ≤ wd * hg ∧ wd * hg ≤ 289 := by
  have a := Int.mul_le_mul h1 h3 (by omega) (by omega)
  have b := Int.mul_le_mul h2 h4 (by omega) (by omega)
  omega

/-- A box that holds a field. -/
def FBox (w : World) (b : Nat) (wd hg : Int) (v : Value) : Prop :=
  w.cell? ⟨b, 0, none⟩ = some (.int .i64 wd) ∧ w.cell? ⟨b, 1, none⟩ = some (.int .i64 hg) ∧ w.cell? ⟨b, 2, none⟩ = some v

theorem FBox.below {w w' : World} {b B : Nat} {wd hg : Int} {v : Value} (h : FBox w b wd hg v) (hb : Below B w w') (hlt : b < B) : FBox w' b wd hg v :=
  ⟨(hb.cell (p := ⟨b, 0, none⟩) hlt).trans h.1, (hb.cell (p := ⟨b, 1, none⟩) hlt).trans h.2.1, (hb.cell (p := ⟨b, 2, none⟩) hlt).trans h.2.2⟩
theorem FBox.new (w : World) (t : TypeId) (wd hg : Int) (v : Value) : FBox (w.alloc (.cells #[.int .i64 wd, .int .i64 hg, v] t)) w.heap.size wd hg v :=
  ⟨by simp [go_sem], by simp [go_sem], by simp [go_sem]⟩

/-- the cells of two boxes that hold a field each -/
theorem six_below {w w' : World} {B b b' : Nat} {u0 u1 u2 u3 u4 u5 : Value} (hb : Below B w w') (h : b < B) (h' : b' < B)
    (hx : w.cell? ⟨b, 0, none⟩ = some u0 ∧ w.cell? ⟨b, 1, none⟩ = some u1 ∧ w.cell? ⟨b, 2, none⟩ = some u2 ∧ w.cell? ⟨b', 0, none⟩ = some u3 ∧ w.cell? ⟨b', 1, none⟩ = some u4 ∧ w.cell? ⟨b', 2, none⟩ = some u5) :
    w'.cell? ⟨b, 0, none⟩ = some u0 ∧ w'.cell? ⟨b, 1, none⟩ = some u1 ∧ w'.cell? ⟨b, 2, none⟩ = some u2 ∧ w'.cell? ⟨b', 0, none⟩ = some u3 ∧ w'.cell? ⟨b', 1, none⟩ = some u4 ∧ w'.cell? ⟨b', 2, none⟩ = some u5 :=
  ⟨(hb.cell (p := ⟨b, 0, none⟩) h).trans hx.1, (hb.cell (p := ⟨b, 1, none⟩) h).trans hx.2.1, (hb.cell (p := ⟨b, 2, none⟩) h).trans hx.2.2.1,
    (hb.cell (p := ⟨b', 0, none⟩) h').trans hx.2.2.2.1, (hb.cell (p := ⟨b', 1, none⟩) h').trans hx.2.2.2.2.1, (hb.cell (p := ⟨b', 2, none⟩) h').trans hx.2.2.2.2.2⟩

theorem fbox3 {w w' : World} {B b : Nat} {u0 u1 u2 : Value} (hb : Below B w w') (h : b < B) (hx : w.cell? ⟨b, 0, none⟩ = some u0 ∧ w.cell? ⟨b, 1, none⟩ = some u1 ∧ w.cell? ⟨b, 2, none⟩ = some u2) :
    w'.cell? ⟨b, 0, none⟩ = some u0 ∧ w'.cell? ⟨b, 1, none⟩ = some u1 ∧ w'.cell? ⟨b, 2, none⟩ = some u2 :=
  ⟨(hb.cell (p := ⟨b, 0, none⟩) h).trans hx.1, (hb.cell (p := ⟨b, 1, none⟩) h).trans hx.2.1, (hb.cell (p := ⟨b, 2, none⟩) h).trans hx.2.2⟩
/-- a box of three cells that may be written -/
def Open3 (w : World) (b : Nat) : Prop :=
  (w.cell? ⟨b, 0, none⟩ = some (.int .i64 0) ∧ w.cell? ⟨b, 1, none⟩ = some (.int .i64 0) ∧ w.cell? ⟨b, 2, none⟩ = some (.slice none 0 0)) ∧ w.frozen? ⟨b, 0, none⟩ = false ∧ w.frozen? ⟨b, 1, none⟩ = false ∧ w.frozen? ⟨b, 2, none⟩ = false
theorem Open3.below {w w' : World} {B b : Nat} (h : Open3 w b) (hb : Below B w w') (hlt : b < B) : Open3 w' b :=
  ⟨fbox3 hb hlt h.1, (hb.frozen (p := ⟨b, 0, none⟩) hlt).trans h.2.1, (hb.frozen (p := ⟨b, 1, none⟩) hlt).trans h.2.2.1, (hb.frozen (p := ⟨b, 2, none⟩) hlt).trans h.2.2.2⟩
theorem add_zero_off (g k : Nat) : (⟨g, 0, none⟩ : Addr).add k = ⟨g, k, none⟩ := by unfold Addr.add; split <;> simp_all
theorem one_floats (l : List Nat) : ∀ u ∈ l.map (Value.float .f32), u.oneCell' = true := by
  intro u hu
  rw [List.mem_map] at hu
  obtain ⟨x, _, rfl⟩ := hu
  rfl
theorem Rd.some {w : World} {B : Nat} {A : Option Addr} {xs : List Value} (h : Rd w B A xs) (h0 : 0 < xs.length) : ∃ ad, A = .some ad ∧ ad.block < B ∧ ∀ j u, xs[j]? = .some u → w.cell? (ad.add j) = .some u := by
  rcases h with rfl | h
  · simp at h0
  · exact h
set_option maxHeartbeats 1000000 in
set_option maxRecDepth 100000 in
theorem cloneF_any (ad : Addr) (n c : Nat) (bs : List Nat) (w : World) (hn : bs.length = n) (hc : n ≤ 1048576) (hr : Rd w w.heap.size (some ad) (bs.map (Value.float .f32))) :
    Calls Try.prog 80 #[.slice (some ad) n c] w fun e w' => (∃ g cp, e = .returned (.slice (some ⟨g, 0, none⟩) n cp) ∧ w'.ownsRow w.heap.size 23 1 (.slice (some ⟨g, 0, none⟩) n cp) n (bs.map (Value.float .f32))) ∧ Below w.heap.size w w' := by
  obtain ⟨i0, hi, hz0, hz1, hz2⟩ := info_parts Try.info23
  have HN : Hid ((w.alloc (.cells #[] 23)).ownsRow w.heap.size 23 1 (.slice (some ⟨w.heap.size, 0, none⟩) 0 0) 0 []) := Lib.hid (World.ownsRow_made w #[] 0 (Nat.le_refl _) (Nat.zero_le _) rfl)
  have he := Lib.run_eql_slice_nil (P := Try.prog) w 31 23 (some ad) n c 0 0 Try.underlying31
  by_cases h0 : 0 < n
  · obtain ⟨ad', had', had, hcl⟩ := hr.some (by rw [List.length_map]; omega)
    obtain rfl : ad' = ad := (Option.some.inj had').symm
    have HC : Hid (∀ j u, (bs.map (Value.float .f32))[j]? = some u → (w.alloc (.cells #[] 23)).cell? (ad'.add j) = some u) := Lib.hid fun j u hu => by
      rw [World.cell?_alloc_lt _ _ _ (by rw [add_block]; exact had)]; exact hcl j u hu
    have hn1 : (bs.map (Value.float .f32)).length = n * 1 := by simp [hn]
    have HL := Lib.hid hn1
    clear hr hcl hn hn1 had'
    go_enter Try.func80, Try.ntmps80
    go_wp2_with (at_builtin; go_must (refine wpList_append_lies _ rfl (.tmp 5) (.tmp 6) 31 rfl w.heap.size 23 i0 (.float .f32 0) 1 4 Try.underlying31 hi hz0 hz1 hz2 rfl (by decide) _ _ _ rfl HN.out ad' n c (bs.map (Value.float .f32)) rfl HL.out HC.out (one_floats _) h0 ?_ ?_ ?_ _ rfl ?_))
    · unfold maxLen; omega
    · omega
    · simp
    intro g cp w1 ho hg _ _
    have HO : Hid (w1.ownsRow w.heap.size 23 1 (.slice (some ⟨g, 0, none⟩) n cp) n (bs.map (Value.float .f32))) := Lib.hid (by simpa using ho)
    have HB := Lib.hid ((below_new w (.cells #[] 23)).grown hg (by simp) (fun k hk => (HN.out.lt k hk).1))
    clear ho hg
    go_wp2
    go_ret
    exact ⟨⟨g, cp, by simp, HO.out⟩, HB.out⟩
  · obtain rfl : n = 0 := by omega
    obtain rfl : bs = [] := List.eq_nil_of_length_eq_zero hn
    clear hr hn h0
    go_enter Try.func80, Try.ntmps80
    go_wp2_with (at_builtin; go_must (refine wpList_append_own_at _ rfl (.tmp 5) (.tmp 6) 31 rfl w.heap.size 23 i0 (.float .f32 0) 1 4 Try.underlying31 hi hz0 hz1 hz2 rfl (by decide) _ _ _ rfl HN.out ad 0 c [] rfl rfl (fun j u hu => by simp at hu) (fun u hu => by cases hu) ?_ ?_ ?_ ?_))
    · unfold maxLen; omega
    · omega
    · simp
    intro v' w7 hown' hgrow _ hat'
    have HV7 := Lib.hid hown'
    have HB := Lib.hid ((below_new w (.cells #[] 23)).grown hgrow (by simp) (fun k hk => (HN.out.lt k hk).1))
    have HAT := Lib.hid hat'
    clear hown' hgrow hat'
    go_wp2
    go_ret
    have hsh : ∃ g cp, v' = .slice (some ⟨g, 0, none⟩) 0 cp := by
      rcases HV7.out.2 with ⟨hv, h0⟩ | ⟨g, cap, cur, hv, _⟩
      · rcases HAT.out with h | h <;> · rw [hv] at h; cases h
      · exact ⟨g, cap, hv⟩
    obtain ⟨g, cp, rfl⟩ := hsh
    exact ⟨⟨g, cp, rfl, HV7.out⟩, HB.out⟩
theorem FBox.grown {w w' : World} {b : Nat} {wd hg : Int} {v : Value} {r : Option Nat} (h : FBox w b wd hg v) (hg' : w.grownBy w' r) (_hlt : b < w.heap.size) (hne : some b ≠ r) : FBox w' b wd hg v :=
  ⟨hg'.cell (a := ⟨b, 0, none⟩) h.1 hne, hg'.cell (a := ⟨b, 1, none⟩) h.2.1 hne, hg'.cell (a := ⟨b, 2, none⟩) h.2.2 hne⟩
theorem Open3.new (w : World) : Open3 (w.alloc (.cells #[.int .i64 0, .int .i64 0, .slice none 0 0] 41)) w.heap.size :=
  ⟨⟨by simp [go_sem], by simp [go_sem], by simp [go_sem]⟩, by simp [go_sem], by simp [go_sem], by simp [go_sem]⟩
section
variable {w w' : World} {el el' : TypeId} {lo hi lo' hi' B : Nat} {A A' : Option Addr} {n c n' c' : Nat} {xs xs' : List Value}
theorem FBox.grownR {b : Nat} {wd hg : Int} {v : Value} (h : FBox w b wd hg v) (h' : RowIn w el' lo' hi' A' n' c' xs') (hgr : w.grownBy w' (Value.slice A' n' c').ownBlock) (hlt : b < w.heap.size) (hd : b < lo' ∨ hi' ≤ b) : FBox w' b wd hg v :=
  h.grown hgr hlt fun he => by
    have h3 := h'.2 b he.symm
    have h4 := (h'.1.lt b he.symm).1
    omega
end
end Go.Proofs.Ytcpimcjmckljfaa
