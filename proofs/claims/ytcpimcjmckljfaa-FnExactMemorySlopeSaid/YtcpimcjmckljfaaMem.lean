/- MemorySlope told over lists. -/
import Derived.Test.YtcpimcjmckljfaaSlopeZ
import Derived.Test.YtcpimcjmckljfaaLogAll
import Derived.Test.YtcpimcjmckljfaaRosI
import Derived.Test.YtcpimcjmckljfaaRosS
namespace Go.Proofs.Ytcpimcjmckljfaa
open Ieee Go.RowKit
def chunk (xs : List Nat) (s i : Nat) : List Nat := (xs.drop (i * s)).take s
def chunkR (xs : List Nat) (s : Nat) (j : Nat) : List Nat := (List.range j).map fun i => spR (chunk xs s i)
def mem1 (xs : List Nat) (s : Nat) : Bool := (List.range (xs.length / s)).all fun i => spB (chunk xs s i)
def memXo (z : Int) : Nat := logX (floatOfInt .f32 z)
def memYo (xs : List Nat) (z : Int) : Nat := logX (meanF (chunkR xs z.toNat (xs.length / z.toNat)))
def memIn (xs : List Nat) (zs : List Int) : Bool := listB xs && (decide (2 ≤ zs.length ∧ zs.length ≤ 16) && rngI 2 xs.length zs)
def memAll (xs : List Nat) (zs : List Int) : Bool := memIn xs zs && zs.all fun z => mem1 xs z.toNat
def memB (xs : List Nat) (zs : List Int) : Bool := memAll xs zs && slopeOk (zs.map memXo) (zs.map (memYo xs))
def memR (xs : List Nat) (zs : List Int) : Nat := if memB xs zs = true then slopeS (zs.map memXo) (zs.map (memYo xs)) else 0
theorem memR_num (xs : List Nat) (zs : List Int) : nanF .f32 (memR xs zs) = false := by
  unfold memR
  split
  · rename_i h
    unfold memB at h
    rw [Bool.and_eq_true] at h
    obtain ⟨_, h⟩ := h
    unfold slopeOk at h
    simp only [Bool.and_eq_true] at h
    exact fin_num h.2.2.1
  · exact num_zero
theorem mem_no {xs : List Nat} {zs : List Int} (h : memAll xs zs = false) : memR xs zs = 0 ∧ memB xs zs = false := by
  have h2 : memB xs zs = false := by unfold memB; rw [h]; rfl
  unfold memR
  rw [h2]
  exact ⟨rfl, rfl⟩
theorem mem_bad1 {xs : List Nat} {zs : List Int} {k : Nat} (hk : k < zs.length) (h : mem1 xs zs[k].toNat = false) : memAll xs zs = false := by
  unfold memAll
  rw [show zs.all (fun z => mem1 xs z.toNat) = false from List.all_eq_false.2 ⟨zs[k], List.getElem_mem hk, by rw [h]; decide⟩, Bool.and_false]
theorem mem1_bad {xs : List Nat} {s j : Nat} (h0 : 0 < s) (h : (j + 1) * s ≤ xs.length) (hb : spB (chunk xs s j) = false) : mem1 xs s = false := by
  unfold mem1
  refine List.all_eq_false.2 ⟨j, ?_, by rw [hb]; decide⟩
  rw [List.mem_range]
  have := (Nat.le_div_iff_mul_le h0).2 h
  omega
theorem all_up {xs : List Nat} {s j : Nat} (h : (List.range j).all (fun i => spB (chunk xs s i)) = true) (hb : spB (chunk xs s j) = true) : (List.range (j + 1)).all (fun i => spB (chunk xs s i)) = true := by
  rw [List.range_succ, List.all_append, h]
  simp [hb]
theorem chunkR_up (xs : List Nat) (s j : Nat) : chunkR xs s (j + 1) = chunkR xs s j ++ [spR (chunk xs s j)] := by
  unfold chunkR
  rw [List.range_succ, List.map_append]
  rfl
theorem chunk_ros {xs : List Nat} {s j : Nat} (hf : finL xs = true) (hs : 2 ≤ s) (hs2 : s ≤ 256) (h : (j + 1) * s ≤ xs.length) : (chunk xs s j).length = s ∧ rosR (chunk xs s j) = spR (chunk xs s j) ∧ rosB (chunk xs s j) = spB (chunk xs s j) := by
  have hl : (chunk xs s j).length = s := by
    unfold chunk
    rw [List.length_take, List.length_drop]
    rw [Nat.succ_mul] at h
    omega
  have hfc : finL (chunk xs s j) = true := by
    have hm := finL_mem hf
    unfold finL
    rw [Bool.not_eq_true', List.any_eq_false]
    intro x hx
    have := hm x (List.mem_of_mem_drop (List.mem_of_mem_take hx))
    simp [this]
  have hin : rosIn (chunk xs s j) = true := by
    unfold rosIn listB
    rw [hl, hfc, decide_eq_true hs2, decide_eq_true hs]
    rfl
  unfold rosR rosB
  rw [hin]
  exact ⟨hl, rfl, rfl⟩
theorem add_add_off (ad : Addr) (p j : Nat) : (ad.add p).add j = ad.add (p + j) := by
  obtain ⟨b, o, q⟩ := ad
  unfold Addr.add
  cases q <;> (split <;> split <;> simp_all <;> omega)
theorem Rd.sub {w : World} {B : Nat} {ad : Addr} {xs : List Nat} {p s : Nat} (h : Rd w B (some ad) (xs.map (Value.float .f32))) : Rd w B (some (ad.add p)) (((xs.drop p).take s).map (Value.float .f32)) := by
  rcases h with h | ⟨ad', e, hb, hc⟩
  · left
    have : xs = [] := by simpa using h
    subst this
    simp
  · cases e
    refine .inr ⟨_, rfl, by rw [add_block]; exact hb, fun j u hu => ?_⟩
    rw [add_add_off]
    refine hc (p + j) u ?_
    rw [List.getElem?_map] at hu ⊢
    rw [List.getElem?_take] at hu
    split at hu
    · rwa [List.getElem?_drop] at hu
    · cases hu
theorem cnt_up {j : Nat} (h : j < 200) : floatBits .add .f32 (floatOfInt .f32 (j : Int)) 1065353216 = some (floatOfInt .f32 ((j : Int) + 1)) :=
  of_decide_eq_true (all_range (p := fun j => decide (floatBits .add .f32 (floatOfInt .f32 (j : Int)) 1065353216 = some (floatOfInt .f32 ((j : Int) + 1)))) (n := 200) (by decide +kernel) h)
theorem mem_parts {xs : List Nat} {zs : List Int} (h : memIn xs zs = true) : listB xs = true ∧ 2 ≤ zs.length ∧ zs.length ≤ 16 ∧ rngI 2 xs.length zs = true := by
  unfold memIn at h
  simp only [Bool.and_eq_true, decide_eq_true_eq] at h
  exact ⟨h.1, h.2.1.1, h.2.1.2, h.2.2⟩
theorem all_step {zs : List Int} {f : Int → Bool} {k : Nat} (hk : k < zs.length) (h : (zs.take k).all f = true) (hb : f zs[k] = true) : (zs.take (k + 1)).all f = true := by
  rw [List.take_succ_eq_append_getElem hk, List.all_append, h]
  simp [hb]
theorem map_step {zs : List Int} {f : Int → Nat} {k : Nat} (hk : k < zs.length) : (zs.take (k + 1)).map f = (zs.take k).map f ++ [f zs[k]] := by
  rw [List.take_succ_eq_append_getElem hk, List.map_append]; rfl
end Go.Proofs.Ytcpimcjmckljfaa
