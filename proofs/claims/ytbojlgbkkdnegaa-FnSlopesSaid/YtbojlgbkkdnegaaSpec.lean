/- SpectrumOf, where every operation gives a number. -/
import Derived.Test.YtbojlgbkkdnegaaExp
import Derived.Test.YtbojlgbkkdnegaaGap
namespace Go.Proofs.Ytbojlgbkkdnegaa
open Ieee Go.RowKit
/-- the share of a mass -/
def pF (all m : Int) : Nat := fop .quo .f32 (fOf m) (fOf all)
/-- the sum of the terms of masses that are not nought -/
def sumT (T : Int → Nat) (xs : List Int) : Nat := xs.foldl (fun s m => if m = 0 then s else fop .add .f32 s (T m)) 0
theorem sumT_take {T : Int → Nat} {xs : List Int} {k : Nat} (h : k < xs.length) : sumT T (xs.take (k + 1)) = if xs[k] = 0 then sumT T (xs.take k) else fop .add .f32 (sumT T (xs.take k)) (T xs[k]) := by
  rw [List.take_succ_eq_append_getElem h]
  unfold sumT
  rw [List.foldl_append]
  rfl
/-- what is known of masses, a power, and the terms -/
structure SpIn (xs : List Int) (pw : Nat) (one : Bool) (T : Int → Nat) (r : Nat) : Prop where
  mass : massB xs = true
  bd : ∀ z ∈ xs, 0 ≤ z ∧ z ≤ 8
  len : xs.length ≤ 9
  fin : finB pw = true
  isOne : (FloatKind.f32.format.order pw 1065353216 == some .eq) = one
  quo : ∀ z ∈ xs, z ≠ 0 → floatBits .quo .f32 (fOf z) (fOf xs.sum) = some (pF xs.sum z) ∧ finB (pF xs.sum z) = true ∧ FloatKind.f32.format.order (pF xs.sum z) 0 = some .gt
  term : ∀ z ∈ xs, z ≠ 0 → (one = true ∧ floatBits .mul .f32 (pF xs.sum z) (logC (pF xs.sum z)) = some (T z)) ∨ (one = false ∧ ∃ u, floatBits .mul .f32 pw (logC (pF xs.sum z)) = some u ∧ expB u = some (T z))
  add : ∀ k (h : k < xs.length), xs[k] ≠ 0 → floatBits .add .f32 (sumT T (xs.take k)) (T xs[k]) = some (fop .add .f32 (sumT T (xs.take k)) (T xs[k]))
  res : (one = true ∧ r = sumT T xs ∧ nanF .f32 r = false) ∨ (one = false ∧ ∃ pm, finB (sumT T xs) = true ∧ FloatKind.f32.format.order (sumT T xs) 0 = some .gt ∧ floatBits .sub .f32 pw 1065353216 = some pm ∧ floatBits .quo .f32 (logC (sumT T xs)) pm = some r ∧ nanF .f32 r = false)
theorem sum_bd {xs : List Int} (h : ∀ z ∈ xs, 0 ≤ z ∧ z ≤ 8) : 0 ≤ xs.sum ∧ xs.sum ≤ 8 * (xs.length : Int) := by
  induction xs with
  | nil => simp
  | cons x xs ih =>
    have h1 := ih (fun z hz => h z (List.mem_cons_of_mem _ hz))
    have h2 := h x List.mem_cons_self
    rw [List.sum_cons, List.length_cons]
    omega
theorem sum_take_bd {xs : List Int} (h : ∀ z ∈ xs, 0 ≤ z ∧ z ≤ 8) (hl : xs.length ≤ 9) (k : Nat) : 0 ≤ (xs.take k).sum ∧ (xs.take k).sum ≤ 72 := by
  have h1 := sum_bd (xs := xs.take k) (fun z hz => h z (List.mem_of_mem_take hz))
  have h2 := List.length_take_le k xs
  have h3 : (xs.take k).length ≤ xs.length := by rw [List.length_take]; omega
  omega
set_option maxRecDepth 100000 in
set_option maxHeartbeats 8000000 in
theorem spectrumOf_any (A : Option Addr) (n c pw r : Nat) (one : Bool) (T : Int → Nat) (xs : List Int) (w : World) (hn : xs.length = n) (hr : Rd w w.heap.size A (xs.map (Value.int .i64))) (H : SpIn xs pw one T r) :
    Calls Try.prog 20 #[.slice A n c, .float .f32 pw] w fun e w' => e = .returned (.tuple #[.float .f32 (numV r), .bool (finB r)]) ∧ Below w.heap.size w w' := by
  have hn9 : n ≤ 9 := by have := H.len; omega
  have cm := areMasses_any A n c xs w hn (by omega) hr
  rw [H.mass] at cm
  have HC := Lib.hid cm
  have hcv := fun (z : Int) (W : World) => run_convert_int_float (P := Try.prog) W 2 25 .i64 .f32 z (by rw [Try.underlying2]; rfl) Try.und25
  have HF := Lib.hid (fun W => isFinite_any pw W)
  rw [H.fin] at HF
  have h1 := H.isOne
  have HH := Lib.hid H
  have Hr := Lib.hid hr
  have Hn := Lib.hid hn
  clear cm hr hn H
  go_enter Try.func20, Try.ntmps20
  go_wp2_with fail
  refine HC.out.mono ?_
  rintro e w1 ⟨rfl, hb⟩
  have B1 := Lib.hid hb
  have R1 := Lib.hid (Hr.out.next hb)
  clear hb HC
  go_wp2_with fail
  refine (HF.out _).mono ?_
  rintro e w' ⟨rfl, m2, hw2⟩
  obtain ⟨w2, hw⟩ : ∃ w2, w2 = w' := ⟨_, rfl⟩
  rw [← hw] at hw2 ⊢
  have B2 := Lib.hid (below_drw B1.out ⟨m2, hw2⟩)
  have R2 := Lib.hid (rd_drw R1.out ⟨m2, hw2⟩)
  clear hw hw2 HF R1 B1
  go_wp2_with fail
  go_loop [6, 8, 23] (fun s _ i => ∃ k : Nat, k ≤ n ∧ i = .int .i64 k ∧ s = .int .i64 (xs.take k).sum) (fun _ _ i => n - (intOf i).toNat)
  case atStart => exact ⟨0, Nat.zero_le _, rfl, rfl⟩
  case round =>
    obtain ⟨k, hk, rfl, rfl⟩ := hrel
    by_cases hlt : k < n
    · as_aux_lemma =>
      have hka : k < xs.length := by rw [Hn.out]; exact hlt
      obtain ⟨ad, rfl, _, hck⟩ := R2.out.at_ (k := k) (by rw [List.length_map]; exact hka)
      rw [List.getElem_map] at hck
      have hs := sum_snoc hka
      have hb := sum_take_bd HH.out.bd HH.out.len (k + 1)
      rw [hs] at hb
      have hwr : IntKind.i64.wrap ((xs.take k).sum + xs[k]) = (xs.take k).sum + xs[k] := by rw [IntKind.wrap_i64]; omega
      have HS := Lib.hid hs
      obtain ⟨x, hx⟩ : ∃ x, x = xs[k] := ⟨_, rfl⟩
      rw [← hx] at hck hwr HS
      clear hx hs hb
      go_wp2_with fail
      go_round
      case rel => exact ⟨k + 1, by omega, by go_num, by rw [HS.out]⟩
      case measure => simp [intOf]; omega
    · obtain rfl : k = n := by omega
      have hT : xs.take k = xs := List.take_of_length_le (by rw [Hn.out]; omega)
      rw [hT]
      clear hT
      go_wp2_with fail
      go_loopw [9, 11, 12, 33] (fun s _ _ i wr => ∃ (j : Nat), j ≤ k ∧ i = .int .i64 j ∧ s = .float .f32 (sumT T (xs.take j)) ∧ ∃ m, wr = w2.drewN m) (fun _ _ _ i _ => k - (intOf i).toNat)
      case atStart => exact ⟨0, Nat.zero_le _, rfl, rfl, 0, rfl⟩
      case round =>
        obtain ⟨j, hj, rfl, rfl, hq⟩ := hrel
        have HQ := Lib.hid hq
        by_cases hlj : j < k
        · as_aux_lemma =>
          have hka : j < xs.length := by rw [Hn.out]; exact hlj
          obtain ⟨ad, rfl, _, hck⟩ := R2.out.at_ (k := j) (by rw [List.length_map]; exact hka)
          rw [List.getElem_map] at hck
          have hck := cell_drw hq hck
          have hmem := List.getElem_mem hka
          have HST := Lib.hid (sumT_take (T := T) hka)
          have hadd := HH.out.add j hka
          have hquo := HH.out.quo _ hmem
          have hterm := HH.out.term _ hmem
          obtain ⟨x, hx⟩ : ∃ x, x = xs[j] := ⟨_, rfl⟩
          rw [← hx] at hck HST hadd hquo hterm
          clear hx hmem hq
          by_cases hx0 : x = 0
          · subst hx0
            have HST2 : Hid (sumT T (xs.take (j + 1)) = sumT T (xs.take j)) := Lib.hid (by rw [HST.out, if_pos rfl])
            clear hadd hquo hterm HST
            go_wp2_with fail
            go_roundw
            case rel => exact ⟨j + 1, by omega, by go_num, by rw [HST2.out], HQ.out⟩
            case measure => simp [intOf]; omega
          · have HST2 : Hid (sumT T (xs.take (j + 1)) = fop .add .f32 (sumT T (xs.take j)) (T x)) := Lib.hid (by rw [HST.out, if_neg hx0])
            obtain ⟨q1, q2, q3⟩ := hquo hx0
            have g1 := run_num (P := Try.prog) q1
            have g2 := run_num (P := Try.prog) (hadd hx0)
            unfold fOf at g1
            have hter := hterm hx0
            obtain ⟨p, hp⟩ : ∃ p, p = pF xs.sum x := ⟨_, rfl⟩
            rw [← hp] at g1 q2 q3 hter
            obtain ⟨s2, hs2⟩ : ∃ s2, s2 = fop .add .f32 (sumT T (xs.take j)) (T x) := ⟨_, rfl⟩
            rw [← hs2] at g2 HST2
            have HLG := Lib.hid (fun W => logNumber_any p W q2 q3)
            obtain ⟨lg, hlg⟩ : ∃ lg, lg = logC p := ⟨_, rfl⟩
            rw [← hlg] at HLG hter
            clear hadd hquo hterm HST q1 q2 q3 hp hs2 hlg
            rcases hter with ⟨rfl, ht⟩ | ⟨rfl, u, ht, hu⟩
            · have g3 := run_num (P := Try.prog) ht
              clear ht
              go_wp2_with fail
              refine (HLG.out _).mono ?_
              rintro e w' ⟨rfl, hq2⟩
              have HQ2 := Lib.hid (drw_trans HQ.out hq2)
              clear hq2 hck
              go_wp2
              go_roundw
              case rel => exact ⟨j + 1, by omega, by go_num, by rw [HST2.out], HQ2.out⟩
              case measure => simp [intOf]; omega
            · have g3 := run_num (P := Try.prog) ht
              have HE := Lib.hid (fun W => expNumber_any u _ W hu)
              clear ht hu
              go_wp2_with fail
              refine (HLG.out _).mono ?_
              rintro e w' ⟨rfl, hq2⟩
              have HQ2 := Lib.hid (drw_trans HQ.out hq2)
              clear hq2 hck
              go_wp2_with fail
              refine (HE.out _).mono ?_
              rintro e w'' ⟨rfl, hw''⟩
              rw [← hw'']
              clear hw'' w''
              go_wp2
              go_roundw
              case rel => exact ⟨j + 1, by omega, by go_num, by rw [HST2.out], HQ2.out⟩
              case measure => simp [intOf]; omega
        · obtain rfl : j = k := by omega
          have hT : xs.take j = xs := List.take_of_length_le (by rw [Hn.out]; omega)
          have BR := Lib.hid (below_drw B2.out hq)
          have hres := HH.out.res
          rw [hT]
          clear hT hq
          rcases hres with ⟨rfl, rfl, hnn⟩ | ⟨rfl, pm, f1, f2, f3, f4, hnn⟩
          · as_aux_lemma =>
            have HI := Lib.hid (fun W => ifNumber_any (sumT T xs) (sumT T xs) W (.refl _ _))
            clear hnn
            go_wp2_with fail
            refine (HI.out _).mono ?_
            rintro e w' ⟨rfl, m9, rfl⟩
            go_wp2
            go_ret2
            exact ⟨rfl, below_drewN BR.out _⟩
          · as_aux_lemma =>
            have HLG := Lib.hid (fun W => logNumber_any (sumT T xs) W f1 f2)
            have HI := Lib.hid (fun W => ifNumber_any r r W (.refl _ _))
            obtain ⟨s, hs⟩ : ∃ s, s = sumT T xs := ⟨_, rfl⟩
            rw [← hs] at HLG f4 ⊢
            obtain ⟨lg, hlg⟩ : ∃ lg, lg = logC s := ⟨_, rfl⟩
            rw [← hlg] at HLG f4
            have g3 := run_num (P := Try.prog) f3
            have g4 := run_num (P := Try.prog) f4
            clear hnn f1 f2 f3 f4 hlg hs
            go_wp2_with fail
            refine (HLG.out _).mono ?_
            rintro e w' ⟨rfl, hq2⟩
            have B3 := Lib.hid (below_drw BR.out hq2)
            clear hq2
            go_wp2_with fail
            refine (HI.out _).mono ?_
            rintro e w'' ⟨rfl, m9, rfl⟩
            go_wp2
            go_ret2
            exact ⟨rfl, below_drewN B3.out _⟩
end Go.Proofs.Ytbojlgbkkdnegaa
