/- Boxes of half the size; the triangle of distances. Plain. -/
import Derived.Test.YtikleaiflmoffaaBxo
namespace Go.Proofs.Ytikleaiflmoffaa
open Ieee
theorem nodup_le {α : Type} [DecidableEq α] : ∀ (l l' : List α), l.Nodup → (∀ x ∈ l, x ∈ l') → l.length ≤ l'.length := by
  intro l
  induction l with
  | nil => intro l' _ _; simp
  | cons a t ih =>
    intro l' hn hs
    obtain ⟨s1, s2, rfl⟩ := List.append_of_mem (hs a List.mem_cons_self)
    rw [List.nodup_cons] at hn
    have h := ih (s1 ++ s2) hn.2 (fun x hx => by
      have h1 := hs x (List.mem_cons_of_mem _ hx)
      have h2 : x ≠ a := fun he => hn.1 (he ▸ hx)
      simp at h1 ⊢
      rcases h1 with h1 | h1 | h1
      · exact .inl h1
      · exact absurd h1 h2
      · exact .inr h1)
    simp at h ⊢
    omega
theorem dis_fold : ∀ (Q L : List (Int × Int)), L.Nodup → (Q.foldl disS L).Nodup ∧ ∀ x, x ∈ Q.foldl disS L ↔ x ∈ L ∨ x ∈ Q := by
  intro Q
  induction Q with
  | nil => intro L h; exact ⟨h, fun x => by simp⟩
  | cons b Q ih =>
    intro L h
    have hn : (disS L b).Nodup ∧ ∀ x, x ∈ disS L b ↔ x ∈ L ∨ x = b := by
      unfold disS
      by_cases hb : b ∈ L
      · rw [if_pos hb]
        exact ⟨h, fun x => ⟨.inl, fun hx => hx.elim id (fun he => he ▸ hb)⟩⟩
      · rw [if_neg hb]
        refine ⟨?_, fun x => by simp⟩
        rw [List.nodup_append]
        refine ⟨h, by simp, fun x hx y hy => ?_⟩
        simp at hy
        subst hy
        exact fun he => hb (he ▸ hx)
    obtain ⟨h1, h2⟩ := ih (disS L b) hn.1
    refine ⟨h1, fun x => ?_⟩
    rw [List.foldl_cons, h2, hn.2, List.mem_cons]
    constructor
    · rintro ((h | h) | h)
      · exact .inl h
      · exact .inr (.inl h)
      · exact .inr (.inr h)
    · rintro (h | h | h)
      · exact .inl (.inl h)
      · exact .inl (.inr h)
      · exact .inr h
theorem dis_nodup (Q : List (Int × Int)) : (disL Q).Nodup := (dis_fold Q [] List.nodup_nil).1
theorem dis_mem (Q : List (Int × Int)) (x : Int × Int) : x ∈ disL Q ↔ x ∈ Q := by
  have h := (dis_fold Q [] List.nodup_nil).2 x
  simpa [disL] using h
theorem nB_le (P : List (Int × Int)) (d : Int) : nB P d ≤ P.length := by
  have h := nodup_le (disL (P.map (bq d))) (P.map (bq d)) (dis_nodup _) (fun x hx => (dis_mem _ x).1 hx)
  rw [List.length_map] at h
  exact h
theorem nB_pos {P : List (Int × Int)} {d : Int} (h : 1 ≤ P.length) : 1 ≤ nB P d := by
  cases P with
  | nil => simp at h
  | cons p P =>
    have hm : bq d p ∈ disL ((p :: P).map (bq d)) := (dis_mem _ _).2 (by simp)
    unfold nB
    exact List.length_pos_of_mem hm
def half (b : Int × Int) : Int × Int := (b.1 / 2, b.2 / 2)
theorem bq_half (s : Int) (hs : 0 < s) (p : Int × Int) : bq (2 * s) p = half (bq s p) := by
  unfold bq half
  rw [Int.mul_comm 2 s, Int.ediv_ediv_of_nonneg (by omega), Int.ediv_ediv_of_nonneg (by omega)]
theorem nB_half {P : List (Int × Int)} {s : Int} (hs : 0 < s) : nB P (2 * s) ≤ nB P s ∧ nB P s ≤ 4 * nB P (2 * s) := by
  constructor
  · have h := nodup_le (disL (P.map (bq (2 * s)))) ((disL (P.map (bq s))).map half) (dis_nodup _) (fun x hx => by
      obtain ⟨p, hp, rfl⟩ := List.mem_map.1 ((dis_mem _ x).1 hx)
      rw [bq_half s hs]
      exact List.mem_map_of_mem ((dis_mem _ _).2 (List.mem_map_of_mem hp)))
    rw [List.length_map] at h
    exact h
  · have h := nodup_le (disL (P.map (bq s))) ((disL (P.map (bq (2 * s)))).flatMap fun b => [(2 * b.1, 2 * b.2), (2 * b.1 + 1, 2 * b.2), (2 * b.1, 2 * b.2 + 1), (2 * b.1 + 1, 2 * b.2 + 1)]) (dis_nodup _) (fun x hx => by
      obtain ⟨p, hp, rfl⟩ := List.mem_map.1 ((dis_mem _ x).1 hx)
      refine List.mem_flatMap.2 ⟨bq (2 * s) p, (dis_mem _ _).2 (List.mem_map_of_mem hp), ?_⟩
      rw [bq_half s hs]
      obtain ⟨a, b⟩ := bq s p
      unfold half
      dsimp only
      have ha : a = 2 * (a / 2) ∨ a = 2 * (a / 2) + 1 := by omega
      have hb : b = 2 * (b / 2) ∨ b = 2 * (b / 2) + 1 := by omega
      simp only [List.mem_cons, Prod.mk.injEq, List.not_mem_nil, or_false]
      omega)
    have hl : ∀ l : List (Int × Int), (l.flatMap fun b => [(2 * b.1, 2 * b.2), (2 * b.1 + 1, 2 * b.2), (2 * b.1, 2 * b.2 + 1), (2 * b.1 + 1, 2 * b.2 + 1)]).length = 4 * l.length := by
      intro l
      induction l with
      | nil => rfl
      | cons a l ih => rw [List.flatMap_cons, List.length_append, ih, List.length_cons]; simp; omega
    rw [hl] at h
    exact h
theorem le_of_sq {x y : Rat} (hy : 0 ≤ y) (h : x * x ≤ y * y) : x ≤ y := by
  apply Classical.byContradiction
  intro hn
  have h1 : y < x := by grind
  have h2 := Rat.mul_lt_mul_of_pos_right h1 (show 0 < x by grind)
  have h3 := mul_up' (Rat.le_of_lt h1) hy
  grind
theorem nat_sq2 (a : Int) : ((sq2 a : Nat) : Int) = a * a := by
  unfold sq2
  rw [Int.natCast_mul]
  rcases Int.le_total 0 a with h | h
  · rw [Int.natAbs_of_nonneg h]
  · rw [Int.ofNat_natAbs_of_nonpos h]; grind
/-- a side of a triangle is no longer than the others, nearly -/
theorem tri {p q u : Int × Int} (hp : Pt p) (hq : Pt q) (hu : Pt u) : vl .f32 (farF p u) ≤ (vl .f32 (farF p q) + vl .f32 (farF q u)) * (1 + 1 / 400000) := by
  have A := far_ok hp hq
  have B := far_ok hq hu
  have C := far_ok hp hu
  obtain ⟨X, hX⟩ : ∃ X : Int, X = (p.1 - q.1) * (q.1 - u.1) + (p.2 - q.2) * (q.2 - u.2) := ⟨_, rfl⟩
  have hD : ((dst p u : Nat) : Int) = (dst p q : Nat) + (dst q u : Nat) + 2 * X := by
    unfold dst
    rw [Int.natCast_add, Int.natCast_add, Int.natCast_add, nat_sq2, nat_sq2, nat_sq2, nat_sq2, nat_sq2, nat_sq2, hX]
    grind
  have hCS : X * X ≤ ((dst p q : Nat) : Int) * ((dst q u : Nat) : Int) := by
    unfold dst
    rw [Int.natCast_add, Int.natCast_add, nat_sq2, nat_sq2, nat_sq2, nat_sq2, hX]
    have h : 0 ≤ ((p.1 - q.1) * (q.2 - u.2) - (p.2 - q.2) * (q.1 - u.1)) * ((p.1 - q.1) * (q.2 - u.2) - (p.2 - q.2) * (q.1 - u.1)) := by
      rcases Int.le_total 0 ((p.1 - q.1) * (q.2 - u.2) - (p.2 - q.2) * (q.1 - u.1)) with h | h
      · exact Int.mul_nonneg h h
      · exact Int.mul_nonneg_of_nonpos_of_nonpos h h
    grind
  have hD' := congrArg (Int.cast (R := Rat)) hD
  have hCS' := Rat.intCast_le_intCast.2 hCS
  rw [Rat.intCast_add, Rat.intCast_add, Rat.intCast_mul] at hD'
  rw [Rat.intCast_mul, Rat.intCast_mul] at hCS'
  simp only [Rat.intCast_natCast] at hD' hCS'
  have e2 : ((2 : Int) : Rat) = 2 := rfl
  rw [e2] at hD'
  obtain ⟨_, _, _, a0, a1, _⟩ := A
  obtain ⟨_, _, _, b0, b1, _⟩ := B
  obtain ⟨_, _, _, c0, _, c2⟩ := C
  unfold farF
  generalize vl .f32 (lgD (dst p q)) = a at *
  generalize vl .f32 (lgD (dst q u)) = b at *
  generalize vl .f32 (lgD (dst p u)) = c at *
  have d1 : (0 : Rat) ≤ ((dst p q : Nat) : Rat) := Rat.natCast_le_natCast.2 (Nat.zero_le _)
  have d2 : (0 : Rat) ≤ ((dst q u : Nat) : Rat) := Rat.natCast_le_natCast.2 (Nat.zero_le _)
  generalize ((dst p q : Nat) : Rat) = D1 at *
  generalize ((dst q u : Nat) : Rat) = D2 at *
  generalize ((dst p u : Nat) : Rat) = D3 at *
  generalize ((X : Int) : Rat) = x at *
  clear hX hD hCS hp hq hu e2
  have hab := Rat.mul_nonneg a0 b0
  have hx : x * (999999 / 1000000) ≤ 64 * (a * b) := by
    refine le_of_sq (by grind) ?_
    have s1 := mul_up a1 (show 0 ≤ D2 * (999999 / 1000000) by grind)
    have s2 := mul_up' b1 (show 0 ≤ 64 * (a * a) by have := Rat.mul_nonneg a0 a0; grind)
    grind
  refine le_of_sq (by grind) ?_
  have hs : D3 * (999999 / 1000000) ≤ 64 * ((a + b) * (a + b)) := by grind
  grind
end Go.Proofs.Ytikleaiflmoffaa
