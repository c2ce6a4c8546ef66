/- The insertion sort and the exchange of ranges. -/
import Derived.Test.YtbojlgbkkdnegaaSo
namespace Go.Proofs.Ytbojlgbkkdnegaa
open Go.Shelf Go.RowKit Go.Lib Go.Sort
set_option maxHeartbeats 16000000 in
set_option maxRecDepth 1000000 in
theorem insSort_F {enc : Nat → Value} {cf : Nat → Nat → Int} {lt : Nat → Nat → Prop} {g : Nat} {cb : Array Value} {blk off n : Nat} {d0 : Array Nat} {w0 : World} (H : SortIn enc cf lt g cb blk off n d0 w0) (cap a b : Nat) (w : World) (P B Q : List Nat) (hl : P.length + B.length + Q.length = n) (ha : a = P.length) (hb : b = a + B.length) (hok : B.Pairwise (OkC lt cf)) (S : SL enc w0 blk off (P ++ (B ++ Q)) w) :
    Calls Try.prog 66 #[.slice (some ⟨blk, off, none⟩) n cap, .int .i64 a, .int .i64 b, .func (.func g) #[] cb] w fun e w' => e = .returned (.tuple #[]) ∧ ∃ M : List Nat, M.Perm B ∧ M.Pairwise lt ∧ SL enc w0 blk off (P ++ (M ++ Q)) w' := by
  have mixed := mixedT
  have hcl0 := H.row.hO.cells
  simp only [Value.cells] at hcl0
  have hst := H.row.hO.store Try.prog
  have htop := H.top
  have eg := H.eg
  have HSt : Hid (∃ (D E : List Nat), (E ≠ [] → a + 1 = a + D.length) ∧ D.length ≤ 1 ∧ D.length + E.length = B.length ∧ ((D ++ E).Perm B ∧ D.Pairwise lt ∧ E.Pairwise (OkC lt cf) ∧ Cross (OkC lt cf) D E) ∧ SL enc w0 blk off (P ++ (D ++ (E ++ Q))) w) := Lib.hid (by
    cases B with
    | nil => exact ⟨[], [], fun h => (h rfl).elim, by simp, rfl, ⟨.refl _, .nil, .nil, fun y hy => by cases hy⟩, S⟩
    | cons x r =>
      obtain ⟨h1, h2⟩ := List.pairwise_cons.1 hok
      exact ⟨[x], r, fun _ => rfl, by simp, by simp; omega, ⟨.refl _, List.pairwise_singleton _ _, h2, fun y hy z hz => by simp at hy; subst hy; exact h1 z hz⟩, S⟩)
  have HA := Lib.hid (show P.length + B.length + Q.length = n ∧ a = P.length ∧ b = a + B.length from ⟨hl, ha, hb⟩)
  have han : a ≤ n := by omega
  have hbn : b ≤ n := by omega
  clear S hok hl ha hb
  go_enter Try.func66, Try.ntmps66
  go_wp2
  go_loopw [8] (fun vi wr => ∃ (i : Nat) (D E : List Nat), vi = .int .i64 i ∧ i ≤ b + 1 ∧ Hid (a < i ∧ a + D.length ≤ i ∧ (E ≠ [] → i = a + D.length) ∧ D.length + E.length = B.length) ∧ Hid ((D ++ E).Perm B ∧ D.Pairwise lt ∧ E.Pairwise (OkC lt cf) ∧ Cross (OkC lt cf) D E) ∧ Hid (SL enc w0 blk off (P ++ (D ++ (E ++ Q))) wr)) (fun vi _ => b + 1 - (intOf vi).toNat)
  case atStart =>
    obtain ⟨D, E, h1, h2, h3, h4, h5⟩ := HSt.out
    obtain ⟨x1, x2, x3⟩ := HA.out
    exact ⟨a + 1, D, E, by go_num, by omega, Lib.hid ⟨by omega, by omega, h1, h3⟩, Lib.hid h4, Lib.hid h5⟩
  case round =>
    clear HSt
    obtain ⟨i, D, E, rfl, hib, HI, HP, HS⟩ := hrel
    by_cases hlt : i < b
    · have hltz : (i : Int) < (b : Int) := by omega
      cases E with
      | nil => exact absurd HI.out (by obtain ⟨x1, x2, x3⟩ := HA.out; simp; omega)
      | cons x E' =>
      have HI2 : Hid (a < i ∧ i = a + D.length ∧ D.length + (E'.length + 1) = B.length) := Lib.hid (by
        obtain ⟨y1, y2, y3, y4⟩ := HI.out
        rw [List.length_cons] at y4
        exact ⟨y1, y3 (by simp), y4⟩)
      clear HI
      go_wp2
      go_loopw [9] (fun vj wr => ∃ (j : Nat) (D1 D2 : List Nat), vj = .int .i64 j ∧ j ≤ i ∧ Hid (j = a + D1.length ∧ D1.length + D2.length = D.length) ∧ Hid (D1 ++ D2 = D ∧ ∀ z ∈ D2, lt x z) ∧ Hid (SL enc w0 blk off (P ++ (D1 ++ (x :: (D2 ++ (E' ++ Q))))) wr)) (fun vj _ => (intOf vj).toNat)
      case atStart => exact ⟨i, D, [], rfl, Nat.le_refl _, Lib.hid ⟨HI2.out.2.1, by simp⟩, Lib.hid ⟨by simp, fun z hz => by cases hz⟩, Lib.hid (by simpa using HS.out)⟩
      case round =>
        clear HS
        obtain ⟨j, D1, D2, rfl, hji, HJ, HD, HS⟩ := hrel
        have hlen := Lib.hid (show (P ++ (D1 ++ (x :: (D2 ++ (E' ++ Q))))).length = n by obtain ⟨x1, x2, x3⟩ := HA.out; obtain ⟨x4, x5⟩ := HJ.out; obtain ⟨x6, x7, x8⟩ := HI2.out; simp only [List.length_append, List.length_cons]; omega)
        have HOUT : Hid ((∀ y ∈ D1, lt y x) → (D1 ++ x :: D2 ++ E').Perm B ∧ (D1 ++ x :: D2).Pairwise lt ∧ E'.Pairwise (OkC lt cf) ∧ Cross (OkC lt cf) (D1 ++ x :: D2) E') := Lib.hid (fun h => by
          obtain ⟨p1, p2, p3, p4⟩ := HP.out
          obtain ⟨q1, q2⟩ := HD.out
          obtain ⟨p5, p6⟩ := List.pairwise_cons.1 p3
          refine ⟨?_, put_in (by rw [q1]; exact p2) h q2, p6, ?_⟩
          · refine List.Perm.trans ?_ p1
            rw [← q1]
            simp
            exact ((List.perm_middle (a := x) (l₁ := D2) (l₂ := E')).symm).append_left D1
          · intro y hy z hz
            have : y ∈ D ∨ y = x := by
              rw [← q1]
              simp at hy ⊢
              rcases hy with hy | hy | hy
              · exact .inl (.inl hy)
              · exact .inr hy
              · exact .inl (.inr hy)
            rcases this with hy | rfl
            · exact p4 y hy z (List.mem_cons_of_mem _ hz)
            · exact p5 z hz)
        have HNX : Hid (a < i + 1 ∧ a + (D1 ++ x :: D2).length ≤ i + 1 ∧ (E' ≠ [] → i + 1 = a + (D1 ++ x :: D2).length) ∧ (D1 ++ x :: D2).length + E'.length = B.length) := Lib.hid (by
          obtain ⟨x4, x5⟩ := HJ.out
          obtain ⟨x6, x7, x8⟩ := HI2.out
          simp only [List.length_append, List.length_cons]
          exact ⟨by omega, by omega, fun _ => by omega, by omega⟩)
        rcases List.eq_nil_or_concat D1 with hD1 | ⟨D1', y, hD1⟩
        · subst hD1
          have zja : (j : Int) = (a : Int) := by obtain ⟨x4, x5⟩ := HJ.out; simp at x4; omega
          go_wp2_with fail
          go_big_region_o
          have S2 := Lib.hid (SW.drew HS.out)
          clear HS
          generalize wr.drew = w2 at S2 ⊢
          go_wp2
          go_roundw
          case rel => exact ⟨i + 1, x :: D2, E', by go_num, by omega, HNX, Lib.hid (HOUT.out (fun y hy => by cases hy)), Lib.hid (by simpa [SL] using S2.out)⟩
          case measure => simp [intOf]; omega
        · rw [List.concat_eq_append] at hD1
          subst hD1
          have ex := Lib.hid (show P ++ (D1' ++ [y] ++ (x :: (D2 ++ (E' ++ Q)))) = (P ++ (D1' ++ [y])) ++ x :: (D2 ++ (E' ++ Q)) by simp)
          have ey := Lib.hid (show P ++ (D1' ++ [y] ++ (x :: (D2 ++ (E' ++ Q)))) = (P ++ D1') ++ y :: (x :: (D2 ++ (E' ++ Q))) by simp)
          have es := Lib.hid (show P ++ (D1' ++ [y] ++ (x :: (D2 ++ (E' ++ Q)))) = (P ++ D1') ++ y :: ([] ++ x :: (D2 ++ (E' ++ Q))) by simp)
          have HJ2 : Hid (∃ jp, j = jp + 1 ∧ jp = P.length + D1'.length ∧ a ≤ jp) := Lib.hid (by
            obtain ⟨x1, x2, x3⟩ := HA.out
            obtain ⟨x4, x5⟩ := HJ.out
            rw [List.length_append, List.length_singleton] at x4
            exact ⟨P.length + D1'.length, by omega, rfl, by omega⟩)
          obtain ⟨jp, hj1, hj2, hj3⟩ := HJ2.out
          clear HJ HJ2
          have HJ := Lib.hid (And.intro hj1 (And.intro hj2 hj3))
          have zjp : (j : Int) = (jp : Int) + 1 := by omega
          have hja : decide ((jp : Int) + 1 > (a : Int)) = true := decide_eq_true (by omega)
          have hja' : (a : Int) < (jp : Int) + 1 := by omega
          have hjn : jp + 1 < n := by omega
          clear hj1 hj2 hj3
          have HOK : Hid (OkC lt cf y x) := Lib.hid (HP.out.2.2.2 y (by rw [← HD.out.1]; simp) x (by simp))
          by_cases hv : cf x y < 0
          · have HLT := Lib.hid (HOK.out.1 hv)
            obtain ⟨i1, hi1⟩ : ∃ q, q = jp + 1 := ⟨_, rfl⟩
            have ea1 : ((jp : Int) + 1).toNat = i1 := by omega
            have pa1 : (0 : Int) ≤ (jp : Int) + 1 := by omega
            have ba1 : (jp : Int) + 1 < (n : Int) := by omega
            have ra1 : IntKind.i64.wrap ((jp : Int) + 1) = (jp : Int) + 1 := by rw [IntKind.wrap_i64]; omega
            have ba2 : (jp : Int) < (n : Int) := by omega
            have ra2 : IntKind.i64.wrap ((jp : Int)) = (jp : Int) := by rw [IntKind.wrap_i64]; omega
            have q1 : i1 = (P ++ (D1' ++ [y])).length := by obtain ⟨x1, x2, x3⟩ := HA.out; obtain ⟨x4, x5, x6⟩ := HJ.out; simp only [List.length_append, List.length_cons, List.length_nil]; omega
            have q2 : jp = (P ++ D1').length := by obtain ⟨x1, x2, x3⟩ := HA.out; obtain ⟨x4, x5, x6⟩ := HJ.out; simp only [List.length_append]; omega
            have q3 : i1 = (P ++ D1').length + 1 + ([] : List Nat).length := by rw [List.length_nil]; omega
            have Q1 := Lib.hid (And.intro q1 (And.intro q2 q3))
            have in1 : i1 < n := by omega
            clear hi1 q1 q2 q3
            have l1 := HS.out.cl H hlen.out ex.out Q1.out.1
            have l2 := HS.out.cl H hlen.out ey.out Q1.out.2.1
            have hc := HS.out.cmp H hlen.out x y
            have hd : decide (cf x y < 0) = true := decide_eq_true hv
            go_wp2_with fail
            go_quiet_grown (first | (go_at_fn g; refine Calls.grown_of (hc _ _)))
            have S2 := HS.out.grown nq osq
            clear l1 l2 hc HS
            generalize grow (wr.drewN nq) osq = w2 at S2 ⊢
            clear nq osq
            obtain ⟨c1a, f1⟩ := S2.c1 H hlen.out ex.out Q1.out.1
            obtain ⟨c2a, f2⟩ := S2.c1 H hlen.out ey.out Q1.out.2.1
            obtain ⟨u3, c3⟩ := S2.c2 H hlen.out i1 jp in1 (by omega) (enc y)
            have S3 := Lib.hid (S2.swapR H es.out Q1.out.2.1 Q1.out.2.2)
            clear S2 ex ey es hlen
            go_wp2_with fail
            go_big_region_o
            clear c1a c2a c3 f1 f2
            generalize ((w2.setCell ⟨blk, off + i1, none⟩ (enc y)).setCell ⟨blk, off + jp, none⟩ (enc x)).drew = w3 at S3 ⊢
            clear ea1
            go_wp2
            go_roundw
            case rel =>
              have hx := HD.out
              obtain ⟨x1, x2, x3⟩ := HA.out
              obtain ⟨x4, x5, x6⟩ := HJ.out
              have x7 := congrArg List.length hx.1
              simp only [List.length_append, List.length_singleton] at x7
              exact ⟨jp, D1', y :: D2, by first | rfl | go_num | (congr 1; omega), by omega, Lib.hid ⟨by omega, by simp; omega⟩, Lib.hid ⟨by rw [← hx.1]; simp, fun z hz => by rcases List.mem_cons.1 hz with rfl | hz; exact HLT.out; exact hx.2 z hz⟩, Lib.hid (by simpa using S3.out)⟩
            case measure => simp [intOf]; omega
          · have HLT := Lib.hid (HOK.out.2 hv)
            obtain ⟨i1, hi1⟩ : ∃ q, q = jp + 1 := ⟨_, rfl⟩
            have ea1 : ((jp : Int) + 1).toNat = i1 := by omega
            have pa1 : (0 : Int) ≤ (jp : Int) + 1 := by omega
            have ba1 : (jp : Int) + 1 < (n : Int) := by omega
            have ra1 : IntKind.i64.wrap ((jp : Int) + 1) = (jp : Int) + 1 := by rw [IntKind.wrap_i64]; omega
            have ba2 : (jp : Int) < (n : Int) := by omega
            have ra2 : IntKind.i64.wrap ((jp : Int)) = (jp : Int) := by rw [IntKind.wrap_i64]; omega
            have q1 : i1 = (P ++ (D1' ++ [y])).length := by obtain ⟨x1, x2, x3⟩ := HA.out; obtain ⟨x4, x5, x6⟩ := HJ.out; simp only [List.length_append, List.length_cons, List.length_nil]; omega
            have q2 : jp = (P ++ D1').length := by obtain ⟨x1, x2, x3⟩ := HA.out; obtain ⟨x4, x5, x6⟩ := HJ.out; simp only [List.length_append]; omega
            have q3 : i1 = (P ++ D1').length + 1 + ([] : List Nat).length := by rw [List.length_nil]; omega
            have Q1 := Lib.hid (And.intro q1 (And.intro q2 q3))
            have in1 : i1 < n := by omega
            clear hi1 q1 q2 q3
            have l1 := HS.out.cl H hlen.out ex.out Q1.out.1
            have l2 := HS.out.cl H hlen.out ey.out Q1.out.2.1
            have hc := HS.out.cmp H hlen.out x y
            have hd : decide (cf x y < 0) = false := decide_eq_false hv
            go_wp2_with fail
            go_quiet_grown (first | (go_at_fn g; refine Calls.grown_of (hc _ _)))
            have S2 := HS.out.grown nq osq
            clear l1 l2 hc HS
            generalize grow (wr.drewN nq) osq = w2 at S2 ⊢
            clear nq osq
            clear ea1 ex ey es hlen
            go_wp2
            go_roundw
            case rel =>
              have HPP := HOUT.out (put_last H.tr (by rw [HD.out.1]; exact HP.out.2.1) HLT.out)
              exact ⟨i + 1, D1' ++ [y] ++ x :: D2, E', by go_num, by omega, HNX, Lib.hid HPP, Lib.hid (by simpa using S2)⟩
            case measure => simp [intOf]; omega
    · have hltz : ¬ (i : Int) < (b : Int) := by omega
      have hE : E = [] := by
        obtain ⟨x1, x2, x3⟩ := HA.out
        obtain ⟨y1, y2, y3, y4⟩ := HI.out
        cases E with
        | nil => rfl
        | cons x E' => have := y3 (by simp); simp at y4; omega
      subst hE
      go_wp2
      go_end0
      exact ⟨rfl, D, by simpa using HP.out.1, HP.out.2.1, by simpa using HS.out⟩
set_option maxHeartbeats 16000000 in
set_option maxRecDepth 1000000 in
/-- two ranges exchanged -/
theorem swapRange_F {enc : Nat → Value} {cf : Nat → Nat → Int} {lt : Nat → Nat → Prop} {g : Nat} {cb : Array Value} {blk off n : Nat} {d0 : Array Nat} {w0 : World} (H : SortIn enc cf lt g cb blk off n d0 w0) (cap a b m : Nat) (w : World) (P X Y Z Q : List Nat) (hl : P.length + X.length + Y.length + Z.length + Q.length = n) (ha : a = P.length) (hX : X.length = m) (hZ : Z.length = m) (hb : b = a + m + Y.length) (S : SL enc w0 blk off (P ++ (X ++ (Y ++ (Z ++ Q)))) w) :
    Calls Try.prog 74 #[.slice (some ⟨blk, off, none⟩) n cap, .int .i64 a, .int .i64 b, .int .i64 m, .func (.func g) #[] cb] w fun e w' => e = .returned (.tuple #[]) ∧ SL enc w0 blk off (P ++ (Z ++ (Y ++ (X ++ Q)))) w' := by
  have mixed := mixedT
  have hcl0 := H.row.hO.cells
  simp only [Value.cells] at hcl0
  have hst := H.row.hO.store Try.prog
  have htop := H.top
  have eg := H.eg
  have HS0 := Lib.hid S
  obtain ⟨ha1, ha2⟩ : a ≤ P.length ∧ P.length ≤ a := by omega
  obtain ⟨hb1, hb2⟩ : b ≤ a + m + Y.length ∧ a + m + Y.length ≤ b := by omega
  clear S ha hb
  go_enter Try.func74, Try.ntmps74
  go_wp2
  go_loopw [10] (fun vi wr => ∃ (i : Nat) (X1 X2 Z1 Z2 : List Nat), vi = .int .i64 i ∧ X1.length = i ∧ Z1.length = i ∧ X2.length + i = m ∧ Z2.length + i = m ∧ Hid (X1 ++ X2 = X ∧ Z1 ++ Z2 = Z) ∧ Hid (SL enc w0 blk off (P ++ (Z1 ++ (X2 ++ (Y ++ (X1 ++ (Z2 ++ Q)))))) wr)) (fun vi _ => m - (intOf vi).toNat)
  case atStart => exact ⟨0, [], X, [], Z, rfl, rfl, rfl, by omega, by omega, Lib.hid ⟨rfl, rfl⟩, HS0⟩
  case round =>
    clear HS0
    obtain ⟨i, X1, X2, Z1, Z2, rfl, hx1, hz1, hx2, hz2, HE, HS⟩ := hrel
    by_cases hlt : i < m
    · have hltz : (i : Int) < (m : Int) := by omega
      cases X2 with
      | nil => simp at hx2; omega
      | cons x X2' =>
      cases Z2 with
      | nil => simp at hz2; omega
      | cons z Z2' =>
      rw [List.length_cons] at hx2 hz2
      have hlen := Lib.hid (show (P ++ (Z1 ++ (x :: X2' ++ (Y ++ (X1 ++ (z :: Z2' ++ Q)))))).length = n by simp; omega)
      have ex := Lib.hid (show P ++ (Z1 ++ (x :: X2' ++ (Y ++ (X1 ++ (z :: Z2' ++ Q))))) = (P ++ Z1) ++ x :: (X2' ++ (Y ++ (X1 ++ (z :: Z2' ++ Q)))) by simp)
      have ez := Lib.hid (show P ++ (Z1 ++ (x :: X2' ++ (Y ++ (X1 ++ (z :: Z2' ++ Q))))) = (P ++ (Z1 ++ (x :: X2' ++ (Y ++ X1)))) ++ z :: (Z2' ++ Q) by simp)
      have es := Lib.hid (show P ++ (Z1 ++ (x :: X2' ++ (Y ++ (X1 ++ (z :: Z2' ++ Q))))) = (P ++ Z1) ++ x :: ((X2' ++ (Y ++ X1)) ++ z :: (Z2' ++ Q)) by simp)
      obtain ⟨i1, hi1, hi1_⟩ : ∃ q, q ≤ a + i ∧ a + i ≤ q := ⟨_, Nat.le_refl _, Nat.le_refl _⟩
      have ea1 : ((a : Int) + (i : Int)).toNat = i1 := by omega
      have pa1 : (0 : Int) ≤ (a : Int) + (i : Int) := by omega
      have ba1 : (a : Int) + (i : Int) < (n : Int) := by omega
      have ra1 : IntKind.i64.wrap ((a : Int) + (i : Int)) = (a : Int) + (i : Int) := by rw [IntKind.wrap_i64]; omega
      obtain ⟨i2, hi2, hi2_⟩ : ∃ q, q ≤ b + i ∧ b + i ≤ q := ⟨_, Nat.le_refl _, Nat.le_refl _⟩
      have ea2 : ((b : Int) + (i : Int)).toNat = i2 := by omega
      have pa2 : (0 : Int) ≤ (b : Int) + (i : Int) := by omega
      have ba2 : (b : Int) + (i : Int) < (n : Int) := by omega
      have ra2 : IntKind.i64.wrap ((b : Int) + (i : Int)) = (b : Int) + (i : Int) := by rw [IntKind.wrap_i64]; omega
      have S2 := HS.out
      have l1 : i1 = (P ++ Z1).length := by simp only [List.length_append]; omega
      have l2 : i2 = (P ++ (Z1 ++ (x :: X2' ++ (Y ++ X1)))).length := by simp only [List.length_append, List.length_cons]; omega
      have l3 : i2 = (P ++ Z1).length + 1 + (X2' ++ (Y ++ X1)).length := by simp only [List.length_append]; omega
      obtain ⟨c1a, f1⟩ := S2.c1 H hlen.out ex.out l1
      obtain ⟨c2a, f2⟩ := S2.c1 H hlen.out ez.out l2
      obtain ⟨u3, c3⟩ := S2.c2 H hlen.out i1 i2 (by omega) (by omega) (enc z)
      have S3 := Lib.hid (S2.swapL H es.out l1 l3)
      clear S2 HS l1 l2 l3 ex ez es hlen
      go_wp2_with fail
      go_big_region_o
      clear c1a c2a c3 f1 f2
      generalize ((wr.setCell ⟨blk, off + i1, none⟩ (enc z)).setCell ⟨blk, off + i2, none⟩ (enc x)).drew = w3 at S3 ⊢
      clear ea1 ea2
      go_wp2
      go_roundw
      case rel => exact ⟨i + 1, X1 ++ [x], X2', Z1 ++ [z], Z2', by go_num, by simp; omega, by simp; omega, by omega, by omega, Lib.hid ⟨by rw [← HE.out.1]; simp, by rw [← HE.out.2]; simp⟩, Lib.hid (by simpa using S3.out)⟩
      case measure => simp [intOf]; omega
    · have hltz : ¬ (i : Int) < (m : Int) := by omega
      obtain rfl : X2 = [] := List.eq_nil_of_length_eq_zero (by omega)
      obtain rfl : Z2 = [] := List.eq_nil_of_length_eq_zero (by omega)
      go_wp2
      go_end0
      refine ⟨rfl, ?_⟩
      have h := HS.out
      rw [← HE.out.1, ← HE.out.2]
      simpa using h
end Go.Proofs.Ytbojlgbkkdnegaa
