/- Floating point operations, the bits of a NaN left open: what they give but for those bits, and how a walk takes them. -/
import Derived.Test.YtbefcfdmaafghaaFlo
import Derived.Test.YtbefcfdmaafghaaWords
namespace Go.Proofs.Ytbefcfdmaafghaa
open Ieee Go.RowKit
/-- a NaN of the kind -/
def qnan : FloatKind → Nat | .f32 => 2143289344 | .f64 => 9221120237041090560
theorem qnan_nan (k : FloatKind) : nanF k (qnan k) = true := by cases k <;> decide
/-- the same, but for a NaN's bits -/
def Sim (k : FloatKind) (x y : Nat) : Prop := x = y ∨ (nanF k x = true ∧ nanF k y = true)
theorem Sim.refl (k : FloatKind) (x : Nat) : Sim k x x := .inl rfl
theorem Sim.symm {k : FloatKind} {x y : Nat} (h : Sim k x y) : Sim k y x := h.imp Eq.symm And.symm
theorem Sim.trans {k : FloatKind} {x y z : Nat} (h : Sim k x y) (h' : Sim k y z) : Sim k x z := by
  rcases h with rfl | ⟨h1, h2⟩
  · exact h'
  · rcases h' with rfl | ⟨_, h4⟩
    · exact .inr ⟨h1, h2⟩
    · exact .inr ⟨h1, h4⟩
theorem Sim.eq {k : FloatKind} {x y : Nat} (h : Sim k x y) (hn : nanF k y = false) : x = y := by
  rcases h with h | ⟨_, h⟩
  · exact h
  · rw [hn] at h; cases h
theorem Sim.nan {k : FloatKind} {x y : Nat} (h : Sim k x y) : nanF k x = nanF k y := by
  rcases h with rfl | ⟨h1, h2⟩
  · rfl
  · rw [h1, h2]
def IsArith (op : BinOp) : Prop := op = .add ∨ op = .sub ∨ op = .mul ∨ op = .quo
theorem arith_add : IsArith .add := .inl rfl
theorem arith_sub : IsArith .sub := .inr (.inl rfl)
theorem arith_mul : IsArith .mul := .inr (.inr (.inl rfl))
theorem arith_quo : IsArith .quo := .inr (.inr (.inr rfl))
/-- what an operation gives; some NaN where it has no answer -/
def fop (op : BinOp) (k : FloatKind) (x y : Nat) : Nat := (floatBits op k x y).getD (qnan k)
theorem read_nan {k : FloatKind} {x : Nat} (h : nanF k x = true) : ∃ s t, k.format.read x = .nan s t := by
  unfold nanF at h
  cases hd : k.format.read x with
  | nan s t => exact ⟨s, t, rfl⟩
  | infinity s => rw [hd] at h; cases h
  | number s m p => rw [hd] at h; cases h
theorem fb_nan {op : BinOp} (hop : IsArith op) {k : FloatKind} {x y : Nat} (h : nanF k x = true ∨ nanF k y = true) : floatBits op k x y = none := by
  rcases h with h | h
  · obtain ⟨s, t, hd⟩ := read_nan h
    rcases hop with rfl | rfl | rfl | rfl <;> simp [floatBits, Format.add, Format.sub, Format.mul, Format.div, hd, Datum.sum, Datum.product, Datum.quotient]
  · obtain ⟨s, t, hd⟩ := read_nan h
    rcases hop with rfl | rfl | rfl | rfl <;> cases hx : k.format.read x <;> simp [floatBits, Format.add, Format.sub, Format.mul, Format.div, hd, hx, Datum.sum, Datum.product, Datum.quotient, Datum.opposite]
theorem fop_nan {op : BinOp} (hop : IsArith op) {k : FloatKind} {x y : Nat} (h : nanF k x = true ∨ nanF k y = true) : nanF k (fop op k x y) = true := by
  unfold fop
  rw [fb_nan hop h]
  exact qnan_nan k
theorem fop_sim {op : BinOp} (hop : IsArith op) {k : FloatKind} {x x' y y' : Nat} (hx : Sim k x x') (hy : Sim k y y') : Sim k (fop op k x y) (fop op k x' y') := by
  rcases hx with rfl | ⟨h1, h2⟩
  · rcases hy with rfl | ⟨h1, h2⟩
    · exact .inl rfl
    · exact .inr ⟨fop_nan hop (.inr h1), fop_nan hop (.inr h2)⟩
  · exact .inr ⟨fop_nan hop (.inl h1), fop_nan hop (.inl h2)⟩
theorem fop_some {op : BinOp} {k : FloatKind} {x y r : Nat} (h : floatBits op k x y = some r) : fop op k x y = r := by unfold fop; rw [h]; rfl
theorem drewN_one (w : World) : w.drewN 1 = w.drew := rfl
/-- an operation comes to what it gives, but for a NaN's bits, after some draws -/
theorem run_fop {P : Program} (w : World) {op : BinOp} (hop : IsArith op) (t : TypeId) (k : FloatKind) (x y : Nat) :
    ∃ r m, (binOp op t (.float k x) (.float k y)).run P w = .ok (.float k r) (w.drewN m) ∧ Sim k r (fop op k x y) := by
  cases h : floatBits op k x y with
  | some r => exact ⟨r, 0, run_float_arith w op t k x y r h, .inl (fop_some h).symm⟩
  | none =>
    obtain ⟨r, hr, hn⟩ := run_arith_none (P := P) w t k x y hop h
    exact ⟨r, 1, hr, .inr ⟨hn, by unfold fop; rw [h]; exact qnan_nan k⟩⟩
theorem wp_fop {P : Program} {o : Oper} {a : Act} {w : World} {K : Act → World → Prop} {Q : Exit → Act → World → Prop} (op : BinOp) (t : TypeId) (x y : Operand) (ty : TypeId) (ho : o.op = .binOp op t x y ty) (hop : IsArith op)
    (k : FloatKind) (u v : Nat) (hx : a.eval x = .float k u) (hy : a.eval y = .float k v) (h : ∀ r m, Sim k r (fop op k u v) → K (a.put o.dst (.float k r)) (w.drewN m)) : o.wp P a w K Q := by
  obtain ⟨r, m, hr, hs⟩ := run_fop (P := P) w hop t k u v
  unfold Oper.wp execOp
  have he : ∀ W, (eqGuard op t x y (.float k u) (.float k v)).run P W = .ok () W := by
    intro W
    rcases hop with rfl | rfl | rfl | rfl <;> rfl
  simp only [ho, hx, hy, Sem.run_bind, Sem.run_pure, Result.andThen_ok, he, hr]
  exact h r m hs
theorem wpList_fop {P : Program} {ops : Array Oper} {rest : List Oper} {o : Oper} {a : Act} {w : World} {Q : Exit → Act → World → Prop} (hgd : o.guard = none) (op : BinOp) (t : TypeId) (x y : Operand) (ty : TypeId) (ho : o.op = .binOp op t x y ty) (hop : IsArith op)
    (k : FloatKind) (u v : Nat) (hx : a.eval x = .float k u) (hy : a.eval y = .float k v) (h : ∀ r m, Sim k r (fop op k u v) → wpList P ops Q rest (a.put o.dst (.float k r)) (w.drewN m)) : wpList P ops Q (o :: rest) a w :=
  wpList_plain hgd fun _ hK => wp_fop op t x y ty ho hop k u v hx hy fun r m hs => hK _ _ (h r m hs)
/-- a float32 as a float64; some NaN for one -/
def wid (x : Nat) : Nat := (floatToFloatBits .f32 x .f64).getD (qnan .f64)
theorem wid_num {x : Nat} (h : nanF .f32 x = false) : floatToFloatBits .f32 x .f64 = some (wid x) ∧ nanF .f64 (wid x) = false := by
  obtain ⟨r, hr, hn⟩ := widen x h
  unfold wid
  rw [hr]
  exact ⟨rfl, hn⟩
theorem wid_nan {x : Nat} (h : nanF .f32 x = true) : nanF .f64 (wid x) = true := by
  obtain ⟨s, t, hd⟩ := read_nan h
  have : floatToFloatBits .f32 x .f64 = none := by
    unfold floatToFloatBits
    rw [if_neg (by decide), show FloatKind.f32.decode x = .nan s t from hd]
  unfold wid
  rw [this]
  exact qnan_nan .f64
theorem wid_sim {x y : Nat} (h : Sim .f32 x y) : Sim .f64 (wid x) (wid y) := by
  rcases h with rfl | ⟨h1, h2⟩
  · exact .inl rfl
  · exact .inr ⟨wid_nan h1, wid_nan h2⟩
theorem run_wid {P : Program} (w : World) (src dst : TypeId) (hs : (P.underlying src).isSome = true) (hd : P.underlying dst = some (.float .f64)) (x : Nat) :
    ∃ r m, (convert src dst (.float .f32 x)).run P w = .ok (.float .f64 r) (w.drewN m) ∧ Sim .f64 r (wid x) := by
  cases h : nanF .f32 x
  · obtain ⟨h1, h2⟩ := wid_num h
    exact ⟨wid x, 0, run_convert_float_float w src dst .f32 .f64 x _ hs hd h1, .inl rfl⟩
  · obtain ⟨r, hr, hn⟩ := run_conv_nan (P := P) w src dst .f32 .f64 x hs hd (by decide) h
    exact ⟨r, 1, hr, .inr ⟨hn, wid_nan h⟩⟩
/-- a float64 that is a NaN or not too great for a float32 -/
def Nar (x : Nat) : Prop := nanF .f64 x = true ∨ ∃ r, floatToFloatBits .f64 x .f32 = some r
/-- a float64 as a float32; some NaN for one -/
def nar (x : Nat) : Nat := (floatToFloatBits .f64 x .f32).getD (qnan .f32)
theorem nar_nan {x : Nat} (h : nanF .f64 x = true) : nanF .f32 (nar x) = true := by
  obtain ⟨s, t, hd⟩ := read_nan h
  have : floatToFloatBits .f64 x .f32 = none := by
    unfold floatToFloatBits
    rw [if_neg (by decide), show FloatKind.f64.decode x = .nan s t from hd]
  unfold nar
  rw [this]
  exact qnan_nan .f32
theorem nar_sim {x y : Nat} (h : Sim .f64 x y) : Sim .f32 (nar x) (nar y) := by
  rcases h with rfl | ⟨h1, h2⟩
  · exact .inl rfl
  · exact .inr ⟨nar_nan h1, nar_nan h2⟩
theorem Nar.sim {x y : Nat} (hn : Nar y) (h : Sim .f64 x y) : Nar x := by
  rcases h with rfl | ⟨h1, _⟩
  · exact hn
  · exact .inl h1
theorem run_nar {P : Program} (w : World) (src dst : TypeId) (hs : (P.underlying src).isSome = true) (hd : P.underlying dst = some (.float .f32)) (x : Nat) (hn : Nar x) :
    ∃ r m, (convert src dst (.float .f64 x)).run P w = .ok (.float .f32 r) (w.drewN m) ∧ Sim .f32 r (nar x) := by
  cases h : nanF .f64 x
  · rcases hn with hn | ⟨r, hr⟩
    · rw [h] at hn; cases hn
    · exact ⟨r, 0, run_convert_float_float w src dst .f64 .f32 x _ hs hd hr, .inl (by unfold nar; rw [hr]; rfl)⟩
  · obtain ⟨r, hr, hn⟩ := run_conv_nan (P := P) w src dst .f64 .f32 x hs hd (by decide) h
    exact ⟨r, 1, hr, .inr ⟨hn, nar_nan h⟩⟩
theorem wpList_conv {P : Program} {ops : Array Oper} {rest : List Oper} {o : Oper} {a : Act} {w : World} {Q : Exit → Act → World → Prop} (hgd : o.guard = none) (src dst : TypeId) (x : Operand) (ho : o.op = .convert src dst x)
    (s k : FloatKind) (u c : Nat) (hx : a.eval x = .float s u) (hr : ∃ r m, (convert src dst (.float s u)).run P w = .ok (.float k r) (w.drewN m) ∧ Sim k r c)
    (h : ∀ r m, Sim k r c → wpList P ops Q rest (a.put o.dst (.float k r)) (w.drewN m)) : wpList P ops Q (o :: rest) a w := by
  obtain ⟨r, m, hr, hs⟩ := hr
  refine wpList_plain hgd fun K hK => ?_
  unfold Oper.wp execOp
  simp only [ho, hx, Sem.run_bind, Sem.run_pure, Result.andThen_ok, hr]
  exact hK _ _ (h r m hs)
/-- the same, the world behind a name -/
theorem wpList_fopW {P : Program} {ops : Array Oper} {rest : List Oper} {o : Oper} {a : Act} {w : World} {Q : Exit → Act → World → Prop} (hgd : o.guard = none) (op : BinOp) (t : TypeId) (x y : Operand) (ty : TypeId) (ho : o.op = .binOp op t x y ty) (hop : IsArith op)
    (k : FloatKind) (u v : Nat) (hx : a.eval x = .float k u) (hy : a.eval y = .float k v) (h : ∀ r w', Sim k r (fop op k u v) → (∃ m, w' = w.drewN m) → wpList P ops Q rest (a.put o.dst (.float k r)) w') : wpList P ops Q (o :: rest) a w :=
  wpList_fop hgd op t x y ty ho hop k u v hx hy fun r m hs => h r _ hs ⟨m, rfl⟩
theorem own_drw {w w' : World} {base : Nat} {e : TypeId} {size : Nat} {v : Value} {n : Nat} {xs : List Value} (h : w.ownsRow base e size v n xs) (hq : ∃ m, w' = w.drewN m) : w'.ownsRow base e size v n xs := by
  obtain ⟨m, rfl⟩ := hq
  exact h
theorem below_drw {B : Nat} {a w w' : World} (h : Below B a w) (hq : ∃ m, w' = w.drewN m) : Below B a w' := by
  obtain ⟨m, rfl⟩ := hq
  exact below_drewN h m
theorem size_drw {w w' : World} (hq : ∃ m, w' = w.drewN m) : w'.heap.size = w.heap.size := by
  obtain ⟨m, rfl⟩ := hq
  rfl
theorem rd_drw {w w' : World} {B : Nat} {A : Option Addr} {xs : List Value} (h : Rd w B A xs) (hq : ∃ m, w' = w.drewN m) : Rd w' B A xs := by
  obtain ⟨m, rfl⟩ := hq
  exact h
end Go.Proofs.Ytbefcfdmaafghaa
