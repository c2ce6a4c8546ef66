/- A statement whose order is open, whose operations read and whose callees lay new memory: one walk in the order of the text, in every world in which all that lay lies unturned. -/
import Derived.Test.YtbefcfdmaafghaaWords
namespace Go.Proofs.Ytbefcfdmaafghaa
open Go.RowKit
/-- a world in which all that lay in w lies unturned -/
def Later (w : World) : Type := {w' : World // Below w.heap.size w w'}
/-- that world -/
def Later.at {w : World} (d : Later w) : World := d.val
theorem Later.below {w : World} (d : Later w) : Below w.heap.size w d.at := d.property
theorem Later.ne (w : World) : Nonempty (Later w) := ⟨⟨w, Below.refl _ _⟩⟩
theorem Later.cell {w : World} (d : Later w) {p : Addr} {v : Value} (h : w.cell? p = some v) : d.at.cell? p = some v :=
  (d.below.cell (World.block_lt_of_cell? w p h)).trans h
theorem Later.of {w w' : World} {d : Later w} (h : Below d.at.heap.size d.at w') : ∃ d' : Later w, w' = d'.at := ⟨⟨w', bthen d.below h⟩, rfl⟩
theorem wp_region_later {P : Program} {id : Nat} {Q : Exit → Act → World → Prop} {a : Act} {w : World} {l : List Oper} (hm : P.follows .mixedOrders = true) (hB : Region.lexB .any l.toArray = true)
    (h : wpQuiet P l.toArray (fun w' => ∃ d : Later w, w' = d.at) (fun a' => ∀ w', (∃ d : Later w, w' = d.at) → Q .normal a' w') l a) : (Code.region id l.toArray true).wp P Q a w :=
  wp_region_quiet (C := fun w' => ∃ d : Later w, w' = d.at) hm hB ⟨⟨{ w with drawn := w.drawn + 1 }, Below.drew (Below.refl _ _)⟩, rfl⟩ (by simpa using h)
end Go.Proofs.Ytbefcfdmaafghaa
