/- Two bytes of a number, put behind a row of bytes. -/
import Derived.Test.YtbefcfdmaafghaaCheck
namespace Go.Proofs.Ytbefcfdmaafghaa
open Go.RowKit
def two (z : Nat) : List Int := [(z : Int) % 256, (z : Int) / 256]
theorem new2 (w : World) (a b : Value) (t : TypeId) : ∀ j u, [a, b][j]? = some u → (w.alloc (.cells #[a, b] t)).cell? ((⟨w.heap.size, 0, none⟩ : Addr).add j) = some u := by
  intro j u hu
  rw [add_flat]
  rcases j with _ | _ | j
  · simp at hu; subst hu; simp
  · simp at hu; subst hu; simp
  · simp at hu
theorem one2 (k k' : IntKind) (x y : Int) : ∀ u ∈ [Value.int k x, Value.int k' y], u.oneCell' = true := by
  intro u hu
  simp at hu
  rcases hu with rfl | rfl <;> rfl
theorem own_two {w : World} {B : Nat} {v : Value} {acc : List Int} {z : Nat} (h : w.ownsRow B 5 1 v (acc.length + 2) (acc.map (Value.int .u8) ++ [.int .u8 ((z : Int) % 256), .int .u8 ((z : Int) / 256)])) : w.ownsRow B 5 1 v (acc ++ two z).length ((acc ++ two z).map (Value.int .u8)) := by
  simpa [two] using h
/-- all blocks but the slice's own are as they were -/
def KeepsBut (A : Option Addr) (w w' : World) : Prop := ∀ k, k < w.heap.size → (∀ a, A = some a → a.block ≠ k) → w'.heap[k]? = w.heap[k]?
theorem KeepsBut.own {A : Option Addr} {w w' : World} {base g n c : Nat} {e : TypeId} {size : Nat} {xs : List Value} (hk : KeepsBut A w w') (h : w.ownsRow base e size (.slice (some ⟨g, 0, none⟩) n c) n xs) (hne : ∀ a, A = some a → a.block ≠ g) : w'.ownsRow base e size (.slice (some ⟨g, 0, none⟩) n c) n xs := by
  have hlt := (h.lt g rfl).2
  refine ⟨h.1, ?_⟩
  rcases h.2 with hn | ⟨g', cap, cur, hv, hbg, hg, rest⟩
  · exact .inl hn
  · injection hv with h1 h2 h3
    have h1 := Option.some.inj h1
    injection h1 with h1
    subst h1 h3
    exact .inr ⟨g, c, cur, rfl, hbg, (hk g hlt hne).trans hg, rest⟩
theorem keeps_grown {A : Option Addr} {n c : Nat} {w w' : World} {o : Obj} (h : (w.alloc o).grownBy w' (Value.slice A n c).ownBlock) : KeepsBut A w w' := by
  intro k hk hne
  have h1 := h.block k (by simp; omega) (by
    cases A with
    | none => simp [Value.ownBlock]
    | some a => simpa [Value.ownBlock] using Ne.symm (hne a rfl))
  rw [h1]
  exact heap_alloc_old w o hk
set_option maxHeartbeats 1000000 in
set_option maxRecDepth 100000 in
theorem twoBytes_any (B : Nat) (A : Option Addr) (n c z : Nat) (acc : List Int) (w : World) (hz : z < 65536) (hn : n = acc.length) (hacc : acc.length ≤ 8192) (hB : B ≤ w.heap.size) (ho : w.ownsRow B 5 1 (.slice A n c) acc.length (acc.map (Value.int .u8))) :
    Calls Try.prog 132 #[.slice A n c, .int .i64 z] w fun e w' => ∃ v', e = .returned v' ∧ w'.ownsRow B 5 1 v' (acc ++ two z).length ((acc ++ two z).map (Value.int .u8)) ∧ Below B w w' ∧ KeepsBut A w w' := by
  obtain ⟨i0, hi, hz0, hz1, hz2⟩ := info_parts Try.info5
  have HO := Lib.hid ho; clear ho
  have h1 : IntKind.u8.wrap (z : Int) = (z : Int) % 256 := by rw [IntKind.wrap_u8]
  have h2 : IntKind.u8.wrap ((z : Int) / 256) = (z : Int) / 256 := by rw [IntKind.wrap_u8]; omega
  go_enter Try.func132, Try.ntmps132
  go_wp2_with (at_builtin; refine wpList_append_own _ rfl (.tmp 5) (.tmp 11) 93 rfl B 5 i0 (.int .u8 0) 1 1 Try.underlying93 hi hz0 hz1 hz2 rfl (by decide) _ _ _ rfl (HO.out.alloc _) ⟨w.heap.size, 0, none⟩ 2 2 [.int .u8 ((z : Int) % 256), .int .u8 ((z : Int) / 256)] rfl rfl (new2 w _ _ 5) (one2 _ _ _ _) ?_ ?_ ?_ ?_)
  · unfold maxLen; omega
  · omega
  · simp; omega
  · intro v' w1 hown' hgrow _
    have HO1 := Lib.hid (own_two hown')
    have HB1 := Lib.hid ((((Below.refl B w).alloc hB _)).grown hgrow (by simp; omega) (fun k hk => (HO.out.lt k (by simpa [hn] using hk)).1))
    have HK1 := Lib.hid (keeps_grown hgrow)
    clear hown' hgrow
    go_wp2
    go_ret
    exact ⟨_, rfl, HO1.out, HB1.out, HK1.out⟩
end Go.Proofs.Ytbefcfdmaafghaa
