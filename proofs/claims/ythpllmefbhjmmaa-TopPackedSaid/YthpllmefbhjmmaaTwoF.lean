/-
  Structs of two numbers that may be written, many at once.
-/
import Derived.Test.YthpllmefbhjmmaaOddsLaw
namespace Go.Proofs.Ythpllmefbhjmmaa
open Go.RowKit Go.Maps Plain

theorem bcell {W w1 : World} (hb : Below W.heap.size W w1) : (∀ b o, b < W.heap.size → w1.cell? ⟨b, o, none⟩ = W.cell? ⟨b, o, none⟩) ∧ (∀ b o, b < W.heap.size → w1.frozen? ⟨b, o, none⟩ = W.frozen? ⟨b, o, none⟩) :=
  ⟨fun b o h => hb.cell (p := ⟨b, o, none⟩) h, fun b o h => hb.frozen (p := ⟨b, o, none⟩) h⟩

/-- Structs of two numbers, each of which may be written; all else as it was. -/
def TwF (w : World) (l : List (Nat × Int × Int)) (w' : World) : Prop :=
  (∀ x ∈ l, TwoAt w' x.1 (.int .i64 x.2.1) (.int .i64 x.2.2) ∧ w'.frozen? ⟨x.1, 0, none⟩ = false ∧ w'.frozen? ⟨x.1, 1, none⟩ = false) ∧ Below w.heap.size w w'

theorem TwF.start {w w' : World} (h : Below w.heap.size w w') : TwF w [] w' := ⟨fun _ hx => absurd hx (by simp), h⟩
theorem TwF.below {w : World} {l : List (Nat × Int × Int)} {w' w2 : World} (h : TwF w l w') (hB : Below w'.heap.size w' w2) : TwF w l w2 :=
  ⟨fun x hx => by
    obtain ⟨h1, h2, h3⟩ := h.1 x hx
    have hl : x.1 < w'.heap.size := World.block_lt_of_cell? _ _ h1.1
    exact ⟨h1.below hB hl, (hB.frozen (p := ⟨x.1, 0, none⟩) hl).trans h2, (hB.frozen (p := ⟨x.1, 1, none⟩) hl).trans h3⟩, below_trans h.2 hB⟩
theorem TwF.push {w : World} {l : List (Nat × Int × Int)} {w' : World} (h : TwF w l w') (p q : Int) (t : TypeId) : TwF w ((w'.heap.size, p, q) :: l) (w'.alloc (.cells #[.int .i64 p, .int .i64 q] t)) := by
  have hb := h.below (below_alloc (.cells #[.int .i64 p, .int .i64 q] t))
  refine ⟨fun x hx => ?_, hb.2⟩
  rcases List.mem_cons.1 hx with rfl | hx
  · unfold TwoAt; exact ⟨by go_simp, by go_simp, by go_simp⟩
  · exact hb.1 x hx
theorem TwF.get {w : World} {l : List (Nat × Int × Int)} {w' : World} (h : TwF w l w') {B : Nat} {p q : Int} (hx : (B, p, q) ∈ l) :
    ((w'.cell? ⟨B, 0, none⟩ = some (.int .i64 p) ∧ w'.cell? ⟨B, 1, none⟩ = some (.int .i64 q)) ∧ w'.frozen? ⟨B, 0, none⟩ = false ∧ w'.frozen? ⟨B, 1, none⟩ = false) ∧ B < w'.heap.size :=
  ⟨h.1 (B, p, q) hx, World.block_lt_of_cell? _ _ (h.1 (B, p, q) hx).1.1⟩
theorem TwF.tail {w : World} {x : Nat × Int × Int} {l : List (Nat × Int × Int)} {w' : World} (h : TwF w (x :: l) w') : TwF w l w' := ⟨fun y hy => h.1 y (List.mem_cons_of_mem _ hy), h.2⟩
theorem TwF.drewN {w : World} {l : List (Nat × Int × Int)} {w' : World} (h : TwF w l w') (n : Nat) : TwF w l (w'.drewN n) := ⟨h.1, below_drewN h.2 n⟩
theorem TwF.drew {w : World} {l : List (Nat × Int × Int)} {w' : World} (h : TwF w l w') : TwF w l w'.drew := ⟨h.1, h.2.drew⟩
/-- One of them is written: l1 before it, l2 behind it. -/
theorem TwF.set {w : World} {l1 l2 : List (Nat × Int × Int)} {w' : World} {B : Nat} {p q : Int} (h : TwF w (l1 ++ (B, p, q) :: l2) w') (h1 : ∀ y ∈ l1, y.1 ≠ B) (h2 : ∀ y ∈ l2, y.1 ≠ B) (hB : w.heap.size ≤ B) (p' q' : Int) :
    TwF w (l1 ++ (B, p', q') :: l2) ((w'.setCell ⟨B, 0, none⟩ (.int .i64 p')).setCell ⟨B, 1, none⟩ (.int .i64 q')) := by
  refine ⟨fun y hy => ?_, (h.2.setCell hB _).setCell hB _⟩
  have hf : ∀ a, ((w'.setCell ⟨B, 0, none⟩ (.int .i64 p')).setCell ⟨B, 1, none⟩ (.int .i64 q')).frozen? a = w'.frozen? a := fun a => by rw [World.frozen?_setCell, World.frozen?_setCell]
  rw [hf, hf]
  have other : ∀ y : Nat × Int × Int, y ∈ l1 ++ (B, p, q) :: l2 → y.1 ≠ B → TwoAt ((w'.setCell ⟨B, 0, none⟩ (.int .i64 p')).setCell ⟨B, 1, none⟩ (.int .i64 q')) y.1 (.int .i64 y.2.1) (.int .i64 y.2.2) ∧ w'.frozen? ⟨y.1, 0, none⟩ = false ∧ w'.frozen? ⟨y.1, 1, none⟩ = false := by
    intro y hy hn
    obtain ⟨⟨g1, g2⟩, g3, g4⟩ := h.1 y hy
    have k : ∀ i, ((w'.setCell ⟨B, 0, none⟩ (.int .i64 p')).setCell ⟨B, 1, none⟩ (.int .i64 q')).cell? ⟨y.1, i, none⟩ = w'.cell? ⟨y.1, i, none⟩ := fun i =>
      World.cell?_of_block (a := ⟨y.1, i, none⟩) ((Below.heap_setCell _ _ _ _ hn).trans (Below.heap_setCell _ _ _ _ hn))
    exact ⟨⟨(k 0).trans g1, (k 1).trans g2⟩, g3, g4⟩
  rcases List.mem_append.1 hy with hy | hy
  · exact other y (List.mem_append_left _ hy) (h1 y hy)
  · rcases List.mem_cons.1 hy with rfl | hy
    · obtain ⟨⟨g1, g2⟩, g3, g4⟩ := h.1 (B, p, q) (by simp)
      refine ⟨?_, g3, g4⟩
      unfold TwoAt
      go_simp
    · exact other y (List.mem_append_right _ (List.mem_cons_of_mem _ hy)) (h2 y hy)

end Go.Proofs.Ythpllmefbhjmmaa
