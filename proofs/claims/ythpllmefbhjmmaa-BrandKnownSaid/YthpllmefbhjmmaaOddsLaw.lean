/-
  Odds as the laws use them: what they are, their bounds; 'less' at given answers; structs of two numbers, many at once.
-/
import Derived.Test.YthpllmefbhjmmaaWorks
import Derived.Test.YthpllmefbhjmmaaFallsMore
import Derived.Test.YthpllmefbhjmmaaRuled
import Derived.Test.YthpllmefbhjmmaaKept
namespace Go.Proofs.Ythpllmefbhjmmaa
open Go.RowKit Go.Maps Plain

theorem keepsR_cases (N : Int) (r : Rl) (o a : Int) :
    (∃ e, e ≠ 0 ∧ keepsR N r o a = (false, e)) ∨ (inB N 1 40 = true ∧ ruleB N r = true ∧ inB o 0 N = true ∧ inB a 0 o = true ∧ keepsR N r o a = (keepsB N r o a, 0)) := by
  unfold keepsR
  cases h1 : inB N 1 40
  · exact .inl ⟨7, by decide, by simp⟩
  cases h2 : ruleB N r
  · exact .inl ⟨71, by decide, by simp⟩
  cases h3 : (inB o 0 N && inB a 0 o)
  · exact .inl ⟨72, by decide, by simp⟩
  · rw [Bool.and_eq_true] at h3
    exact .inr ⟨rfl, rfl, h3.1, h3.2, by simp⟩

theorem oddsR_good {N b o a : Int} (h1 : inB N 1 40 = true) (h2 : inB b 0 N = true) (h3 : inB o 0 N = true) (h4 : inB a 0 o = true) :
    oddsR N b o a = (fnd N b o 0 a / gcdI (fnd N b o 0 a) (cnt N o), cnt N o / gcdI (fnd N b o 0 a) (cnt N o), 0) := by
  unfold oddsR
  rw [if_pos ⟨h1, h2⟩, if_pos (by rw [h3, h4]; rfl)]

/-- What reduced odds are like. -/
theorem odds_bounds {N b o a : Int} (h1 : inB N 1 40 = true) (h2 : inB b 0 N = true) (h3 : inB o 0 N = true) (h4 : inB a 0 o = true) :
    0 ≤ fnd N b o 0 a / gcdI (fnd N b o 0 a) (cnt N o) ∧ fnd N b o 0 a / gcdI (fnd N b o 0 a) (cnt N o) ≤ 45079976738816 ∧ 1 ≤ cnt N o / gcdI (fnd N b o 0 a) (cnt N o) ∧ cnt N o / gcdI (fnd N b o 0 a) (cnt N o) ≤ 1099511627776 := by
  obtain ⟨g1, g2⟩ := inB_true h1
  obtain ⟨g3, g4⟩ := inB_true h2
  obtain ⟨g5, g6⟩ := inB_true h3
  obtain ⟨g7, g8⟩ := inB_true h4
  have k0 := fnd_nonneg N b o 0 a
  have k1 := fnd_le N b o 0 a g3 g4 g2 (by omega) (by omega)
  have k2 := cnt_pos N o g5 g6
  have k3 := cnt_le N o g2
  have hp := gcdI_pos _ _ k0 k2
  have i1 := Int.ediv_nonneg k0 (Int.le_of_lt hp)
  have i2 := Int.ediv_le_self (gcdI (fnd N b o 0 a) (cnt N o)) k0
  have i3 := Int.ediv_le_self (gcdI (fnd N b o 0 a) (cnt N o)) (Int.le_of_lt k2)
  have i4 : 1 ≤ cnt N o / gcdI (fnd N b o 0 a) (cnt N o) := by
    obtain ⟨c, hc⟩ := gcdI_dvd_right (fnd N b o 0 a) (cnt N o) (by omega)
    have hc0 : 0 < c := by
      rcases Int.lt_or_le 0 c with h | h
      · exact h
      · have := Int.mul_nonpos_of_nonneg_of_nonpos (Int.le_of_lt hp) h
        omega
    have : cnt N o / gcdI (fnd N b o 0 a) (cnt N o) = c := by
      conv => lhs; lhs; rw [hc]
      exact Int.mul_ediv_cancel_left _ (by omega)
    omega
  omega

/-- The rule's cells, and all else as it was. -/
def RuB (W : World) (B : Nat) (r : Rl) (w' : World) : Prop :=
  w'.cell? ⟨B, 0, none⟩ = some (.int .i64 r.g) ∧ w'.cell? ⟨B, 1, none⟩ = some (.int .i64 r.po) ∧ w'.cell? ⟨B, 2, none⟩ = some (.int .i64 r.pi) ∧ w'.cell? ⟨B, 3, none⟩ = some (.int .i64 r.b) ∧ w'.cell? ⟨B, 4, none⟩ = some (.int .i64 r.fo) ∧ w'.cell? ⟨B, 5, none⟩ = some (.int .i64 r.fi) ∧ Below W.heap.size W w'
theorem RuB.drew {W : World} {B : Nat} {r : Rl} {w' : World} (h : RuB W B r w') : RuB W B r w'.drew := by
  obtain ⟨h0, h1, h2, h3, h4, h5, hb⟩ := h
  exact ⟨h0, h1, h2, h3, h4, h5, hb.drew⟩
theorem RuB.below {W : World} {B : Nat} {r : Rl} {w' w2 : World} (h : RuB W B r w') (hB : Below w'.heap.size w' w2) : RuB W B r w2 := by
  obtain ⟨h0, h1, h2, h3, h4, h5, hb⟩ := h
  have hl : B < w'.heap.size := World.block_lt_of_cell? _ _ h0
  have k : ∀ i, w2.cell? ⟨B, i, none⟩ = w'.cell? ⟨B, i, none⟩ := fun i => World.cell?_of_block (a := ⟨B, i, none⟩) (hB.block _ hl)
  exact ⟨(k _).trans h0, (k _).trans h1, (k _).trans h2, (k _).trans h3, (k _).trans h4, (k _).trans h5, below_trans hb hB⟩

theorem less_ex {q' : Bool} (p q r s : Int) (w : World) (hp : 0 ≤ p) (hp1 : p ≤ 9223372036854775807) (hq : 1 ≤ q) (hq1 : q < 562949953421312) (hr : 0 ≤ r) (hr1 : r ≤ 9223372036854775807) (hs : 1 ≤ s) (hs1 : s < 562949953421312) (h : lessB p q r s = q') :
    Calls Try.prog 47 #[planV p q, planV r s] w fun e w' => e = .returned (.bool q') ∧ Below w.heap.size w w' := by
  rw [← h]; exact less_is p q r s w hp hp1 hq hq1 hr hr1 hs hs1

/-- Structs of two numbers, and all else as it was. -/
def Twos (w : World) (l : List (Nat × Int × Int)) (w' : World) : Prop := (∀ x ∈ l, TwoAt w' x.1 (.int .i64 x.2.1) (.int .i64 x.2.2)) ∧ Below w.heap.size w w'
theorem Twos.below {w : World} {l : List (Nat × Int × Int)} {w' w2 : World} (h : Twos w l w') (hB : Below w'.heap.size w' w2) : Twos w l w2 :=
  ⟨fun x hx => (h.1 x hx).below hB (World.block_lt_of_cell? _ _ (h.1 x hx).1), below_trans h.2 hB⟩
theorem Twos.push {w : World} {l : List (Nat × Int × Int)} {w' : World} (h : Twos w l w') (p q : Int) (t : TypeId) : Twos w ((w'.heap.size, p, q) :: l) (w'.alloc (.cells #[.int .i64 p, .int .i64 q] t)) := by
  have hb := h.below (below_alloc (.cells #[.int .i64 p, .int .i64 q] t))
  refine ⟨fun x hx => ?_, hb.2⟩
  rcases List.mem_cons.1 hx with rfl | hx
  · unfold TwoAt; go_simp
  · exact hb.1 x hx
theorem Twos.get {w : World} {l : List (Nat × Int × Int)} {w' : World} (h : Twos w l w') {B : Nat} {p q : Int} (hx : (B, p, q) ∈ l) : (w'.cell? ⟨B, 0, none⟩ = some (.int .i64 p) ∧ w'.cell? ⟨B, 1, none⟩ = some (.int .i64 q)) ∧ B < w'.heap.size :=
  ⟨h.1 (B, p, q) hx, World.block_lt_of_cell? _ _ (h.1 (B, p, q) hx).1⟩

end Go.Proofs.Ythpllmefbhjmmaa
