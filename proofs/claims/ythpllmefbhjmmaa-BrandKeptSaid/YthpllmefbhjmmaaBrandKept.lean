/-
  'BrandKept' returns true, for any number of barrels, rule and plan: no condition.
-/
import Derived.Test.YthpllmefbhjmmaaWorks
import Derived.Test.YthpllmefbhjmmaaFalls
import Derived.Test.YthpllmefbhjmmaaRuled
import Derived.Test.YthpllmefbhjmmaaRefFewest
import Derived.Test.YthpllmefbhjmmaaArgs
namespace Go.Proofs.Ythpllmefbhjmmaa
open Go.ChangeShapes Go.WideShapes Go.ChangeAt Go.RowKit Plain

theorem keepsR_cases (N : Int) (r : Rl) (o a : Int) :
    (∃ e, e ≠ 0 ∧ keepsR N r o a = (false, e)) ∨ (inB N 1 40 = true ∧ ruleB N r = true ∧ inB o 0 N = true ∧ inB a 0 o = true ∧ keepsR N r o a = (keepsB N r o a, 0)) := by
  unfold keepsR
  cases h1 : inB N 1 40
  · exact .inl ⟨7, by decide, by simp⟩
  cases h2 : ruleB N r
  · exact .inl ⟨71, by decide, by simp⟩
  cases h3 : (inB o 0 N && inB a 0 o)
  · exact .inl ⟨72, by decide, by simp⟩
  · rw [Bool.and_eq_true] at h3
    exact .inr ⟨rfl, rfl, h3.1, h3.2, by simp⟩

theorem oddsR_good {N b o a : Int} (h1 : inB N 1 40 = true) (h2 : inB b 0 N = true) (h3 : inB o 0 N = true) (h4 : inB a 0 o = true) :
    oddsR N b o a = (fnd N b o 0 a / gcdI (fnd N b o 0 a) (cnt N o), cnt N o / gcdI (fnd N b o 0 a) (cnt N o), 0) := by
  unfold oddsR
  rw [if_pos ⟨h1, h2⟩, if_pos (by rw [h3, h4]; rfl)]

/-- What reduced odds are like. -/
theorem odds_bounds {N b o a : Int} (h1 : inB N 1 40 = true) (h2 : inB b 0 N = true) (h3 : inB o 0 N = true) (h4 : inB a 0 o = true) :
    0 ≤ fnd N b o 0 a / gcdI (fnd N b o 0 a) (cnt N o) ∧ fnd N b o 0 a / gcdI (fnd N b o 0 a) (cnt N o) ≤ 45079976738816 ∧ 1 ≤ cnt N o / gcdI (fnd N b o 0 a) (cnt N o) ∧ cnt N o / gcdI (fnd N b o 0 a) (cnt N o) ≤ 1099511627776 := by
  obtain ⟨g1, g2⟩ := inB_true h1
  obtain ⟨g3, g4⟩ := inB_true h2
  obtain ⟨g5, g6⟩ := inB_true h3
  obtain ⟨g7, g8⟩ := inB_true h4
  have k0 := fnd_nonneg N b o 0 a
  have k1 := fnd_le N b o 0 a g3 g4 g2 (by omega) (by omega)
  have k2 := cnt_pos N o g5 g6
  have k3 := cnt_le N o g2
  have hp := gcdI_pos _ _ k0 k2
  have i1 := Int.ediv_nonneg k0 (Int.le_of_lt hp)
  have i2 := Int.ediv_le_self (gcdI (fnd N b o 0 a) (cnt N o)) k0
  have i3 := Int.ediv_le_self (gcdI (fnd N b o 0 a) (cnt N o)) (Int.le_of_lt k2)
  have i4 : 1 ≤ cnt N o / gcdI (fnd N b o 0 a) (cnt N o) := by
    obtain ⟨c, hc⟩ := gcdI_dvd_right (fnd N b o 0 a) (cnt N o) (by omega)
    have hc0 : 0 < c := by
      rcases Int.lt_or_le 0 c with h | h
      · exact h
      · have := Int.mul_nonpos_of_nonneg_of_nonpos (Int.le_of_lt hp) h
        omega
    have : cnt N o / gcdI (fnd N b o 0 a) (cnt N o) = c := by
      conv => lhs; lhs; rw [hc]
      exact Int.mul_ediv_cancel_left _ (by omega)
    omega
  omega

/-- The rule's cells, and all else as it was. -/
def RuB (W : World) (B : Nat) (r : Rl) (w' : World) : Prop :=
  w'.cell? ⟨B, 0, none⟩ = some (.int .i64 r.g) ∧ w'.cell? ⟨B, 1, none⟩ = some (.int .i64 r.po) ∧ w'.cell? ⟨B, 2, none⟩ = some (.int .i64 r.pi) ∧ w'.cell? ⟨B, 3, none⟩ = some (.int .i64 r.b) ∧ w'.cell? ⟨B, 4, none⟩ = some (.int .i64 r.fo) ∧ w'.cell? ⟨B, 5, none⟩ = some (.int .i64 r.fi) ∧ Below W.heap.size W w'
theorem RuB.drew {W : World} {B : Nat} {r : Rl} {w' : World} (h : RuB W B r w') : RuB W B r w'.drew := by
  obtain ⟨h0, h1, h2, h3, h4, h5, hb⟩ := h
  exact ⟨h0, h1, h2, h3, h4, h5, hb.drew⟩
theorem RuB.below {W : World} {B : Nat} {r : Rl} {w' w2 : World} (h : RuB W B r w') (hB : Below w'.heap.size w' w2) : RuB W B r w2 := by
  obtain ⟨h0, h1, h2, h3, h4, h5, hb⟩ := h
  have hl : B < w'.heap.size := World.block_lt_of_cell? _ _ h0
  have k : ∀ i, w2.cell? ⟨B, i, none⟩ = w'.cell? ⟨B, i, none⟩ := fun i => World.cell?_of_block (a := ⟨B, i, none⟩) (hB.block _ hl)
  exact ⟨(k _).trans h0, (k _).trans h1, (k _).trans h2, (k _).trans h3, (k _).trans h4, (k _).trans h5, below_trans hb hB⟩

theorem less_ex {q' : Bool} (p q r s : Int) (w : World) (hp : 0 ≤ p) (hp1 : p ≤ 9223372036854775807) (hq : 1 ≤ q) (hq1 : q < 562949953421312) (hr : 0 ≤ r) (hr1 : r ≤ 9223372036854775807) (hs : 1 ≤ s) (hs1 : s < 562949953421312) (h : lessB p q r s = q') :
    Calls Try.prog 47 #[planV p q, planV r s] w fun e w' => e = .returned (.bool q') ∧ Below w.heap.size w w' := by
  rw [← h]; exact less_is p q r s w hp hp1 hq hq1 hr hr1 hs hs1

set_option maxRecDepth 100000 in
set_option maxHeartbeats 1600000 in
theorem law14_bad (N : Int) (r : Rl) (o a x : Int) (w : World) (hx : x ≠ 0) (hz : keepsR N r o a = (false, x)) :
    Calls Try.prog 14 #[.int .i64 N, rlV r, planV o a] w fun e w' => e = .returned (.bool true) ∧ Below w.heap.size w w' := by
  have Hz := Lib.hid hz
  have HS := Lib.hid (RuPl.start w r o a)
  have hx1 : (x == 0) = false := beq_eq_false_iff_ne.2 hx
  have hx2 : (x != 0) = true := by simpa using hx
  obtain ⟨g, po, pi, b, fo, fi⟩ := r
  clear hz
  go_enter Try.func14, Try.ntmps14
  go_wp2_with fail
  refine (keeps_ex N o a ⟨g, po, pi, b, fo, fi⟩ _ Hz.out).mono ?_
  rintro e w1 ⟨rfl, hB1⟩
  have hB := (HS.out.below hB1).2.2
  clear hB1
  go_wp2_with fail
  refine (works_is _).mono ?_
  rintro e w5 ⟨rfl, hB6⟩
  have hB7 := below_trans hB hB6
  clear hB hB6
  go_wp2_with fail
  go_ret
  exact ⟨rfl, hB7⟩

set_option maxRecDepth 100000 in
set_option maxHeartbeats 3200000 in
theorem law14_good (N : Int) (r : Rl) (o a : Int) (w : World) (h1 : inB N 1 40 = true) (h2 : ruleB N r = true) (h3 : inB o 0 N = true) (h4 : inB a 0 o = true) (hz : keepsR N r o a = (keepsB N r o a, 0)) :
    Calls Try.prog 14 #[.int .i64 N, rlV r, planV o a] w fun e w' => e = .returned (.bool true) ∧ Below w.heap.size w w' := by
  obtain ⟨g1, g2⟩ := inB_true h1
  obtain ⟨k1, k2, k3, k4, k5⟩ := ruleB_true h2
  obtain ⟨p1, p2, p3, p4⟩ := oddsB_true k4
  obtain ⟨f1, f2, f3, f4⟩ := oddsB_true k5
  have hgN : inB r.g 0 N = true := inB_mk ⟨by omega, by omega⟩
  have hbN : inB r.b 0 N = true := inB_mk ⟨by omega, by omega⟩
  have Hg := Lib.hid (oddsR_good h1 hgN h3 h4)
  have Hb := Lib.hid (oddsR_good h1 hbN h3 h4)
  have hrg := odds_bounds h1 hgN h3 h4
  have hrb := odds_bounds h1 hbN h3 h4
  have Hall : Hid (keepsR N r N r.g = (true, 0)) := by
    show _ = _
    unfold keepsR
    rw [h1, h2, if_pos rfl, if_pos rfl, show (inB N 0 N && inB r.g 0 N) = true by rw [hgN, inB_mk ⟨by omega, by omega⟩]; rfl, if_pos rfl, keeps_full (by omega) h2]
  have hC : 0 < cnt N o := by obtain ⟨a1, a2⟩ := inB_true h3; exact cnt_pos N o a1 a2
  have hL1 := less_red (p := r.po) (q := r.pi) (fnd_nonneg N r.g o 0 a) hC
  have hL2 := red_less (p := r.fo) (q := r.fi) (fnd_nonneg N r.b o 0 a) hC
  have hkeep := keepsB_iff (o := o) (a := a) (show 0 ≤ N by omega) h2
  rw [← hL1, ← hL2] at hkeep
  rw [hkeep] at hz
  generalize fnd N r.g o 0 a / gcdI (fnd N r.g o 0 a) (cnt N o) = x1 at *
  generalize cnt N o / gcdI (fnd N r.g o 0 a) (cnt N o) = x2 at *
  generalize fnd N r.b o 0 a / gcdI (fnd N r.b o 0 a) (cnt N o) = y1 at *
  generalize cnt N o / gcdI (fnd N r.b o 0 a) (cnt N o) = y2 at *
  obtain ⟨q1, hq1⟩ : ∃ q, lessB x1 x2 r.po r.pi = q := ⟨_, rfl⟩
  obtain ⟨q2, hq2⟩ : ∃ q, lessB r.fo r.fi y1 y2 = q := ⟨_, rfl⟩
  rw [hq1, hq2] at hz
  have Hz := Lib.hid hz
  have HQ1 := Lib.hid hq1
  have HQ2 := Lib.hid hq2
  have H1 := Lib.hid h1
  have H2 := Lib.hid h2
  clear hz hq1 hq2 hL1 hL2 hkeep hC h1 h2 h3 h4 hgN hbN k4 k5
  have HS := Lib.hid (RuPl.start w r o a)
  obtain ⟨g, po, pi, b, fo, fi⟩ := r
  simp only at p1 p2 p3 p4 f1 f2 f3 f4 k1 k2 k3
  go_enter Try.func14, Try.ntmps14
  go_wp2_with fail
  refine (keeps_ex N o a ⟨g, po, pi, b, fo, fi⟩ _ Hz.out).mono ?_
  rintro e w1 ⟨rfl, hB1⟩
  have HS1 := Lib.hid (HS.out.below hB1)
  obtain ⟨⟨r0, r1, r2, r3, r4, r5⟩, ⟨p0, p1'⟩, _⟩ := HS1.out
  obtain ⟨l0, l1⟩ := HS1.out.lt
  clear hB1 HS
  go_wp2_with fail
  refine (ruledLaw_is N ⟨g, po, pi, b, fo, fi⟩ _ H1.out H2.out).mono ?_
  rintro e w2 ⟨rfl, hB2⟩
  have HS2 := Lib.hid (HS1.out.below hB2)
  clear hB2 HS1 r0 r1 r2 r3 r4 r5 p0 p1' l0 l1
  obtain ⟨⟨r0, r1, r2, r3, r4, r5⟩, ⟨p0, p1'⟩, _⟩ := HS2.out
  obtain ⟨l0, l1⟩ := HS2.out.lt
  go_wp2_with fail
  refine (odds_ex N g o a _ Hg.out).mono ?_
  rintro e w3 ⟨rfl, hB3⟩
  have hS3 := HS2.out.below hB3
  have HS3 := Lib.hid (hS3.below (below_alloc (.cells #[.int .i64 x1, .int .i64 x2] 34)))
  clear hB3 HS2 r0 r1 r2 r3 r4 r5 p0 p1' l0 l1
  obtain ⟨⟨r0, r1, r2, r3, r4, r5⟩, ⟨p0, p1'⟩, _⟩ := hS3
  have l0 : w.heap.size < w3.heap.size := World.block_lt_of_cell? _ _ r0
  have l1 : w.heap.size + 1 < w3.heap.size := World.block_lt_of_cell? _ _ p0
  have A0 : TwoAt (w3.alloc (.cells #[.int .i64 x1, .int .i64 x2] 34)) w3.heap.size (.int .i64 x1) (.int .i64 x2) := by unfold TwoAt; go_simp
  have hz0 : w3.heap.size < (w3.alloc (.cells #[.int .i64 x1, .int .i64 x2] 34)).heap.size := by simp
  go_wp2_with fail
  refine (odds_ex N b o a _ Hb.out).mono ?_
  rintro e w4 ⟨rfl, hB4⟩
  have hS4 := HS3.out.below hB4
  have A1 := A0.below hB4 hz0
  have hz1 : w3.heap.size < w4.heap.size := by have := hB4.size; omega
  have hb4 := below_alloc (w := w4) (.cells #[.int .i64 y1, .int .i64 y2] 34)
  have HS4 := Lib.hid (hS4.below hb4)
  have A2 := Lib.hid (A1.below hb4 hz1)
  have B2 : Hid (TwoAt (w4.alloc (.cells #[.int .i64 y1, .int .i64 y2] 34)) w4.heap.size (.int .i64 y1) (.int .i64 y2)) := by show TwoAt _ _ _ _; unfold TwoAt; go_simp
  clear hB4 HS3 r0 r1 r2 r3 r4 r5 p0 p1' l0 l1 A0 A1 hS4 hb4
  go_wp2_with fail
  obtain ⟨W, hW⟩ : ∃ W, w4.alloc (.cells #[.int .i64 y1, .int .i64 y2] 34) = W := ⟨_, rfl⟩
  rw [hW] at HS4 A2 B2 ⊢
  clear hW
  obtain ⟨⟨r0, r1, r2, r3, r4, r5⟩, _⟩ := HS4.out
  have HR : Hid (RuB W w.heap.size ⟨g, po, pi, b, fo, fi⟩ W) := ⟨r0, r1, r2, r3, r4, r5, Below.refl _ _⟩
  clear r0 r1 r2 r3 r4 r5
  go_region_held3 (fun w' => w'.cell? ⟨w.heap.size, 0, none⟩ = some (.int .i64 g) ∧ w'.cell? ⟨w.heap.size, 1, none⟩ = some (.int .i64 po) ∧ w'.cell? ⟨w.heap.size, 2, none⟩ = some (.int .i64 pi) ∧ w'.cell? ⟨w.heap.size, 3, none⟩ = some (.int .i64 b) ∧ w'.cell? ⟨w.heap.size, 4, none⟩ = some (.int .i64 fo) ∧ w'.cell? ⟨w.heap.size, 5, none⟩ = some (.int .i64 fi) ∧ Below W.heap.size W w')
    (first | exact HR.out.drew | exact RuB.below (W := W) (B := w.heap.size) (r := ⟨g, po, pi, b, fo, fi⟩) HR.out.drew hB5 | exact RuB.below (W := W) (B := w.heap.size) (r := ⟨g, po, pi, b, fo, fi⟩) (RuB.below HR.out.drew hB5) hB6)
    (first
      | (go_at_call 44; refine (opens_is N g _).mono ?_; rintro e w5 ⟨rfl, hB5⟩)
      | (go_at_call 24; refine (keeps_ex N N g ⟨g, po, pi, b, fo, fi⟩ _ Hall.out).mono ?_; rintro e w6 ⟨rfl, hB6⟩))
  have hR6 : RuB W w.heap.size ⟨g, po, pi, b, fo, fi⟩ w6 := by assumption
  have hbW := hR6.2.2.2.2.2.2
  clear hB5 hB6 HR
  have hWl0 : w3.heap.size < W.heap.size := World.block_lt_of_cell? _ _ A2.out.1
  have hWl1 : w4.heap.size < W.heap.size := World.block_lt_of_cell? _ _ B2.out.1
  have HA := Lib.hid (A2.out.below hbW hWl0)
  have HBb := Lib.hid (B2.out.below hbW hWl1)
  have HS6 := Lib.hid (HS4.out.below hbW)
  clear hbW hR6 A2 B2 HS4
  obtain ⟨⟨r0, r1, r2, r3, r4, r5⟩, _⟩ := HS6.out
  obtain ⟨a0, a1⟩ := HA.out
  have la : w3.heap.size < w6.heap.size := World.block_lt_of_cell? _ _ a0
  have lr : w.heap.size < w6.heap.size := World.block_lt_of_cell? _ _ r0
  cases q1 with
  | true =>
    go_wp2_with fail
    refine (less_ex x1 x2 po pi _ (by omega) (by omega) (by omega) (by omega) (by omega) (by omega) (by omega) (by omega) HQ1.out).mono ?_
    rintro e w7 ⟨rfl, hB7⟩
    have hB8 := below_trans HS6.out.2.2 hB7
    clear hB7
    go_wp2_with fail
    refine (works_is _).mono ?_
    rintro e w9 ⟨rfl, hB9⟩
    have hBf := below_trans hB8 hB9
    clear hB8 hB9
    go_wp2_with fail
    go_ret
    exact ⟨rfl, hBf⟩
  | false =>
    go_wp2_with fail
    refine (less_ex x1 x2 po pi _ (by omega) (by omega) (by omega) (by omega) (by omega) (by omega) (by omega) (by omega) HQ1.out).mono ?_
    rintro e w7 ⟨rfl, hB7⟩
    have HS7 := Lib.hid (HS6.out.below hB7)
    have hlb6 : w4.heap.size < w6.heap.size := World.block_lt_of_cell? _ _ HBb.out.1
    have HB7 := Lib.hid (HBb.out.below hB7 hlb6)
    clear hB7 r0 r1 r2 r3 r4 r5 a0 a1 la lr
    obtain ⟨⟨r0, r1, r2, r3, r4, r5⟩, _⟩ := HS7.out
    obtain ⟨b0, b1⟩ := HB7.out
    have lb : w4.heap.size < w7.heap.size := World.block_lt_of_cell? _ _ b0
    have lr : w.heap.size < w7.heap.size := World.block_lt_of_cell? _ _ r0
    cases q2 with
    | true =>
      go_wp2_with fail
      refine (less_ex fo fi y1 y2 _ (by omega) (by omega) (by omega) (by omega) (by omega) (by omega) (by omega) (by omega) HQ2.out).mono ?_
      rintro e w8 ⟨rfl, hB8⟩
      have hB9 := below_trans HS7.out.2.2 hB8
      clear hB8
      go_wp2_with fail
      refine (works_is _).mono ?_
      rintro e w9 ⟨rfl, hB10⟩
      have hBf := below_trans hB9 hB10
      clear hB9 hB10
      go_wp2_with fail
      go_ret
      exact ⟨rfl, hBf⟩
    | false =>
      go_wp2_with fail
      refine (less_ex fo fi y1 y2 _ (by omega) (by omega) (by omega) (by omega) (by omega) (by omega) (by omega) (by omega) HQ2.out).mono ?_
      rintro e w8 ⟨rfl, hB8⟩
      have hB9 := below_trans HS7.out.2.2 hB8
      clear hB8
      go_wp2_with fail
      refine (works_is _).mono ?_
      rintro e w9 ⟨rfl, hB10⟩
      have hBf := below_trans hB9 hB10
      clear hB9 hB10
      go_wp2_with fail
      go_ret
      exact ⟨rfl, hBf⟩

theorem law14 (N : Int) (r : Rl) (o a : Int) (w : World) :
    Calls Try.prog 14 #[.int .i64 N, rlV r, planV o a] w fun e w' => e = .returned (.bool true) ∧ Below w.heap.size w w' := by
  rcases keepsR_cases N r o a with ⟨x, hx, hz⟩ | ⟨h1, h2, h3, h4, hz⟩
  · exact law14_bad N r o a x w hx hz
  · exact law14_good N r o a w h1 h2 h3 h4 hz

set_option maxRecDepth 100000 in
theorem lifted14 (os : Os) (started : os.Started) (H : Type) (enc : TypeId × Value → H) :
    ReturnsInHanded {} Try.checked os 14 .any (Rows.brandKeptSpec.pre6 enc Try.prog Try.f14 Rows.brandKeptRow.domain false) (Rows.brandKeptSpec.post enc Try.prog Try.f14 false true false false) := by
  refine returnsInHanded_of_change_sized (C := Try.checked) Try.own started (by kernel_rfl) Try.func14
    (ChangeSpec.witness6 (enc := enc) (C := Try.checked) false ⟨#[], #[.int .i64 0, .agg #[.int .i64 0, .int .i64 0, .int .i64 0, .int .i64 0, .int .i64 0, .int .i64 0], .agg #[.int .i64 0, .int .i64 0]], []⟩ 8 (by kernel_rfl) (by kernel_rfl) (by kernel_rfl) (by kernel_rfl)) ?_
  intro W base args ds gs before hval0 hW _ _ _
  have hval : ∀ (j : Nat) t v, Try.f14.params[j]? = some t → args[j]? = some v → Value.okWide Try.prog W .any base t v := hval0
  have hW' := hW
  obtain ⟨p, q, hA0, hV, rfl, _, _⟩ := hW
  have hA : DataW.TrodAll enc Try.prog W 0 (fun _ => true) true Try.f14.params.toList args.toList ds p := hA0
  rw [Try.params14] at hA hval
  obtain ⟨v0, v1, v2, d0, d1, d2, p0, p1, p2, rfl, rfl, rfl, h0, h1, h2⟩ := trodAll_three hA
  obtain ⟨rfl, rfl⟩ := trodVars_none hV
  obtain ⟨N, rfl, rfl, rfl, _⟩ := open_int Try.underlying3 (hval 0 3 v0 rfl rfl) h0
  obtain ⟨r, rfl⟩ := open_rule h1 (hval 1 39 v1 rfl rfl)
  obtain ⟨o, a, rfl⟩ := open_plan h2 (hval 2 32 v2 rfl rfl)
  clear hA0 hval0
  refine (law14 N r o a W).mono fun e W' ⟨he, hb⟩ => ?_
  subst he
  exact ⟨_, rfl, law_shut (by kernel_rfl) (of_decide_eq_true (by kernel_rfl)) rfl rfl hW' hb⟩

theorem brandKept_holds : Rows.BrandKeptSaid :=
  OpenClaim.holds_of_wide 14 Try.f14 rfl rfl rfl rfl rfl rfl rfl ⟨rfl, rfl, rfl, rfl, rfl⟩ rfl rfl rfl rfl rfl (by kernel_rfl) Try.func14 (by kernel_rfl)
    (of_decide_eq_true (by kernel_rfl)) (by unfold Func.isWrapper; first | (rw [if_pos (by decide +kernel)]; kernel_rfl) | (rw [if_neg (by decide +kernel)]; exact ⟨rfl, rfl⟩))
    (fun os started H enc _ => lifted14 os started H enc)

end Go.Proofs.Ythpllmefbhjmmaa
