/-
  'works': the chapter's examples hold.
-/
import Derived.Test.YthpllmefbhjmmaaSmall
import Derived.Test.YthpllmefbhjmmaaBelow
namespace Go.Proofs.Ythpllmefbhjmmaa
open Go.RowKit Go.Maps Plain
attribute [local go_sem] Oper.semAt_some

theorem ex_grade : gradeR chMarks chMattie = (1, 0) := by decide +kernel
theorem ex_odds : oddsR 10 5 5 1 = (13, 126, 0) := by decide +kernel
theorem ex_keeps : keepsR 10 chRule 6 1 = (true, 0) := by decide +kernel
theorem ex_fewest : fewestR 10 chRule = (6, 1, 0) := by decide +kernel
theorem ex_below : belowR 10 6 1 1 10 = (1, 4, 0) := by decide +kernel
theorem ex_promise : promiseR chMarks 10 chRule chOpened = (1, 1, 0) := by decide +kernel

theorem odds_ex {z : Int × Int × Int} (N b o a : Int) (w : World) (h : oddsR N b o a = z) : Calls Try.prog 22 #[.int .i64 N, .int .i64 b, planV o a] w fun e w' => e = .returned (oddsV z) ∧ Below w.heap.size w w' := by
  rw [← h]; exact odds_any N b o a w

theorem grade_ex {z : Int × Int} (v : Value) (ms : List Mk) (x : Br) (w : World) (hms : MarksAt w v ms) (hlen : ms.length ≤ 140737488351232) (h : gradeR ms x = z) :
    Calls Try.prog 19 #[v, brV x] w fun e w' => e = .returned (gradeV z) ∧ Below w.heap.size w w' := by
  rw [← h]; exact grade_any v ms x w hms hlen
theorem keeps_ex {z : Bool × Int} (N o a : Int) (r : Rl) (w : World) (h : keepsR N r o a = z) : Calls Try.prog 24 #[.int .i64 N, rlV r, planV o a] w fun e w' => e = .returned (keepsV z) ∧ Below w.heap.size w w' := by
  rw [← h]; exact keepsR_any N r o a w
theorem fewest_ex {z : Int × Int × Int} (N : Int) (r : Rl) (w : World) (h : fewestR N r = z) : Calls Try.prog 26 #[.int .i64 N, rlV r] w fun e w' => e = .returned (oddsV z) ∧ Below w.heap.size w w' := by
  rw [← h]; exact fewest_any N r w
theorem below_ex {z : Int × Int × Int} (N o f dof din : Int) (w : World) (h : belowR N o f dof din = z) :
    Calls Try.prog 28 #[.int .i64 N, .int .i64 o, .int .i64 f, planV dof din] w fun e w' => e = .returned (oddsV z) ∧ Below w.heap.size w w' := by
  rw [← h]; exact below_any N o f dof din w
theorem promise_ex {z : Int × Int × Int} (v ov : Value) (ms : List Mk) (xs : List Br) (N : Int) (r : Rl) (w : World) (hms : MarksAt w v ms) (hlen : ms.length ≤ 140737488351232) (hxs : BrsAt w ov xs) (hlx : xs.length ≤ 140737488351232) (h : promiseR ms N r xs = z) :
    Calls Try.prog 37 #[v, .int .i64 N, rlV r, ov] w fun e w' => e = .returned (promV z) ∧ Below w.heap.size w w' := by
  rw [← h]; exact promise_any v ov ms xs N r w hms hlen hxs hlx

/-- Two structs of two numbers each, and all else as it was. -/
def TwoTwo (w0 : World) (a b : Nat) (x y p q : Int) (w' : World) : Prop :=
  w'.cell? ⟨a, 0, none⟩ = some (.int .i64 x) ∧ w'.cell? ⟨a, 1, none⟩ = some (.int .i64 y) ∧ w'.cell? ⟨b, 0, none⟩ = some (.int .i64 p) ∧ w'.cell? ⟨b, 1, none⟩ = some (.int .i64 q) ∧ Below w0.heap.size w0 w'
theorem TwoTwo.drew {w0 w' : World} {a b : Nat} {x y p q : Int} (h : TwoTwo w0 a b x y p q w') : TwoTwo w0 a b x y p q w'.drew := ⟨h.1, h.2.1, h.2.2.1, h.2.2.2.1, h.2.2.2.2.drew⟩
theorem TwoTwo.below {w0 w' w2 : World} {a b : Nat} {x y p q : Int} (h : TwoTwo w0 a b x y p q w') (hB : Below w'.heap.size w' w2) : TwoTwo w0 a b x y p q w2 := by
  obtain ⟨h0, h1, h2, h3, h4⟩ := h
  have ha := World.block_lt_of_cell? _ _ h0
  have hb := World.block_lt_of_cell? _ _ h2
  have ka : ∀ i, w2.cell? ⟨a, i, none⟩ = w'.cell? ⟨a, i, none⟩ := fun i => World.cell?_of_block (a := ⟨a, i, none⟩) (hB.block a ha)
  have kb : ∀ i, w2.cell? ⟨b, i, none⟩ = w'.cell? ⟨b, i, none⟩ := fun i => World.cell?_of_block (a := ⟨b, i, none⟩) (hB.block b hb)
  exact ⟨(ka _).trans h0, (ka _).trans h1, (kb _).trans h2, (kb _).trans h3, below_trans h4 hB⟩

set_option maxRecDepth 100000 in
set_option maxHeartbeats 1600000 in
theorem works_is (w : World) :
    Calls Try.prog 21 #[] w fun e w' => e = .returned (.bool true) ∧ Below w.heap.size w w' := by
  go_enter Try.func21, Try.ntmps21
  go_wp2_with fail
  refine (brands_is _).mono ?_
  rintro e w1 ⟨v, rfl, hm1, hB1⟩
  have Hm1 := Lib.hid hm1
  obtain ⟨a1, c1, rfl, hm⟩ := hm1
  clear hm
  go_wp2_with fail
  refine (mattie_is _).mono ?_
  rintro e w2 ⟨rfl, hB2⟩
  have Hm2 := Lib.hid (Hm1.out.below hB2)
  have hB := below_trans hB1 hB2
  clear hB1 hB2
  go_wp2_with fail
  refine (grade_ex _ chMarks chMattie _ Hm2.out (by decide) ex_grade).mono ?_
  rintro e w3 ⟨rfl, hB3⟩
  replace hB := below_trans hB hB3
  clear hB3 Hm2 Hm1
  go_wp2_with fail
  refine (opens_is _ _ _).mono ?_
  rintro e w4 ⟨rfl, hB4⟩
  replace hB := below_trans hB hB4
  clear hB4
  go_wp2_with fail
  refine (odds_ex _ _ _ _ _ ex_odds).mono ?_
  rintro e w5 ⟨rfl, hB5⟩
  replace hB := below_trans hB hB5
  clear hB5
  go_wp2_with fail
  have O0 : Hid (TwoAt (w5.alloc (.cells #[.int .i64 13, .int .i64 126] 34)) w5.heap.size (.int .i64 13) (.int .i64 126)) := by show TwoAt _ _ _ _; unfold TwoAt; go_simp
  refine (rule_is _).mono ?_
  rintro e w6 ⟨rfl, hB6⟩
  have O1 := Lib.hid (O0.out.below hB6 (by simp))
  have hz1 : w5.heap.size < w6.heap.size := by have := hB6.size; simp at this; omega
  replace hB := below_trans (below_more hB _) hB6
  clear hB6 O0
  go_wp2_with fail
  refine (opens_is _ _ _).mono ?_
  rintro e w7 ⟨rfl, hB7⟩
  have O2 := Lib.hid (O1.out.below hB7 hz1)
  have hz2 : w5.heap.size < w7.heap.size := by have := hB7.size; omega
  replace hB := below_trans hB hB7
  clear hB7 O1
  go_wp2_with fail
  refine (keeps_ex 10 6 1 chRule _ ex_keeps).mono ?_
  rintro e w8 ⟨rfl, hB8⟩
  have O3 := Lib.hid (O2.out.below hB8 hz2)
  have hz3 : w5.heap.size < w8.heap.size := by have := hB8.size; omega
  replace hB := below_trans hB hB8
  clear hB8 O2
  go_wp2_with fail
  refine (rule_is _).mono ?_
  rintro e w9 ⟨rfl, hB9⟩
  have O4 := Lib.hid (O3.out.below hB9 hz3)
  have hz4 : w5.heap.size < w9.heap.size := by have := hB9.size; omega
  replace hB := below_trans hB hB9
  clear hB9 O3
  go_wp2_with fail
  refine (fewest_ex 10 chRule _ ex_fewest).mono ?_
  rintro e wa ⟨rfl, hBa⟩
  have O5 := Lib.hid (O4.out.below hBa hz4)
  have hz5 : w5.heap.size < wa.heap.size := by have := hBa.size; omega
  replace hB := below_trans hB hBa
  clear hBa O4
  have hb1 := below_alloc (w := wa) (.cells #[.int .i64 6, .int .i64 1] 32)
  have P0 : TwoAt (wa.alloc (.cells #[.int .i64 6, .int .i64 1] 32)) wa.heap.size (.int .i64 6) (.int .i64 1) := by unfold TwoAt; go_simp
  have O6 := O5.out.below hb1 hz5
  have HS : Hid (TwoTwo w w5.heap.size wa.heap.size 13 126 6 1 (wa.alloc (.cells #[.int .i64 6, .int .i64 1] 32))) := ⟨O6.1, O6.2, P0.1, P0.2, below_more hB _⟩
  clear O5 O6 P0 hb1 hB
  go_wp2_with fail
  go_region_held3 (fun w' => w'.cell? ⟨w5.heap.size, 0, none⟩ = some (.int .i64 13) ∧ w'.cell? ⟨w5.heap.size, 1, none⟩ = some (.int .i64 126) ∧ w'.cell? ⟨wa.heap.size, 0, none⟩ = some (.int .i64 6) ∧ w'.cell? ⟨wa.heap.size, 1, none⟩ = some (.int .i64 1) ∧ Below w.heap.size w w')
    (first | exact HS.out.drew | exact TwoTwo.below (by assumption) hBb | exact TwoTwo.below (by assumption) hBc)
    (first
      | (go_at_call 46; refine (of_is 13 126 _).mono ?_; rintro e wb ⟨rfl, hBb⟩)
      | (go_at_call 44; refine (opens_is 6 1 _).mono ?_; rintro e wc ⟨rfl, hBc⟩))
  have hS : TwoTwo w w5.heap.size wa.heap.size 13 126 6 1 wc := by assumption
  have hB := hS.2.2.2.2
  clear hS hBb hBc HS
  go_wp2_with fail
  refine (of_is 1 10 _).mono ?_
  rintro e wd ⟨rfl, hBd⟩
  replace hB := below_trans hB hBd
  clear hBd
  go_wp2_with fail
  refine (below_ex 10 6 1 1 10 _ ex_below).mono ?_
  rintro e we ⟨rfl, hBe⟩
  replace hB := below_trans hB hBe
  clear hBe
  have Q0 : TwoAt (we.alloc (.cells #[.int .i64 1, .int .i64 4] 47)) we.heap.size (.int .i64 1) (.int .i64 4) := by unfold TwoAt; go_simp
  have hb2 := below_more hB (.cells #[.int .i64 1, .int .i64 4] 47)
  have hz6 : we.heap.size < (we.alloc (.cells #[.int .i64 1, .int .i64 4] 47)).heap.size := by simp
  go_wp2_with fail
  obtain ⟨W, hW⟩ : ∃ W, we.alloc (.cells #[.int .i64 1, .int .i64 4] 47) = W := ⟨_, rfl⟩
  rw [hW] at Q0 hb2 hz6 ⊢
  clear hW hB
  refine (brands_is _).mono ?_
  rintro e wf ⟨v2, rfl, hm2, hBf⟩
  have Hm2 := Lib.hid hm2
  obtain ⟨a2, c2, rfl, hm⟩ := hm2
  have Q1 := Q0.below hBf hz6
  have hz7 : we.heap.size < wf.heap.size := by have := hBf.size; omega
  replace hb2 := below_trans hb2 hBf
  clear hm hBf Q0
  go_wp2_with fail
  refine (rule_is _).mono ?_
  rintro e wg ⟨rfl, hBg⟩
  have Hm3 := Lib.hid (Hm2.out.below hBg)
  have Q2 := Q1.below hBg hz7
  have hz8 : we.heap.size < wg.heap.size := by have := hBg.size; omega
  replace hb2 := below_trans hb2 hBg
  clear hBg Q1 Hm2
  go_wp2_with fail
  refine (opened_is _).mono ?_
  rintro e wh ⟨v3, rfl, ho3, hBh⟩
  have Ho3 := Lib.hid ho3
  obtain ⟨a3, c3, rfl, ho⟩ := ho3
  have Hm4 := Lib.hid (Hm3.out.below hBh)
  have Q3 := Q2.below hBh hz8
  have hz9 : we.heap.size < wh.heap.size := by have := hBh.size; omega
  replace hb2 := below_trans hb2 hBh
  clear ho hBh Q2 Hm3
  go_wp2_with fail
  refine (promise_ex _ _ chMarks chOpened 10 chRule _ Hm4.out (by decide) Ho3.out (by decide) ex_promise).mono ?_
  rintro e wi ⟨rfl, hBi⟩
  have Q4 := Q3.below hBi hz9
  replace hb2 := below_trans hb2 hBi
  have HQ : Hid (TwoTwo w we.heap.size we.heap.size 1 4 1 4 wi) := ⟨Q4.1, Q4.2, Q4.1, Q4.2, hb2⟩
  clear Q4 hb2 hBi Q3
  go_wp2_with fail
  go_region_held3 (fun w' => w'.cell? ⟨we.heap.size, 0, none⟩ = some (.int .i64 1) ∧ w'.cell? ⟨we.heap.size, 1, none⟩ = some (.int .i64 4) ∧ w'.cell? ⟨we.heap.size, 0, none⟩ = some (.int .i64 1) ∧ w'.cell? ⟨we.heap.size, 1, none⟩ = some (.int .i64 4) ∧ Below w.heap.size w w')
    (first | exact HQ.out.drew | exact TwoTwo.below (by assumption) hBj)
    (first
      | (go_at_call 49; refine (to_is 1 4 _).mono ?_; rintro e wj ⟨rfl, hBj⟩))
  have hS : TwoTwo w we.heap.size we.heap.size 1 4 1 4 wj := by assumption
  have hB := hS.2.2.2.2
  clear hS hBj HQ
  go_wp2_with fail
  go_ret
  exact ⟨rfl, hB⟩

end Go.Proofs.Ythpllmefbhjmmaa
