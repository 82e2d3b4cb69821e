/-
  'BrandPromises' returns true, for any lot: no condition.
-/
import Derived.Test.YthpllmefbhjmmaaWorks
import Derived.Test.YthpllmefbhjmmaaRefPromise
import Derived.Test.YthpllmefbhjmmaaArgLot
namespace Go.Proofs.Ythpllmefbhjmmaa
open Go.ChangeShapes Go.WideShapes Go.ChangeAt Go.RowKit Plain

/-- The law's block: the lot's nine cells. -/
def LotAt (w : World) (B : Nat) (mv : Value) (N : Int) (r : Rl) (ov : Value) : Prop :=
  w.cell? ⟨B, 0, none⟩ = some mv ∧ w.cell? ⟨B, 1, none⟩ = some (.int .i64 N) ∧ w.cell? ⟨B, 2, none⟩ = some (.int .i64 r.g) ∧ w.cell? ⟨B, 3, none⟩ = some (.int .i64 r.po) ∧ w.cell? ⟨B, 4, none⟩ = some (.int .i64 r.pi) ∧
    w.cell? ⟨B, 5, none⟩ = some (.int .i64 r.b) ∧ w.cell? ⟨B, 6, none⟩ = some (.int .i64 r.fo) ∧ w.cell? ⟨B, 7, none⟩ = some (.int .i64 r.fi) ∧ w.cell? ⟨B, 8, none⟩ = some ov
theorem LotAt.lt {w : World} {B : Nat} {mv : Value} {N : Int} {r : Rl} {ov : Value} (h : LotAt w B mv N r ov) : B < w.heap.size := World.block_lt_of_cell? _ _ h.1
theorem LotAt.below {w w' : World} {B : Nat} {mv : Value} {N : Int} {r : Rl} {ov : Value} (h : LotAt w B mv N r ov) (hB : Below w.heap.size w w') : LotAt w' B mv N r ov := by
  have hl := h.lt
  have k : ∀ i, w'.cell? ⟨B, i, none⟩ = w.cell? ⟨B, i, none⟩ := fun i => World.cell?_of_block (a := ⟨B, i, none⟩) (hB.block _ hl)
  obtain ⟨h0, h1, h2, h3, h4, h5, h6, h7, h8⟩ := h
  exact ⟨(k _).trans h0, (k _).trans h1, (k _).trans h2, (k _).trans h3, (k _).trans h4, (k _).trans h5, (k _).trans h6, (k _).trans h7, (k _).trans h8⟩
theorem LotAt.start (w : World) (mv : Value) (N : Int) (r : Rl) (ov : Value) : LotAt (w.alloc (.cells #[mv, .int .i64 N, .int .i64 r.g, .int .i64 r.po, .int .i64 r.pi, .int .i64 r.b, .int .i64 r.fo, .int .i64 r.fi, ov] 67)) w.heap.size mv N r ov := by
  unfold LotAt; go_simp

set_option maxRecDepth 100000 in
set_option maxHeartbeats 1600000 in
theorem law8 (v ov : Value) (ms : List Mk) (xs : List Br) (N : Int) (r : Rl) (w : World) (hms : MarksAt w v ms) (hlen : ms.length ≤ 140737488351232) (hxs : BrsAt w ov xs) (hlx : xs.length ≤ 140737488351232) :
    Calls Try.prog 8 #[lotA v N r ov] w fun e w' => e = .returned (.bool true) ∧ Below w.heap.size w w' := by
  obtain ⟨z, hz⟩ : ∃ z, promiseR ms N r xs = z := ⟨_, rfl⟩
  have Hz := Lib.hid hz
  clear hz
  obtain ⟨z1, z2, z3⟩ := z
  have hB := below_alloc (w := w) (.cells #[v, .int .i64 N, .int .i64 r.g, .int .i64 r.po, .int .i64 r.pi, .int .i64 r.b, .int .i64 r.fo, .int .i64 r.fi, ov] 67)
  have HL := Lib.hid (LotAt.start w v N r ov)
  have Hms := Lib.hid hms
  have Hxs := Lib.hid hxs
  obtain ⟨a1, c1, rfl, _⟩ := hms
  obtain ⟨a2, c2, rfl, _⟩ := hxs
  obtain ⟨g, po, pi, b, fo, fi⟩ := r
  have Hms0 := Lib.hid (Hms.out.below hB)
  have Hxs0 := Lib.hid (Hxs.out.below hB)
  go_enter Try.func8, Try.ntmps8
  go_wp2_with fail
  refine (promise_ex _ _ ms xs N ⟨g, po, pi, b, fo, fi⟩ _ Hms0.out hlen Hxs0.out hlx Hz.out).mono ?_
  rintro e w1 ⟨rfl, hB1⟩
  have hB2 := below_trans hB hB1
  obtain ⟨l0, l1, l2, l3, l4, l5, l6, l7, l8⟩ := HL.out.below hB1
  have hl := (HL.out.below hB1).lt
  have Hms1 := Lib.hid (Hms.out.below hB2)
  have Hxs1 := Lib.hid (Hxs.out.below hB2)
  clear hB hB1 Hms0 Hxs0
  go_wp2_with fail
  refine (promiseRef_ex _ _ ms xs N ⟨g, po, pi, b, fo, fi⟩ _ Hms1.out hlen Hxs1.out hlx Hz.out).mono ?_
  rintro e w2 ⟨rfl, hB3⟩
  have hB4 := below_trans hB2 hB3
  clear hB2 hB3 l0 l1 l2 l3 l4 l5 l6 l7 l8
  go_wp2_with fail
  refine (works_is _).mono ?_
  rintro e w3 ⟨rfl, hB5⟩
  have hB6 := below_trans hB4 hB5
  clear hB4 hB5
  go_wp2_with fail
  go_ret
  exact ⟨rfl, hB6⟩

set_option maxRecDepth 100000 in
theorem lifted8 (os : Os) (started : os.Started) (H : Type) (enc : TypeId × Value → H) :
    ReturnsInHanded {} Try.checked os 8 .any (Rows.brandPromisesSpec.pre6 enc Try.prog Try.f8 Rows.brandPromisesRow.domain false) (Rows.brandPromisesSpec.post enc Try.prog Try.f8 false true false false) := by
  refine returnsInHanded_of_change_sized (C := Try.checked) Try.own started (by kernel_rfl) Try.func8
    (ChangeSpec.witness6 (enc := enc) (C := Try.checked) false ⟨#[], #[.agg #[.slice none 0 0, .int .i64 0, .int .i64 0, .int .i64 0, .int .i64 0, .int .i64 0, .int .i64 0, .int .i64 0, .slice none 0 0]], []⟩ 8 (by kernel_rfl) (by kernel_rfl) (by kernel_rfl) (by kernel_rfl)) ?_
  intro W base args ds gs before hval0 hW _ hsz0 _
  have hsz : (DataW.weightsEach Try.prog (Try.f8.params.toList ++ Rows.brandPromisesSpec.plain.varTypes Try.prog) (ds ++ gs)).all (· ≤ reachBytes) = true := hsz0
  clear hsz0
  have hval : ∀ (j : Nat) t v, Try.f8.params[j]? = some t → args[j]? = some v → Value.okWide Try.prog W .any base t v := hval0
  have hW' := hW
  obtain ⟨p, q, hA0, hV, rfl, _, _⟩ := hW
  have hA : DataW.TrodAll enc Try.prog W 0 (fun _ => true) true Try.f8.params.toList args.toList ds p := hA0
  rw [Try.params8] at hA hval hsz
  obtain ⟨v0, d0, rfl, rfl, h0⟩ := trodAll_one hA
  obtain ⟨rfl, rfl⟩ := trodVars_none hV
  obtain ⟨mv, N, r, ov, ms, xs, rfl, hms, hlen, hxs, hlx⟩ := open_lot h0 (hval 0 67 v0 rfl rfl) (fun n hn => by simpa using List.all_eq_true.1 hsz n (DataW.weights_mem_each (j := 0) rfl rfl n hn))
  clear hA0 hval0
  refine (law8 mv ov ms xs N r W hms hlen hxs hlx).mono fun e W' ⟨he, hb⟩ => ?_
  subst he
  exact ⟨_, rfl, law_shut (by kernel_rfl) (of_decide_eq_true (by kernel_rfl)) rfl rfl hW' hb⟩

theorem brandPromises_holds : Rows.BrandPromisesSaid :=
  OpenClaim.holds_of_wide 8 Try.f8 rfl rfl rfl rfl rfl rfl rfl ⟨rfl, rfl, rfl, rfl, rfl⟩ rfl rfl rfl rfl rfl (by kernel_rfl) Try.func8 (by kernel_rfl)
    (of_decide_eq_true (by kernel_rfl)) (by unfold Func.isWrapper; first | (rw [if_pos (by decide +kernel)]; kernel_rfl) | (rw [if_neg (by decide +kernel)]; exact ⟨rfl, rfl⟩))
    (fun os started H enc _ => lifted8 os started H enc)

end Go.Proofs.Ythpllmefbhjmmaa
