/-
  'BrandPromised' returns true, for any lot and number: no condition.
-/
import Derived.Test.YthpllmefbhjmmaaPromisedWalk
namespace Go.Proofs.Ythpllmefbhjmmaa
open Go.ChangeShapes Go.WideShapes Go.ChangeAt Go.RowKit Plain

theorem law17 (mv : Value) (N : Int) (r : Rl) (ov : Value) (ms : List Mk) (xs : List Br) (k : Int) (w : World) (hms : MarksAt w mv ms) (hlm : ms.length ≤ 140737488351232) (hxs : BrsAt w ov xs) (hlx : xs.length ≤ 140737488351232)
    (hcap : ∀ a len cap, mv = .slice a len cap → len ≤ cap) (kl : -9223372036854775808 ≤ k) (ku : k ≤ 9223372036854775807) :
    Calls Try.prog 17 #[lotA mv N r ov, .int .i64 k] w fun e w' => e = .returned (.bool true) ∧ Below w.heap.size w w' := by
  rcases promise_cases ms N r xs with ⟨e, he, hz⟩ | ⟨hv, h1, h2, hlN, hbar, i, al, hz, hi, hal, hk1, hk2, hfew, hbet⟩
  · exact law17_bad e mv N r ov ms xs k w hms hlm hxs hlx he hz
  · obtain ⟨ma, mc, rfl, hm⟩ := hms
    obtain ⟨oa, oc, rfl, ho⟩ := hxs
    obtain ⟨bm, om, rfl, _⟩ := hm i ms[i] (List.getElem?_eq_getElem hi)
    exact law17_good i al bm om mc N r oa oc ms xs k w ⟨_, _, rfl, hm⟩ hlm ⟨_, _, rfl, ho⟩ hlx hv h1 h2 hlN hbar hz hi hal hk1 hk2 hfew hbet (hcap _ _ _ rfl) kl ku

section
variable {H : Type} {enc : TypeId × Value → H} {w : World} {base b0 : Nat} {spare : Nat → Bool} {held : Bool} {d : DataW H} {ps : List MemPlace}

set_option maxRecDepth 100000 in
theorem lot_cap {mv : Value} {N : Int} {r : Rl} {ov : Value} (h : DataW.Trod enc Try.prog w base spare held 67 (lotA mv N r ov) d ps) : ∀ a len cap, mv = .slice a len cap → len ≤ cap := by
  intro a len cap he
  obtain ⟨fuel, hf⟩ := h
  obtain ⟨xs, n, _, hx, hl, hlen, hfs⟩ := DataW.trod_struct Try.underlying67 hf
  have f0 : DataW.trod enc Try.prog w base spare held n 22 (([mv, .int .i64 N, .int .i64 r.g, .int .i64 r.po, .int .i64 r.pi, .int .i64 r.b, .int .i64 r.fo, .int .i64 r.fi, ov].drop 0).take (Try.prog.cellsOf 22)) = xs[0]? := hfs 0 _ rfl
  have hl4 : xs.length = 4 := hlen
  obtain ⟨x0, x1, x2, x3, rfl⟩ : ∃ x0 x1 x2 x3, xs = [x0, x1, x2, x3] := by
    match xs, hl4 with
    | [a, b, c, d], _ => exact ⟨a, b, c, d, rfl⟩
  replace f0 : DataW.trod enc Try.prog w base spare held n 22 [mv] = some x0 := by rw [cells22] at f0; exact f0
  subst he
  rcases DataW.trod_slice Try.underlying22 f0 with ⟨hc, _⟩ | ⟨a', len', cap', elems, rest, n', _, hc, _, _, hlc, _⟩
  · injection hc with hc _
    injection hc with _ h1 h2
    omega
  · injection hc with hc _
    injection hc with _ h1 h2
    omega
end

set_option maxRecDepth 100000 in
theorem lifted17 (os : Os) (started : os.Started) (H : Type) (enc : TypeId × Value → H) :
    ReturnsInHanded {} Try.checked os 17 .any (Rows.brandPromisedSpec.pre6 enc Try.prog Try.f17 Rows.brandPromisedRow.domain false) (Rows.brandPromisedSpec.post enc Try.prog Try.f17 false true false false) := by
  refine returnsInHanded_of_change_sized (C := Try.checked) Try.own started (by kernel_rfl) Try.func17
    (ChangeSpec.witness6 (enc := enc) (C := Try.checked) false ⟨#[], #[.agg #[.slice none 0 0, .int .i64 0, .int .i64 0, .int .i64 0, .int .i64 0, .int .i64 0, .int .i64 0, .int .i64 0, .slice none 0 0], .int .i64 0], []⟩ 8 (by kernel_rfl) (by kernel_rfl) (by kernel_rfl) (by kernel_rfl)) ?_
  intro W base args ds gs before hval0 hW _ hsz0 _
  have hsz : (DataW.weightsEach Try.prog (Try.f17.params.toList ++ Rows.brandPromisedSpec.plain.varTypes Try.prog) (ds ++ gs)).all (· ≤ reachBytes) = true := hsz0
  clear hsz0
  have hval : ∀ (j : Nat) t v, Try.f17.params[j]? = some t → args[j]? = some v → Value.okWide Try.prog W .any base t v := hval0
  have hW' := hW
  obtain ⟨p, q, hA0, hV, rfl, _, _⟩ := hW
  have hA : DataW.TrodAll enc Try.prog W 0 (fun _ => true) true Try.f17.params.toList args.toList ds p := hA0
  rw [Try.params17] at hA hval hsz
  obtain ⟨v0, v1, d0, d1, p0, p1, rfl, rfl, rfl, h0, h1⟩ := trodAll_two hA
  obtain ⟨rfl, rfl⟩ := trodVars_none hV
  obtain ⟨mv, N, r, ov, ms, xs, rfl, hms, hlen, hxs, hlx⟩ := open_lot h0 (hval 0 67 v0 rfl rfl) (fun n hn => by simpa using List.all_eq_true.1 hsz n (DataW.weights_mem_each (j := 0) rfl rfl n hn))
  have hcap := lot_cap h0
  obtain ⟨k, rfl, rfl, rfl, hk⟩ := open_int Try.underlying3 (hval 1 3 v1 rfl rfl) h1
  obtain ⟨kl, ku⟩ := bounds_i64 hk
  clear hA0 hval0
  refine (law17 mv N r ov ms xs k W hms hlen hxs hlx hcap kl ku).mono fun e W' ⟨he, hb⟩ => ?_
  subst he
  exact ⟨_, rfl, law_shut (by kernel_rfl) (of_decide_eq_true (by kernel_rfl)) rfl rfl hW' hb⟩

theorem brandPromised_holds : Rows.BrandPromisedSaid :=
  OpenClaim.holds_of_wide 17 Try.f17 rfl rfl rfl rfl rfl rfl rfl ⟨rfl, rfl, rfl, rfl, rfl⟩ rfl rfl rfl rfl rfl (by kernel_rfl) Try.func17 (by kernel_rfl)
    (of_decide_eq_true (by kernel_rfl)) (by unfold Func.isWrapper; first | (rw [if_pos (by decide +kernel)]; kernel_rfl) | (rw [if_neg (by decide +kernel)]; exact ⟨rfl, rfl⟩))
    (fun os started H enc _ => lifted17 os started H enc)

end Go.Proofs.Ythpllmefbhjmmaa
