/-
  'TopGraded' returns true, for any baskets, rule and number: no condition.
-/
import Derived.Test.YthpllmefbhjmmaaTopGradedWalk
import Derived.Test.YthpllmefbhjmmaaArgs
namespace Go.Proofs.Ythpllmefbhjmmaa
open Go.ChangeShapes Go.WideShapes Go.ChangeAt Go.RowKit Plain

theorem law7 (v : Value) (l : List Sp) (r : Rl) (n : Int) (w : World) (hl : SpsAt w v l) (hlen : l.length ≤ 140737488351232) (hcap : ∀ a len cap, v = .slice a len cap → len ≤ cap) (nl : -9223372036854775808 ≤ n) (nu : n ≤ 9223372036854775807) :
    Calls Try.prog 7 #[v, rlV r, .int .i64 n] w fun e w' => e = .returned (.bool true) ∧ Below w.heap.size w w' := by
  cases h : loadsB l with
  | false => exact law7_bad v l r n w hl hlen h
  | true =>
    have h' := h
    unfold loadsB at h'
    rw [Bool.and_eq_true] at h'
    obtain ⟨l1, _⟩ := inB_true h'.1
    obtain ⟨a, cap, rfl, hm⟩ := hl
    obtain ⟨b, off, rfl, _⟩ := hm 0 l[0] (List.getElem?_eq_getElem (by omega))
    exact law7_good b off cap l r n w ⟨_, _, rfl, hm⟩ (hcap _ _ _ rfl) h nl nu

section
variable {H : Type} {enc : TypeId × Value → H} {w : World} {base b0 : Nat} {spare : Nat → Bool} {held : Bool} {v : Value} {d : DataW H} {ps : List MemPlace} {r : Reach}

/-- Baskets, as an argument. -/
theorem spans_of {cs : List Value} {fuel : Nat} {x : DataW H × List MemPlace} (h : DataW.trod enc Try.prog w base spare held fuel 51 cs = some x) (hz : ∀ n ∈ x.1.weights Try.prog 51, n ≤ reachBytes) :
    ∃ v l, cs = [v] ∧ SpsAt w v l ∧ l.length ≤ 140737488351232 := by
  obtain ⟨a, nss, cap, rfl, hb, hc, hcell⟩ := open_flats (k := 4) (c := 2) Try.underlying51 (by kernel_rfl) (by kernel_rfl) h hz
  rw [show Try.prog.bytesOf 47 = 16 by kernel_rfl] at hb
  have e2 : ∀ ns ∈ nss, ∃ a b, ns = [a, b] := fun ns h => two_of (hc ns h)
  refine ⟨_, nss.map fun ns => ⟨ns.getD 0 0, ns.getD 1 0⟩, rfl, ⟨a, cap, by simp, fun i s hi => ?_⟩, by
    have : reachBytes ≤ 140737488351232 * 16 := by decide
    simp; omega⟩
  rw [List.getElem?_map, Option.map_eq_some_iff] at hi
  obtain ⟨ns, hi, rfl⟩ := hi
  obtain ⟨n0, n1, rfl⟩ := e2 ns (List.mem_of_getElem? hi)
  obtain ⟨b, off, rfl, k0⟩ := hcell i _ hi 0 n0 rfl
  obtain ⟨b', off', hbo, k1⟩ := hcell i _ hi 1 n1 rfl
  injection hbo with hbo
  injection hbo with h1 h2
  subst h1; subst h2
  exact ⟨b, off, rfl, k0, by rw [Nat.add_assoc]; exact k1⟩

set_option maxRecDepth 100000 in
theorem open_spans (h : DataW.Trod enc Try.prog w base spare held 51 v d ps) (hv : Value.okWide Try.prog w r b0 51 v) (hz : ∀ n ∈ d.weights Try.prog 51, n ≤ reachBytes) :
    ∃ l, SpsAt w v l ∧ l.length ≤ 140737488351232 := by
  obtain ⟨a, len, cap, rfl⟩ := okWide_slice Try.underlying51 hv
  obtain ⟨fuel, hf⟩ := h
  obtain ⟨v, l, he, hm, hl⟩ := spans_of hf hz
  simp [Value.cells] at he
  subst he
  exact ⟨l, hm, hl⟩
set_option maxRecDepth 100000 in
theorem spans_cap (h : DataW.Trod enc Try.prog w base spare held 51 v d ps) (hv : Value.okWide Try.prog w r b0 51 v) : ∀ a len cap, v = .slice a len cap → len ≤ cap := by
  intro a len cap he
  subst he
  obtain ⟨fuel, hf⟩ := h
  have f0 : DataW.trod enc Try.prog w base spare held fuel 51 [.slice a len cap] = some (d, ps) := hf
  rcases DataW.trod_slice Try.underlying51 f0 with ⟨hc, _⟩ | ⟨a', len', cap', elems, rest, n', _, hc, _, _, hlc, _⟩
  · injection hc with hc _
    injection hc with _ h1 h2
    omega
  · injection hc with hc _
    injection hc with _ h1 h2
    omega
end

set_option maxRecDepth 100000 in
theorem lifted7 (os : Os) (started : os.Started) (H : Type) (enc : TypeId × Value → H) :
    ReturnsInHanded {} Try.checked os 7 .any (Rows.topGradedSpec.pre6 enc Try.prog Try.f7 Rows.topGradedRow.domain false) (Rows.topGradedSpec.post enc Try.prog Try.f7 false true false false) := by
  refine returnsInHanded_of_change_sized (C := Try.checked) Try.own started (by kernel_rfl) Try.func7
    (ChangeSpec.witness6 (enc := enc) (C := Try.checked) false ⟨#[], #[.slice none 0 0, .agg #[.int .i64 0, .int .i64 0, .int .i64 0, .int .i64 0, .int .i64 0, .int .i64 0], .int .i64 0], []⟩ 8 (by kernel_rfl) (by kernel_rfl) (by kernel_rfl) (by kernel_rfl)) ?_
  intro W base args ds gs before hval0 hW _ hsz0 _
  have hsz : (DataW.weightsEach Try.prog (Try.f7.params.toList ++ Rows.topGradedSpec.plain.varTypes Try.prog) (ds ++ gs)).all (· ≤ reachBytes) = true := hsz0
  clear hsz0
  have hval : ∀ (j : Nat) t v, Try.f7.params[j]? = some t → args[j]? = some v → Value.okWide Try.prog W .any base t v := hval0
  have hW' := hW
  obtain ⟨p, q, hA0, hV, rfl, _, _⟩ := hW
  have hA : DataW.TrodAll enc Try.prog W 0 (fun _ => true) true Try.f7.params.toList args.toList ds p := hA0
  rw [Try.params7] at hA hval hsz
  obtain ⟨v0, v1, v2, d0, d1, d2, p0, p1, p2, rfl, rfl, rfl, h0, h1, h2⟩ := trodAll_three hA
  obtain ⟨rfl, rfl⟩ := trodVars_none hV
  obtain ⟨l, hl, hlen⟩ := open_spans h0 (hval 0 51 v0 rfl rfl) (fun n hn => by simpa using List.all_eq_true.1 hsz n (DataW.weights_mem_each (j := 0) rfl rfl n hn))
  have hcap := spans_cap h0 (hval 0 51 v0 rfl rfl)
  obtain ⟨r, rfl⟩ := open_rule h1 (hval 1 39 v1 rfl rfl)
  obtain ⟨n, rfl, rfl, rfl, hn⟩ := open_int Try.underlying3 (hval 2 3 v2 rfl rfl) h2
  obtain ⟨nl, nu⟩ := bounds_i64 hn
  clear hA0 hval0
  refine (law7 v0 l r n W hl hlen hcap nl nu).mono fun e W' ⟨he, hb⟩ => ?_
  subst he
  exact ⟨_, rfl, law_shut (by kernel_rfl) (of_decide_eq_true (by kernel_rfl)) rfl rfl hW' hb⟩

theorem topGraded_holds : Rows.TopGradedSaid :=
  OpenClaim.holds_of_wide 7 Try.f7 rfl rfl rfl rfl rfl rfl rfl ⟨rfl, rfl, rfl, rfl, rfl⟩ rfl rfl rfl rfl rfl (by kernel_rfl) Try.func7 (by kernel_rfl)
    (of_decide_eq_true (by kernel_rfl)) (by unfold Func.isWrapper; first | (rw [if_pos (by decide +kernel)]; kernel_rfl) | (rw [if_neg (by decide +kernel)]; exact ⟨rfl, rfl⟩))
    (fun os started H enc _ => lifted7 os started H enc)

end Go.Proofs.Ythpllmefbhjmmaa
