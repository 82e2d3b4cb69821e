/-
  'TopPacked' returns true, for any yard, months and numbers: no condition.
-/
import Derived.Test.YthpllmefbhjmmaaTopPackedWalk
import Derived.Test.YthpllmefbhjmmaaArgs
namespace Go.Proofs.Ythpllmefbhjmmaa
open Go.ChangeShapes Go.WideShapes Go.ChangeAt Go.RowKit Plain

theorem law9 (v bv : Value) (n : Int) (l : List Ck) (bits : List Int) (w : World) (hl : CksAt w v l) (hlen : l.length ≤ 140737488351232) (hb : IntsAt w bv bits) (hbl : bits.length ≤ 140737488351232) (hbf : ∀ x ∈ bits, -9223372036854775808 ≤ x ∧ x ≤ 9223372036854775807) (nl : -9223372036854775808 ≤ n) (nu : n ≤ 9223372036854775807) :
    Calls Try.prog 9 #[v, .int .i64 n, bv] w fun e w' => e = .returned (.bool true) ∧ Below w.heap.size w w' := by
  cases hy : yardB l with
  | false => exact law9_end 61 v bv n l w hl nl nu rfl (keep_bad v l (n % 13) w hl hlen hy)
  | true =>
    have t0 := Int.emod_nonneg n (show (13 : Int) ≠ 0 by omega)
    have t1 := Int.emod_lt_of_pos n (show 0 < (13 : Int) by omega)
    exact law9_good v bv n l bits (n % 13).toNat w hl hy hb hbl hbf nl nu (by omega) (by omega)

section
variable {H : Type} {enc : TypeId × Value → H} {w : World} {base b0 : Nat} {spare : Nat → Bool} {held : Bool} {v : Value} {d : DataW H} {ps : List MemPlace} {r : Reach}

theorem five_of {l : List Int} (h : l.length = 5) : ∃ a b c d e, l = [a, b, c, d, e] := by
  match l, h with
  | [a, b, c, d, e], _ => exact ⟨a, b, c, d, e, rfl⟩
theorem one_of {l : List Int} (h : l.length = 1) : ∃ a, l = [a] := by
  match l, h with
  | [a], _ => exact ⟨a, rfl⟩

/-- A yard, as an argument. -/
theorem yard_of {cs : List Value} {fuel : Nat} {x : DataW H × List MemPlace} (h : DataW.trod enc Try.prog w base spare held fuel 69 cs = some x) (hz : ∀ n ∈ x.1.weights Try.prog 69, n ≤ reachBytes) :
    ∃ v l, cs = [v] ∧ CksAt w v l ∧ l.length ≤ 140737488351232 := by
  obtain ⟨a, nss, cap, rfl, hb, hc, hcell⟩ := open_flats (k := 4) (c := 5) Try.underlying69 (by kernel_rfl) (by kernel_rfl) h hz
  rw [show Try.prog.bytesOf 74 = 40 by kernel_rfl] at hb
  have e5 : ∀ ns ∈ nss, ∃ a b c d e, ns = [a, b, c, d, e] := fun ns h => five_of (hc ns h)
  refine ⟨_, nss.map fun ns => ⟨ns.getD 0 0, ns.getD 1 0, ns.getD 2 0, ns.getD 3 0, ns.getD 4 0⟩, rfl, ⟨a, cap, by simp, fun i s hi => ?_⟩, by
    have : reachBytes ≤ 140737488351232 * 40 := by decide
    simp; omega⟩
  rw [List.getElem?_map, Option.map_eq_some_iff] at hi
  obtain ⟨ns, hi, rfl⟩ := hi
  obtain ⟨n0, n1, n2, n3, n4, rfl⟩ := e5 ns (List.mem_of_getElem? hi)
  obtain ⟨b, off, rfl, k0⟩ := hcell i _ hi 0 n0 rfl
  have k : ∀ j n, [n0, n1, n2, n3, n4][j]? = some n → w.cell? ⟨b, off + i * 5 + j, none⟩ = some (.int .i64 n) := fun j n hj => by
    obtain ⟨b', off', hbo, hk⟩ := hcell i _ hi j n hj
    injection hbo with hbo
    injection hbo with h1 h2
    subst h1; subst h2
    rw [Nat.add_assoc]; exact hk
  exact ⟨b, off, rfl, k 0 _ rfl, k 1 _ rfl, k 2 _ rfl, k 3 _ rfl, k 4 _ rfl⟩
set_option maxRecDepth 100000 in
theorem open_yard (h : DataW.Trod enc Try.prog w base spare held 69 v d ps) (hv : Value.okWide Try.prog w r b0 69 v) (hz : ∀ n ∈ d.weights Try.prog 69, n ≤ reachBytes) :
    ∃ l, CksAt w v l ∧ l.length ≤ 140737488351232 := by
  obtain ⟨a, len, cap, rfl⟩ := okWide_slice Try.underlying69 hv
  obtain ⟨fuel, hf⟩ := h
  obtain ⟨v, l, he, hm, hl⟩ := yard_of hf hz
  simp [Value.cells] at he
  subst he
  exact ⟨l, hm, hl⟩
set_option maxRecDepth 100000 in
/-- Numbers, as an argument. -/
theorem open_bits (h : DataW.Trod enc Try.prog w base spare held 52 v d ps) (hv : Value.okWide Try.prog w r b0 52 v) (hz : ∀ n ∈ d.weights Try.prog 52, n ≤ reachBytes) :
    ∃ l, IntsAt w v l ∧ l.length ≤ 140737488351232 ∧ ∀ x ∈ l, -9223372036854775808 ≤ x ∧ x ≤ 9223372036854775807 := by
  obtain ⟨a, len, cap, rfl⟩ := okWide_slice Try.underlying52 hv
  obtain ⟨fuel, hf⟩ := h
  have f0 : DataW.trod enc Try.prog w base spare held fuel 52 [.slice a len cap] = some (d, ps) := hf
  obtain ⟨a', nss, cap', he, hb, hc, hcell⟩ := open_flats (k := 4) (c := 1) Try.underlying52 (by kernel_rfl) (by kernel_rfl) f0 hz
  rw [show Try.prog.bytesOf 3 = 8 by kernel_rfl] at hb
  simp only [List.cons.injEq, Value.slice.injEq, and_true] at he
  obtain ⟨rfl, rfl, rfl⟩ := he
  have hcell2 : ∀ (i : Nat) (x : Int), (nss.map fun ns => ns.getD 0 0)[i]? = some x → ∃ b off, a = some ⟨b, off, none⟩ ∧ w.cell? ⟨b, off + i, none⟩ = some (.int .i64 x) := by
    intro i x hi
    rw [List.getElem?_map, Option.map_eq_some_iff] at hi
    obtain ⟨ns, hi, rfl⟩ := hi
    obtain ⟨y, rfl⟩ := one_of (hc ns (List.mem_of_getElem? hi))
    obtain ⟨b, off, ha, k0⟩ := hcell i _ hi 0 y rfl
    rw [Nat.mul_one, Nat.add_zero] at k0
    exact ⟨b, off, ha, k0⟩
  refine ⟨nss.map fun ns => ns.getD 0 0, ⟨a, cap, by simp, hcell2⟩, by
    have : reachBytes ≤ 140737488351232 * 8 := by decide
    simp; omega, fun x hx => ?_⟩
  obtain ⟨i, hi⟩ := List.getElem?_of_mem hx
  have hil : i < nss.length := by
    have := (List.getElem?_eq_some_iff.1 hi).1
    simpa using this
  obtain ⟨b, off, ha, hcx⟩ := hcell2 i x hi
  rcases open_ints Try.underlying52 Try.underlying3 (by kernel_rfl) f0 with ⟨h1, _⟩ | ⟨ad, len, cap2, zs, h1, _, hlc, _, hzl, _, hzc, hwf⟩
  · simp only [List.cons.injEq, Value.slice.injEq, and_true] at h1
    omega
  · simp only [List.cons.injEq, Value.slice.injEq, and_true] at h1
    obtain ⟨h2, h3, h4⟩ := h1
    have hiz : i < zs.length := by rw [hzl]; split <;> omega
    have hc2 := hzc i hiz
    rw [ha] at h2
    injection h2 with h2
    rw [← h2] at hc2
    have hc3 : w.cell? ⟨b, off + i, none⟩ = some (.int .i64 (zs.getD i 0)) := by
      cases i with
      | zero => simpa [Addr.add] using hc2
      | succ i => simpa [Addr.add] using hc2
    rw [hcx] at hc3
    injection hc3 with hc3
    injection hc3 with _ hc3
    rw [hc3]
    rw [List.getD_eq_getElem?_getD, List.getElem?_eq_getElem hiz]
    exact bounds_i64 (hwf _ (List.getElem_mem hiz))
end

set_option maxRecDepth 100000 in
theorem lifted9 (os : Os) (started : os.Started) (H : Type) (enc : TypeId × Value → H) :
    ReturnsInHanded {} Try.checked os 9 .any (Rows.topPackedSpec.pre6 enc Try.prog Try.f9 Rows.topPackedRow.domain false) (Rows.topPackedSpec.post enc Try.prog Try.f9 false true false false) := by
  refine returnsInHanded_of_change_sized (C := Try.checked) Try.own started (by kernel_rfl) Try.func9
    (ChangeSpec.witness6 (enc := enc) (C := Try.checked) false ⟨#[], #[.slice none 0 0, .int .i64 0, .slice none 0 0], []⟩ 8 (by kernel_rfl) (by kernel_rfl) (by kernel_rfl) (by kernel_rfl)) ?_
  intro W base args ds gs before hval0 hW _ hsz0 _
  have hsz : (DataW.weightsEach Try.prog (Try.f9.params.toList ++ Rows.topPackedSpec.plain.varTypes Try.prog) (ds ++ gs)).all (· ≤ reachBytes) = true := hsz0
  clear hsz0
  have hval : ∀ (j : Nat) t v, Try.f9.params[j]? = some t → args[j]? = some v → Value.okWide Try.prog W .any base t v := hval0
  have hW' := hW
  obtain ⟨p, q, hA0, hV, rfl, _, _⟩ := hW
  have hA : DataW.TrodAll enc Try.prog W 0 (fun _ => true) true Try.f9.params.toList args.toList ds p := hA0
  rw [Try.params9] at hA hval hsz
  obtain ⟨v0, v1, v2, d0, d1, d2, p0, p1, p2, rfl, rfl, rfl, h0, h1, h2⟩ := trodAll_three hA
  obtain ⟨rfl, rfl⟩ := trodVars_none hV
  obtain ⟨l, hl, hlen⟩ := open_yard h0 (hval 0 69 v0 rfl rfl) (fun n hn => by simpa using List.all_eq_true.1 hsz n (DataW.weights_mem_each (j := 0) rfl rfl n hn))
  obtain ⟨n, rfl, rfl, rfl, hn⟩ := open_int Try.underlying3 (hval 1 3 v1 rfl rfl) h1
  obtain ⟨nl, nu⟩ := bounds_i64 hn
  obtain ⟨bits, hb, hbl, hbf⟩ := open_bits h2 (hval 2 52 v2 rfl rfl) (fun n hn => by simpa using List.all_eq_true.1 hsz n (DataW.weights_mem_each (j := 2) rfl rfl n hn))
  clear hA0 hval0
  refine (law9 v0 v2 n l bits W hl hlen hb hbl hbf nl nu).mono fun e W' ⟨he, hb⟩ => ?_
  subst he
  exact ⟨_, rfl, law_shut (by kernel_rfl) (of_decide_eq_true (by kernel_rfl)) rfl rfl hW' hb⟩

theorem topPacked_holds : Rows.TopPackedSaid :=
  OpenClaim.holds_of_wide 9 Try.f9 rfl rfl rfl rfl rfl rfl rfl ⟨rfl, rfl, rfl, rfl, rfl⟩ rfl rfl rfl rfl rfl (by kernel_rfl) Try.func9 (by kernel_rfl)
    (of_decide_eq_true (by kernel_rfl)) (by unfold Func.isWrapper; first | (rw [if_pos (by decide +kernel)]; kernel_rfl) | (rw [if_neg (by decide +kernel)]; exact ⟨rfl, rfl⟩))
    (fun os started H enc _ => lifted9 os started H enc)

end Go.Proofs.Ythpllmefbhjmmaa
