/-
  Arguments whose leaves are integers, opened; the end of a law, shut.
-/
import Derived.Test.YthpllmefbhjmmaaRows
import Derived.Test.YthpllmefbhjmmaaMemo
import Derived.ProofKit
import Derived.SizedLaws
import Derived.OpenShut
namespace Go.Proofs.Ythpllmefbhjmmaa
open Go.ChangeShapes Go.WideShapes Go.ChangeAt Go.RowKit

/-- All leaves of a type are integers. -/
def flatI (P : Program) : Nat → TypeId → Bool
  | 0, _ => false
  | k + 1, t => match P.underlying t with
    | some (.int .i64) => P.cellsOf t == 1
    | some (.struct fs) => fs.toList.all (fun f => flatI P k f.type) && (List.range (P.cellsOf t)).all fun i => fs.toList.any fun f => decide (f.offset ≤ i) && decide (i < f.offset + P.cellsOf f.type)
    | some (.array n e) => flatI P k e && decide (P.cellsOf t = n * P.cellsOf e)
    | _ => false

section
variable {H : Type} {enc : TypeId × Value → H} {P : Program} {w : World} {base : Nat} {spare : Nat → Bool} {held : Bool}

theorem flat_cells : ∀ (k : Nat) (t : TypeId) (cs : List Value) (fuel : Nat) (x : DataW H × List MemPlace), flatI P k t = true → DataW.trod enc P w base spare held fuel t cs = some x →
    cs.length = P.cellsOf t ∧ ∀ (i : Nat) (v : Value), cs[i]? = some v → ∃ n, v = .int .i64 n ∧ (Lit.int .i64 n).wf = true
  | 0, _, _, _, _, h, _ => by simp [flatI] at h
  | k + 1, t, cs, fuel, x, h, hx => by
    unfold flatI at h
    split at h
    · rename_i hu
      obtain ⟨n, rfl, _, hw⟩ := DataW.trod_int hu hx
      refine ⟨by rw [beq_iff_eq] at h; simp [h], fun i v hv => ?_⟩
      cases i with
      | zero => simp at hv; exact ⟨n, hv.symm, hw⟩
      | succ i => simp at hv
    · rename_i fs hu
      obtain ⟨xs, n, _, _, hl, hlen, hf⟩ := DataW.trod_struct hu hx
      rw [Bool.and_eq_true] at h
      obtain ⟨ha, hc⟩ := h
      refine ⟨hl, fun i v hv => ?_⟩
      have hi : i < P.cellsOf t := by rw [← hl]; exact (List.getElem?_eq_some_iff.1 hv).1
      have hany := List.all_eq_true.1 hc i (by simpa using hi)
      obtain ⟨f, hfm, hfi⟩ := List.any_eq_true.1 hany
      simp only [Bool.and_eq_true, decide_eq_true_eq] at hfi
      obtain ⟨j, hj⟩ := List.getElem?_of_mem hfm
      have hj' : fs[j]? = some f := by simpa using hj
      have hjl : j < xs.length := by
        rw [hlen]; exact (Array.getElem?_eq_some_iff.1 hj').1
      have hrec := hf j f hj'
      rw [List.getElem?_eq_getElem hjl] at hrec
      have hk := List.all_eq_true.1 ha f hfm
      refine (flat_cells k f.type _ n _ hk hrec).2 (i - f.offset) v ?_
      rw [List.getElem?_take_of_lt (by omega), List.getElem?_drop, show f.offset + (i - f.offset) = i by omega]
      exact hv
    · rename_i m e hu
      obtain ⟨xs, n, _, _, hl, hlen, hf⟩ := DataW.trod_array hu hx
      rw [Bool.and_eq_true, decide_eq_true_eq] at h
      obtain ⟨ha, hc⟩ := h
      refine ⟨hl, fun i v hv => ?_⟩
      have hi : i < P.cellsOf t := by rw [← hl]; exact (List.getElem?_eq_some_iff.1 hv).1
      have hpos : 0 < P.cellsOf e := by
        rcases Nat.eq_zero_or_pos (P.cellsOf e) with h0 | h0
        · rw [hc, h0] at hi; omega
        · exact h0
      have hj : i / P.cellsOf e < m := by rw [Nat.div_lt_iff_lt_mul hpos]; omega
      have hrec := hf (i / P.cellsOf e) hj
      rw [List.getElem?_eq_getElem (show i / P.cellsOf e < xs.length by omega)] at hrec
      refine (flat_cells k e _ n _ ha hrec).2 (i % P.cellsOf e) v ?_
      rw [List.getElem?_take_of_lt (Nat.mod_lt _ hpos), List.getElem?_drop, Nat.mul_comm, Nat.div_add_mod]
      exact hv
    · simp at h

theorem ints_of_cells : ∀ (cs : List Value), (∀ (i : Nat) (v : Value), cs[i]? = some v → ∃ n, v = .int .i64 n ∧ (Lit.int .i64 n).wf = true) → ∃ ns : List Int, cs = ns.map (.int .i64)
  | [], _ => ⟨[], rfl⟩
  | c :: cs, h => by
    obtain ⟨n, rfl, _⟩ := h 0 c rfl
    obtain ⟨ns, rfl⟩ := ints_of_cells cs (fun i v hv => h (i + 1) v (by simpa using hv))
    exact ⟨n :: ns, rfl⟩

/-- A struct or an array. -/
def isAgg (P : Program) (t : TypeId) : Bool := match P.underlying t with
  | some (.struct _) => true
  | some (.array _ _) => true
  | _ => false

/-- A value by its cells. -/
theorem open_flat {k : Nat} {t : TypeId} {v : Value} {d : DataW H} {ps : List MemPlace} {r : Reach} {b0 : Nat} (hk : flatI P k t = true)
    (hag : isAgg P t = true) (hv : Value.okWide P w r b0 t v) (h : DataW.Trod enc P w base spare held t v d ps) :
    ∃ ns : List Int, v = .agg (ns.map (.int .i64)).toArray ∧ ns.length = P.cellsOf t := by
  have : ∃ cs, v = .agg cs := by
    unfold Value.okWide at hv
    split at hv
    · obtain ⟨cs, rfl, _⟩ := hv; exact ⟨cs, rfl⟩
    · obtain ⟨cs, rfl, _⟩ := hv; exact ⟨cs, rfl⟩
    · rename_i h1 h2
      unfold isAgg at hag
      split at hag
      · rename_i hu; exact absurd hu (h1 _)
      · rename_i hu; exact absurd hu (h2 _ _)
      · simp at hag
  obtain ⟨cs, rfl⟩ := this
  obtain ⟨fuel, hf⟩ := h
  obtain ⟨hl, hc⟩ := flat_cells k t _ fuel _ hk hf
  obtain ⟨ns, hns⟩ := ints_of_cells _ hc
  have hcs : cs.toList = ns.map (.int .i64) := hns
  refine ⟨ns, by rw [← hcs], ?_⟩
  rw [← hl]
  show _ = cs.toList.length
  rw [hcs, List.length_map]

theorem choose_list {α : Type} {Q : Nat → α → Prop} : ∀ (n : Nat), (∀ i, i < n → ∃ a, Q i a) → ∃ l : List α, l.length = n ∧ ∀ i a, l[i]? = some a → Q i a
  | 0, _ => ⟨[], rfl, fun _ _ h => by simp at h⟩
  | n + 1, h => by
    obtain ⟨l, hl, hq⟩ := choose_list n (fun i hi => h i (by omega))
    obtain ⟨a, ha⟩ := h n (by omega)
    refine ⟨l ++ [a], by simp [hl], fun i b hb => ?_⟩
    by_cases hi : i < l.length
    · rw [List.getElem?_append_left hi] at hb; exact hq i b hb
    · rw [List.getElem?_append_right (by omega)] at hb
      have h0 : i - l.length = 0 := by
        have := (List.getElem?_eq_some_iff.1 hb).1
        simp at this; omega
      rw [h0] at hb
      simp at hb
      subst hb
      rw [show i = n by omega]
      exact ha

/-- A slice whose elements are such. -/
theorem open_flats {k c : Nat} {t e : TypeId} {cs : List Value} {fuel : Nat} {x : DataW H × List MemPlace} (ht : P.underlying t = some (.slice e)) (hk : flatI P k e = true) (hc : P.cellsOf e = c)
    (h : DataW.trod enc P w base spare held fuel t cs = some x) (hz : ∀ n ∈ x.1.weights P t, n ≤ reachBytes) :
    ∃ (a : Option Addr) (nss : List (List Int)) (cap : Nat), cs = [.slice a nss.length cap] ∧ nss.length * P.bytesOf e ≤ reachBytes ∧ (∀ ns ∈ nss, ns.length = c) ∧
      ∀ (i : Nat) (ns : List Int), nss[i]? = some ns → ∀ (j : Nat) (n : Int), ns[j]? = some n → ∃ b off, a = some ⟨b, off, none⟩ ∧ w.cell? ⟨b, off + (i * c + j), none⟩ = some (.int .i64 n) := by
  rcases DataW.trod_slice ht h with ⟨rfl, _⟩ | ⟨a, len, cap, elems, rest, n, _, rfl, rfl, hb, hl, hm, hlen, hel, _, _⟩
  · exact ⟨none, [], 0, rfl, by simp, by simp, by simp⟩
  · have each : ∀ i, i < len → ∃ ns : List Int, ns.length = c ∧ ∀ (j : Nat) (n : Int), ns[j]? = some n → w.cell? ((a.add (i * c)).add j) = some (.int .i64 n) := by
      intro i hi
      have hrec := hel i hi
      rw [List.getElem?_eq_getElem (show i < elems.length by omega), hc, Option.bind_eq_some_iff] at hrec
      obtain ⟨cs, hcs, hrec⟩ := hrec
      obtain ⟨_, hlc, hcell⟩ := World.cells?_some hcs
      obtain ⟨_, hin⟩ := flat_cells k e _ n _ hk hrec
      obtain ⟨ns, rfl⟩ := ints_of_cells _ hin
      refine ⟨ns, by simpa using hlc, fun j m hj => ?_⟩
      have hjl : j < ns.length := (List.getElem?_eq_some_iff.1 hj).1
      rw [hcell j (by simpa using (by simpa using hlc : ns.length = c) ▸ hjl), List.getElem?_map, hj]
      rfl
    obtain ⟨nss, hnl, hq⟩ := choose_list len each
    refine ⟨some a, nss, cap, by rw [hnl], ?_, fun ns hns => ?_, fun i ns hi j n hj => ?_⟩
    · have := hz ((elems.length + rest.length) * P.bytesOf e) (by simp [DataW.weights, ht])
      have h2 : nss.length * P.bytesOf e ≤ (elems.length + rest.length) * P.bytesOf e := Nat.mul_le_mul_right _ (by omega)
      omega
    · obtain ⟨i, hi⟩ := List.getElem?_of_mem hns
      exact (hq i ns hi).1
    · have hi0 : i < nss.length := (List.getElem?_eq_some_iff.1 hi).1
      have hj0 : j < ns.length := (List.getElem?_eq_some_iff.1 hj).1
      have hcp : 0 < c := by rw [← (hq i ns hi).1]; omega
      obtain ⟨h1, h2⟩ := hq 0 (nss[0]'(by omega)) (by simp)
      have h3 := h2 0 ((nss[0]'(by omega))[0]'(by omega)) (by simp)
      have hsp : a.spot = none := by
        have := World.cell?_spot h3
        simpa [Addr.add] using this
      obtain ⟨b, off, sp⟩ := a
      subst hsp
      refine ⟨b, off, rfl, ?_⟩
      rw [← (hq i ns hi).2 j n hj]
      congr 1
      rw [add_plain, add_plain, Nat.add_assoc]
end

/-- A law's end: nothing old has turned: the arguments read as they did. -/
theorem trodAll_below {H : Type} {enc : TypeId × Value → H} {W W' : World} (hb : Below W.heap.size W W') : ∀ {ts : List TypeId} {vs : List Value} {ds : List (DataW H)} {ps : List MemPlace},
    (∀ t ∈ ts, Try.prog.readableRec t = true ∧ t < Try.prog.types.size) → DataW.TrodAll enc Try.prog W 0 (fun _ => true) true ts vs ds ps → (∀ x ∈ ps, x.block < W.heap.size) →
    DataW.TrodAll enc Try.prog W' 0 (fun b => decide (b < W.heap.size)) true ts vs ds ps
  | [], [], [], _, _, h, _ => h
  | t :: ts, v :: vs, d :: ds, _, ht, ⟨p, p', h1, h2, rfl⟩, hl => by
    have h0 := ht t (by simp)
    exact ⟨p, p', Below.trod Try.laidOut h0.1 h0.2 h1 hb (fun x hx => hl x (by simp [hx])),
      trodAll_below hb (fun t h => ht t (by simp [h])) h2 (fun x hx => hl x (by simp [hx])), rfl⟩
  | [], [], _ :: _, _, _, h, _ => by simp [DataW.TrodAll] at h
  | [], _ :: _, _, _, _, h, _ => by simp [DataW.TrodAll] at h
  | _ :: _, [], _, _, _, h, _ => by simp [DataW.TrodAll] at h
  | _ :: _, _ :: _, [], _, _, h, _ => by simp [DataW.TrodAll] at h

theorem law_shut {H : Type} {enc : TypeId × Value → H} {f : Func} {s : ChangeSpec} {W W' : World} {args : Array Value} {ds gs : List (DataW H)} {ps : List MemPlace}
    (hr : f.resultTypes = #[4]) (hp : ∀ t ∈ f.params.toList, Try.prog.readableRec t = true ∧ t < Try.prog.types.size) (hvs : s.vars = []) (hs : s.fn H ds = { results := [.lit (.bool true)], args := ds })
    (hW : DataW.Whole enc Try.prog f.params.toList s.vars false W args.toList ds gs ps) (hb : Below W.heap.size W W') :
    s.post enc Try.prog f false true false false W args (.bool true) W' := by
  have hW' := hW
  obtain ⟨p, q, hA, hV, rfl, _, _⟩ := hW
  rw [hvs] at hV
  obtain ⟨rfl, rfl⟩ := trodVars_none hV
  have hlt : ∀ x ∈ p, x.block < W.heap.size := fun x hx => hW'.lt x (by simp [hx])
  refine ⟨ds, [], _, [], p, [], hW', ?_, ?_, ?_, hb.frame _, fun h => by cases h⟩
  · rw [hr, List.append_nil, hs]; exact trodAll_mk1 (shut_bool Try.underlying4 true)
  · rw [List.append_nil, hs]; exact trodAll_below hb hp hA hlt
  · rw [hvs, List.append_nil, hs]; rfl

end Go.Proofs.Ythpllmefbhjmmaa
