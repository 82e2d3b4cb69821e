/-
  A region that draws its order, by an invariant: whatever has come up already, each operation that may come up next keeps it.
-/
import Derived.Test.YthpllmefbhjmmaaSplit
namespace Go.Proofs.Ythpllmefbhjmmaa
open Go

section
variable {P : Program} {Q : Exit → Act → World → Prop}

theorem all_up {l : List Oper} {listed : Array Bool} (hb : backB l l.length = true) (hsz : listed.size = l.length) (hr : Region.ready .any l.toArray listed = []) : ∀ i, i < l.length → listed.getD i true = true := by
  intro i
  induction i using Nat.strongRecOn with
  | _ i ih =>
    intro hi
    cases h : listed.getD i true with
    | true => rfl
    | false =>
      exfalso
      obtain ⟨o, ho⟩ : ∃ o, l[i]? = some o := ⟨_, List.getElem?_eq_getElem hi⟩
      have hs := backB_spec hb hi ho
      have : i ∈ Region.ready .any l.toArray listed := by
        rw [mem_ready]
        exact ⟨h, o, by simpa using ho, fun e he _ => getD_true_false (by have := hs.1 e he; omega) (ih e.on (hs.1 e he) (by have := hs.1 e he; omega))⟩
      rw [hr] at this
      cases this

theorem wpAny_free {l : List Oper} {Inv : Array Bool → Act → World → Prop} (hb : backB l l.length = true)
    (hstep : ∀ (i : Nat) (listed : Array Bool) (a : Act) (w : World), i < l.length → listed.size = l.length → (∀ o, l[i]? = some o → ∀ e ∈ o.after, Region.binds .any e = true → listed.getD e.on false = true) → Inv listed a w →
      wpOp P l.toArray Q i (fun a' w' => Inv (listed.setIfInBounds i true) a' w') a w)
    (hfin : ∀ (listed : Array Bool) (a : Act) (w : World), (∀ i, i < l.length → listed.getD i true = true) → Inv listed a w → Q .normal a w) :
    ∀ (f : Nat) (listed : Array Bool) (a : Act) (w : World), listed.size = l.length → listed.toList.count false ≤ f → Inv listed a w → wpAny P .any l.toArray Q f listed a w
  | 0, listed, a, w, _, hc, hI => by
    have hall : ∀ i, listed.getD i true = true := fun i => by
      cases h : listed.getD i true with
      | true => rfl
      | false =>
        exfalso
        have hi : i < listed.size := by
          rcases Nat.lt_or_ge i listed.size with h' | h'
          · exact h'
          · simp [Nat.not_lt.2 h'] at h
        have h2 : listed[i] = false := by simpa [hi] using h
        have hm : false ∈ listed.toList := by rw [← h2]; exact Array.getElem_mem_toList _
        have := List.count_pos_iff.2 hm
        omega
    refine ⟨?_, hfin listed a w (fun i _ => hall i) hI⟩
    rw [List.eq_nil_iff_forall_not_mem]
    intro i hi
    have := (mem_ready.1 hi).1
    rw [hall i] at this
    cases this
  | f + 1, listed, a, w, hsz, hc, hI => by
    refine ⟨fun hr => hfin listed a w (all_up hb hsz hr) hI, fun i hi => ?_⟩
    obtain ⟨hun, o, ho, hdeps⟩ := mem_ready.1 hi
    have hil : i < l.length := by
      have := (Array.getElem?_eq_some_iff.1 ho).1
      simpa using this
    have hlo : l[i]? = some o := by simpa using ho
    refine wpOp_mono (fun a' w' h' => ?_) (hstep i listed a w hil hsz (fun o' ho' => by rw [hlo] at ho'; injection ho' with ho'; subst ho'; exact hdeps) hI)
    refine wpAny_free hb hstep hfin f _ a' w' (by simpa using hsz) ?_ h'
    have hi2 : i < listed.size := by omega
    have hli : listed[i] = false := by simpa [hi2] using hun
    rw [Array.toList_setIfInBounds, List.count_set (by simpa using hi2)]
    have hl3 : (listed.toList[i]'(by simpa using hi2)) = false := by simpa using hli
    have hm : false ∈ listed.toList := by rw [← hl3]; exact List.getElem_mem _
    have := List.count_pos_iff.2 hm
    rw [if_pos (by rw [hl3]; rfl), if_neg (by decide)]
    omega

/-- THE REGION, by an invariant. -/
theorem wp_region_free {l : List Oper} {Inv : Array Bool → Act → World → Prop} {id : Nat} {a : Act} {w : World} (hm : P.follows .mixedOrders = true) (hb : backB l l.length = true)
    (hstart : Inv (Array.replicate l.length false) a w.drew)
    (hstep : ∀ (i : Nat) (listed : Array Bool) (a : Act) (w : World), i < l.length → listed.size = l.length → (∀ o, l[i]? = some o → ∀ e ∈ o.after, Region.binds .any e = true → listed.getD e.on false = true) → Inv listed a w →
      wpOp P l.toArray Q i (fun a' w' => Inv (listed.setIfInBounds i true) a' w') a w)
    (hfin : ∀ (listed : Array Bool) (a : Act) (w : World), (∀ i, i < l.length → listed.getD i true = true) → Inv listed a w → Q .normal a w) : (Code.region id l.toArray true).wp P Q a w := by
  refine wp_region_any hm ?_
  have e : l.toArray.size = l.length := by simp
  rw [e]
  exact wpAny_free hb hstep hfin l.length _ a w.drew (by simp) (by simp) hstart
end

end Go.Proofs.Ythpllmefbhjmmaa
