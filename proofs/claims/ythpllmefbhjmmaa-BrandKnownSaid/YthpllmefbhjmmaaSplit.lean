/-
  A region that draws its order, parted: what comes first in whatever order, and behind all that a tail.
-/
import Derived.StillTail
import Derived.Deep.RegionHeld3
namespace Go.Proofs.Ythpllmefbhjmmaa
open Go

section
variable {P : Program} {Q : Exit → Act → World → Prop}

theorem wpAny_more {ops : Array Oper} {md : Region.Mode} : ∀ (f : Nat) (listed : Array Bool) (a : Act) (w : World), wpAny P md ops Q f listed a w → wpAny P md ops Q (f + 1) listed a w
  | 0, _, _, _, h => ⟨fun _ => h.2, fun i hi => by rw [h.1] at hi; cases hi⟩
  | f + 1, _, _, _, h => ⟨h.1, fun i hi => wpOp_mono (fun a' w' h' => wpAny_more f _ a' w' h') (h.2 i hi)⟩
theorem wpAny_add {ops : Array Oper} {md : Region.Mode} {f : Nat} {listed : Array Bool} {a : Act} {w : World} (k : Nat) (h : wpAny P md ops Q f listed a w) : wpAny P md ops Q (k + f) listed a w := by
  induction k with
  | zero => rw [Nat.zero_add]; exact h
  | succ k ih => rw [Nat.add_right_comm]; exact wpAny_more _ _ _ _ ih

/-- All of the head have come up, none of the tail. -/
def fullL (n t : Nat) : Array Bool := (List.replicate n true ++ List.replicate t false).toArray
/-- What the head is to reach: the tail's run. -/
def headQ (P : Program) (l : List Oper) (n : Nat) (Q : Exit → Act → World → Prop) : Exit → Act → World → Prop
  | .normal, a, w => wpList P l.toArray Q (l.drop n) a w
  | e, a, w => Q e a w

theorem upon_headQ {l : List Oper} {n : Nat} {o : Oper} {a : Act} {next : Act → World → Prop} {r : Result Next} (h : o.upon P a next (headQ P l n Q) r) : o.upon P a next Q r := by
  cases r with
  | ok x w' =>
    cases x <;> simp only [Oper.upon] at h ⊢
    case value => exact h
    case skip => exact h
    case defer => exact h
    case enter f args => exact Calls.mono h fun e w'' he => by cases e <;> exact he
    case row => exact h
  | halt x w' =>
    cases x <;> simp only [Oper.upon] at h ⊢
    case panic => exact h

/-- The head's marks. -/
def headL (n : Nat) (listed : Array Bool) : Array Bool := (listed.toList.take n).toArray
theorem headL_getD {n i : Nat} {listed : Array Bool} (hi : i < n) (d : Bool) : (headL n listed).getD i d = listed.getD i d := by
  simp [headL, Array.getD_eq_getD_getElem?, hi]
theorem headL_set {n i : Nat} {listed : Array Bool} : headL n (listed.setIfInBounds i true) = (headL n listed).setIfInBounds i true := by
  simp [headL, List.take_set]

/-- The head's operations wait for earlier ones alone, and none is guarded. -/
def backB (l : List Oper) (n : Nat) : Bool := (List.range n).all fun i => match l[i]? with
  | some o => o.after.toList.all (fun e => decide (e.on < i)) && o.guard.isNone
  | none => true
theorem backB_spec {l : List Oper} {n i : Nat} {o : Oper} (h : backB l n = true) (hi : i < n) (ho : l[i]? = some o) : (∀ e ∈ o.after, e.on < i) ∧ o.guard = none := by
  have := List.all_eq_true.1 h i (List.mem_range.2 hi)
  simp only [ho, Bool.and_eq_true, List.all_eq_true, decide_eq_true_eq, Option.isNone_iff_eq_none] at this
  exact ⟨fun e he => this.1 e (by simpa using he), this.2⟩

theorem head_get {l : List Oper} {n i : Nat} (hi : i < n) : (l.take n).toArray[i]? = l.toArray[i]? := by
  simp [hi]

theorem ready_head {l : List Oper} {n i : Nat} {listed : Array Bool} (hb : backB l n = true) (hi : i < n) : i ∈ Region.ready .any (l.take n).toArray (headL n listed) ↔ i ∈ Region.ready .any l.toArray listed := by
  rw [mem_ready, mem_ready, headL_getD hi, head_get hi]
  constructor
  · rintro ⟨h0, o, ho, h⟩
    have hs := backB_spec hb hi (by simpa using ho)
    exact ⟨h0, o, ho, fun e he hbi => by have := h e he hbi; rwa [headL_getD (by have := hs.1 e he; omega)] at this⟩
  · rintro ⟨h0, o, ho, h⟩
    have hs := backB_spec hb hi (by simpa using ho)
    exact ⟨h0, o, ho, fun e he hbi => by rw [headL_getD (by have := hs.1 e he; omega)]; exact h e he hbi⟩

theorem ready_lt {ops : Array Oper} {md : Region.Mode} {listed : Array Bool} {i : Nat} (h : i ∈ Region.ready md ops listed) : i < ops.size := by
  obtain ⟨_, o, ho, _⟩ := mem_ready.1 h
  exact (Array.getElem?_eq_some_iff.1 ho).1

theorem getD_true_false {listed : Array Bool} {i : Nat} (hi : i < listed.size) (h : listed.getD i true = true) : listed.getD i false = true := by
  simp [hi] at h ⊢; exact h

theorem all_listed {l : List Oper} {n : Nat} {listed : Array Bool} (hb : backB l n = true) (hn : n ≤ l.length) (hsz : listed.size = l.length) (hr : Region.ready .any (l.take n).toArray (headL n listed) = []) :
    ∀ i, i < n → listed.getD i true = true := by
  intro i
  induction i using Nat.strongRecOn with
  | _ i ih =>
    intro hi
    cases h : listed.getD i true with
    | true => rfl
    | false =>
      exfalso
      obtain ⟨o, ho⟩ : ∃ o, l[i]? = some o := ⟨_, List.getElem?_eq_getElem (by omega)⟩
      have hs := backB_spec hb hi ho
      have : i ∈ Region.ready .any (l.take n).toArray (headL n listed) := by
        rw [ready_head hb hi, mem_ready]
        exact ⟨h, o, by simpa using ho, fun e he _ => getD_true_false (by have := hs.1 e he; omega) (ih e.on (hs.1 e he) (by have := hs.1 e he; omega))⟩
      rw [hr] at this
      cases this

theorem full_of {l : List Oper} {n : Nat} {listed : Array Bool} (hn : n ≤ l.length) (inv : HeadInv .any l.toArray n listed) (h : ∀ i, i < n → listed.getD i true = true) : listed = fullL n (l.length - n) := by
  have hsz : listed.size = l.length := by simpa using inv.size
  refine Array.ext (by simp [fullL, hsz]; omega) fun i h1 h2 => ?_
  by_cases hi : i < n
  · have := h i hi
    simp [h1] at this
    rw [this]
    simp [fullL, hi]
  · have := inv.tail i (by omega) (by simp; omega)
    simp [h1] at this
    rw [this]
    simp [fullL, List.getElem_append, hi]

theorem tail_of {l : List Oper} {n : Nat} (hq : Region.seqB .any l.toArray (l.length - n) n (fullL n (l.length - n)) = true) {a : Act} {w : World} (h : wpList P l.toArray Q (l.drop n) a w) :
    wpAny P .any l.toArray Q (l.length - n) (fullL n (l.length - n)) a w := by
  have e : (l.drop n).length = l.length - n := by simp
  have := wpAny_of_seq (md := .any) (Q' := Q) (l.drop n) n (fullL n (l.length - n)) a w (fun j => by simp [List.getElem?_drop]) (by rw [e]; exact hq) h
  rwa [e] at this

theorem wpAny_split {l : List Oper} {n : Nat} (hs : Region.sinkB .any l.toArray n = true) (hc : Region.chainB .any l.toArray n = true) (hn : n < l.length) (hb : backB l n = true)
    (hq : Region.seqB .any l.toArray (l.length - n) n (fullL n (l.length - n)) = true) :
    ∀ (f : Nat) (listed : Array Bool) (a : Act) (w : World), HeadInv .any l.toArray n listed → wpAny P .any (l.take n).toArray (headQ P l n Q) f (headL n listed) a w →
      wpAny P .any l.toArray Q (f + (l.length - n)) listed a w
  | 0, listed, a, w, inv, H => by
    have hfull := full_of (by omega) inv (all_listed hb (by omega) (by simpa using inv.size) H.1)
    rw [hfull, Nat.zero_add]
    exact tail_of hq H.2
  | f + 1, listed, a, w, inv, H => by
    by_cases hall : ∀ i, i < n → listed.getD i true = true
    · have hfull := full_of (by omega) inv hall
      have hr : Region.ready .any (l.take n).toArray (headL n listed) = [] := by
        rw [List.eq_nil_iff_forall_not_mem]
        intro i hi
        have hlt : i < n := by have := ready_lt hi; simp at this; omega
        have := (mem_ready.1 hi).1
        rw [headL_getD hlt, hall i hlt] at this
        cases this
      have := H.1 hr
      rw [hfull]
      exact wpAny_add _ (tail_of hq this)
    · obtain ⟨i0, h0⟩ := Classical.not_forall.1 hall
      obtain ⟨hi0, h0⟩ := Classical.not_imp.1 h0
      have h0' : listed.getD i0 true = false := by cases e : listed.getD i0 true <;> simp_all
      have htail := tail_waits hs hc (by simpa using hn) inv (n - i0) i0 rfl hi0 h0'
      rw [Nat.add_right_comm]
      refine ⟨fun hr => ?_, fun i hi => ?_⟩
      · exfalso
        apply hall
        refine all_listed hb (by omega) (by simpa using inv.size) ?_
        rw [List.eq_nil_iff_forall_not_mem]
        intro i hi
        have hlt : i < n := by have := ready_lt hi; simp at this; omega
        rw [ready_head hb hlt, hr] at hi
        cases hi
      · have hlt : i < n := by
          rcases Nat.lt_or_ge i n with h | h
          · exact h
          · exact absurd hi (htail i h)
        have hstep := H.2 i ((ready_head hb hlt).2 hi)
        obtain ⟨o, ho⟩ : ∃ o, l[i]? = some o := ⟨_, List.getElem?_eq_getElem (by omega)⟩
        have hg := (backB_spec hb hlt ho).2
        have e1 : (l.take n).toArray[i]? = some o := by rw [head_get hlt]; simpa using ho
        have e2 : l.toArray[i]? = some o := by simpa using ho
        have hconv : wpOp P l.toArray Q i (wpAny P .any (l.take n).toArray (headQ P l n Q) f ((headL n listed).setIfInBounds i true)) a w := by
          unfold wpOp at hstep ⊢
          rw [e1] at hstep
          rw [e2]
          simp only [Region.wanted, hg, if_true] at hstep ⊢
          exact hstep.imp upon_headQ id
        refine wpOp_mono (fun a' w' h' => ?_) hconv
        rw [← headL_set] at h'
        exact wpAny_split hs hc hn hb hq f _ a' w' (inv.set hi hlt) h'

/-- THE REGION: its head in whatever order, S holding throughout; then its tail. -/
theorem wp_region_split {S : World → Prop} {id : Nat} {a : Act} {w : World} {l : List Oper} (n : Nat) (hm : P.follows .mixedOrders = true)
    (hB : (Region.sinkB .any l.toArray n && Region.chainB .any l.toArray n && decide (n < l.length) && backB l n && Region.seqB .any l.toArray (l.length - n) n (fullL n (l.length - n))) = true) (hS : S w.drew)
    (h : S w.drew → wpAnyH P .any (l.take n).toArray (headQ P l n Q) S n (Array.replicate n false) a w.drew) : (Code.region id l.toArray true).wp P Q a w := by
  simp only [Bool.and_eq_true, decide_eq_true_eq] at hB
  obtain ⟨⟨⟨⟨hs, hc⟩, hn⟩, hb⟩, hq⟩ := hB
  refine wp_region_any hm ?_
  have inv0 : HeadInv .any l.toArray n (Array.replicate l.toArray.size false) :=
    ⟨by simp, fun j oj _ hl => (by rw [getD_replicate_false] at hl; cases hl), fun t _ ht => getD_in (by simpa using ht) (getD_replicate_false _ _)⟩
  have H := wpAny_split (P := P) (Q := Q) hs hc hn hb hq n (Array.replicate l.toArray.size false) a w.drew inv0 ?_
  · have e : n + (l.length - n) = l.toArray.size := by simp; omega
    rw [e] at H
    exact H
  · have e : headL n (Array.replicate l.toArray.size false) = Array.replicate n false := by
      simp [headL, Nat.min_eq_left (Nat.le_of_lt hn)]
    rw [e]
    exact wpAny_of_held _ _ _ _ (h hS)
end

end Go.Proofs.Ythpllmefbhjmmaa
