/-
  Plain laws on baskets of one lot: the grade that all can be of; the brand that asks for just that length is reached and promised.
-/
import Derived.Test.YthpllmefbhjmmaaLotsLaw
import Derived.Test.YthpllmefbhjmmaaPromisedLaw
namespace Go.Proofs.Ythpllmefbhjmmaa
open Go.RowKit Go.Maps Plain

theorem mxL_ge (l : List Sp) : ∀ x, x ≤ mxL l x ∧ ∀ s ∈ l, s.lo ≤ mxL l x := by
  induction l with
  | nil => intro x; exact ⟨Int.le_refl _, by simp⟩
  | cons s l ih =>
    intro x
    obtain ⟨h1, h2⟩ := ih (max x s.lo)
    show x ≤ mxL l (max x s.lo) ∧ _
    refine ⟨by omega, fun t ht => ?_⟩
    show t.lo ≤ mxL l (max x s.lo)
    rcases List.mem_cons.1 ht with rfl | ht
    · omega
    · exact h2 t ht
theorem mxL_le (l : List Sp) : ∀ (x b : Int), x ≤ b → (∀ s ∈ l, s.lo ≤ b) → mxL l x ≤ b := by
  induction l with
  | nil => intro x b h _; exact h
  | cons s l ih =>
    intro x b h h2
    show mxL l (max x s.lo) ≤ b
    exact ih _ _ (by have := h2 s (by simp); omega) (fun t ht => h2 t (by simp [ht]))
theorem mnH_le (l : List Sp) : ∀ x, mnH l x ≤ x ∧ ∀ s ∈ l, mnH l x ≤ s.hi := by
  induction l with
  | nil => intro x; exact ⟨Int.le_refl _, by simp⟩
  | cons s l ih =>
    intro x
    obtain ⟨h1, h2⟩ := ih (min x s.hi)
    show mnH l (min x s.hi) ≤ x ∧ _
    refine ⟨by omega, fun t ht => ?_⟩
    show mnH l (min x s.hi) ≤ t.hi
    rcases List.mem_cons.1 ht with rfl | ht
    · omega
    · exact h2 t ht

/-- The grade of a lot: the greatest Low. -/
theorem grade_holds {L : List Sp} (ha : alikeB L = true) (hs : ∀ s ∈ L, spanB s = true) : 0 ≤ mxL L 0 ∧ mxL L 0 ≤ 1000 ∧ ∀ s ∈ L, s.lo ≤ mxL L 0 ∧ mxL L 0 ≤ s.hi := by
  have hb : ∀ s ∈ L, 0 ≤ s.lo ∧ s.lo ≤ s.hi ∧ s.hi ≤ 1000 := fun s h => by
    have := hs s h
    simp only [spanB, Bool.and_eq_true, decide_eq_true_eq] at this
    omega
  obtain ⟨h0, h1⟩ := mxL_ge L 0
  refine ⟨h0, mxL_le L 0 1000 (by omega) (fun s h => by have := hb s h; omega), fun s hm => ⟨h1 s hm, ?_⟩⟩
  cases L with
  | nil => simp at hm
  | cons t r =>
    have ha' : mxL (t :: r) t.lo ≤ mnH (t :: r) t.hi := of_decide_eq_true ha
    have h2 := (mnH_le (t :: r) t.hi).2 s hm
    obtain ⟨h3, h4⟩ := mxL_ge (t :: r) t.lo
    refine mxL_le (t :: r) 0 s.hi ?_ (fun u hu => ?_)
    · have := hb s hm; omega
    · have := h4 u hu; omega
theorem part_mem {l : List Sp} {a e : Nat} {s : Sp} (h : s ∈ part l a e) : s ∈ l := by
  unfold part at h
  exact List.mem_of_mem_drop (List.mem_of_mem_take h)

/-- The brand that asks for just a length, and the barrel of that length. -/
abbrev gMark (g : Int) : Mk := ⟨⟨g, g⟩, ⟨0, 0⟩, ⟨0, 0⟩, ⟨0, 0⟩⟩
abbrev gBar (g : Int) : Br := ⟨g, 0, 0, 0⟩
theorem gMark_ok {g : Int} (h0 : 0 ≤ g) (h1 : g ≤ 1000) : markB (gMark g) = true ∧ marksB [gMark g] = true := by
  have h : markB (gMark g) = true := by
    have e : spanB ⟨g, g⟩ = true := by unfold spanB; simp; omega
    show (spanB ⟨g, g⟩ && spanB ⟨0, 0⟩ && spanB ⟨0, 0⟩ && spanB ⟨0, 0⟩) = true
    rw [e]; decide
  refine ⟨h, ?_⟩
  unfold marksB
  rw [List.all_cons, h]; rfl
theorem gBar_ok {g : Int} (h0 : 0 ≤ g) (h1 : g ≤ 1000) : barB (gBar g) = true ∧ belowB (gMark g) (gBar g) = false := by
  have h := lows_reach (gMark_ok h0 h1).1
  have h2 := lows_bar (gMark_ok h0 h1).1
  exact ⟨h2, h⟩
theorem grade_one' {m : Mk} {y : Br} (hm : markB m = true) (hy : barB y = true) (hb : belowB m y = false) : gradeR [m] y = (0, 0) := by
  have h1 : marksB [m] = true := by unfold marksB; rw [List.all_cons, hm]; rfl
  unfold gradeR
  rw [h1, hy, if_pos rfl, if_pos rfl]
  unfold firstOf
  rw [List.findIdx?_cons, hb]
  rfl
theorem below_none {m : Mk} : ∀ {xs : List Br}, (∀ x ∈ xs, belowB m x = false) → belowOf m xs = 0
  | [], _ => rfl
  | x :: xs, h => by
    unfold belowOf
    rw [List.filter_cons, h x (by simp), if_neg (by simp)]
    exact below_none (fun y hy => h y (by simp [hy]))

/-- What 'Keeps' answers at a lot of which all barrels are opened. -/
theorem keepsR_all {n : Nat} {r : Rl} (hn : 1 ≤ n) (hn2 : n ≤ 40) {a : Nat} (ha : a ≤ n) : keepsR n r n a = if ruleB n r = true then (keepsB n r n a, 0) else (false, 71) := by
  unfold keepsR
  rw [inB_mk ⟨by omega, by omega⟩, if_pos rfl]
  cases ruleB n r with
  | false => rfl
  | true => rw [if_pos rfl, if_pos rfl, inB_mk ⟨by omega, by omega⟩, inB_mk ⟨by omega, by omega⟩]; rfl
/-- Some Allow keeps a rule. -/
theorem some_keeps {n : Nat} {r : Rl} (h : ruleB n r = true) : ∃ a : Nat, a ≤ n ∧ keepsB n r n a = true := by
  have h' := ruleB_true h
  refine ⟨r.g.toNat, by omega, ?_⟩
  have := keeps_full (N := n) (r := r) (by omega) h
  rwa [← Int.toNat_of_nonneg h'.1] at this
/-- A lot none of whose barrels is below the first brand is promised it, if some Allow keeps the rule. -/
theorem promise_first {m : Mk} {ms : List Mk} {n : Nat} {r : Rl} {xs : List Br} (hm : marksB (m :: ms) = true) (hn : 1 ≤ n) (hn2 : n ≤ 40) (hr : ruleB n r = true) (hl : xs.length ≤ n) (hb : ∀ x ∈ xs, barB x = true) (hbel : ∀ x ∈ xs, belowB m x = false)
    (hk : ∃ a : Nat, a ≤ xs.length ∧ keepsB n r xs.length a = true) : ∃ al : Nat, al ≤ xs.length ∧ keepsB n r xs.length al = true ∧ (∀ c : Nat, al < c → c ≤ xs.length → keepsB n r xs.length c = false) ∧ promiseR (m :: ms) n r xs = (0, (al : Int), 0) := by
  have hok : okOpened n xs = true := by
    unfold okOpened
    rw [Bool.and_eq_true, decide_eq_true_iff]
    exact ⟨by omega, List.all_eq_true.2 hb⟩
  have hal : allowFold n r xs.length (rows ((n : Int).toNat + 1)) = allowFold n r xs.length (rowTo xs.length (xs.length + 1)) := by rw [allow_row (by omega), row_is]
  rcases allow_to (N := n) (r := r) (n := xs.length) (xs.length + 1) with ⟨_, e2⟩ | ⟨al, a1, a2, a3, a4⟩
  · obtain ⟨a, ha, hka⟩ := hk
    rw [e2 a (by omega)] at hka; cases hka
  · refine ⟨al, by omega, a3, fun c h1 h2 => a4 c h1 (by omega), ?_⟩
    unfold promiseR
    rw [hm, if_pos rfl, inB_mk ⟨by omega, by omega⟩, if_pos rfl, hr, if_pos rfl, hok, if_pos rfl, hal, a2]
    unfold promised
    rw [List.findIdx?_cons, below_none hbel]
    have : decide (((0 : Nat) : Int) ≤ (al : Int)) = true := by rw [decide_eq_true_iff]; omega
    rw [this]
    rfl
/-- All Allows up to k: does one keep the rule? -/
def keptTo (n : Nat) (r : Rl) (k : Nat) : Bool := (List.range k).any fun a => keepsB n r n a
theorem keptTo_succ (n : Nat) (r : Rl) (k : Nat) : keptTo n r (k + 1) = (keptTo n r k || keepsB n r n k) := by
  unfold keptTo; rw [List.range_succ, List.any_append]; simp
theorem keptTo_all {n : Nat} {r : Rl} (h : ruleB n r = true) : keptTo n r (n + 1) = true := by
  obtain ⟨a, ha, hk⟩ := some_keeps h
  unfold keptTo
  rw [List.any_eq_true]
  exact ⟨a, List.mem_range.2 (by omega), hk⟩

end Go.Proofs.Ythpllmefbhjmmaa
