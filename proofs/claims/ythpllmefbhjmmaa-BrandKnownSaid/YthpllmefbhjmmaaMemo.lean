/-
  The map of choices: how its keys read, and what it means that all its entries are right.
-/
import Derived.Test.YthpllmefbhjmmaaChecked
import Derived.Test.YthpllmefbhjmmaaMath
import Derived.DeepKeys4
import Derived.Maps.OwnSet
import Derived.KernelRfl
namespace Go.Proofs.Ythpllmefbhjmmaa
open Go.Maps Plain

theorem Try.laidOut : laidOutB Try.prog = true := by kernel_rfl
theorem Try.row153 : (153 : TypeId) < Try.prog.types.size := of_decide_eq_true (by kernel_rfl)
theorem law153 : Keyed Try.prog 153 := Keyed.of_law (deep_law_laid Try.laidOut (m := 2) (by omega) Try.row153 (by kernel_rfl) (by rw [Try.underlying153]))
theorem cells153 : Try.prog.cellsOf 153 = 2 := by kernel_rfl
theorem cells3 : Try.prog.cellsOf 3 = 1 := by kernel_rfl
theorem keyType153 : Try.prog.keyType 153 = true := by kernel_rfl
theorem zero3 (w : World) : (zeroValue 3).run Try.prog w = .ok (.int .i64 0) w := by kernel_rfl

/-- What the key (a, b) reads as. -/
def klit (a b : Int) : Lit := .string (keyBytes [.int .i64 a, .int .i64 b])

theorem typesSize : ∃ m, Try.prog.types.size = m + 2 := ⟨Try.prog.types.size - 2, by have h : 153 < Try.prog.types.size := Try.row153; omega⟩

theorem key153 (a b : Int) (wa : (Lit.int .i64 a).wf = true) (wb : (Lit.int .i64 b).wf = true) : keyOf Try.prog 153 (.agg #[.int .i64 a, .int .i64 b]) = some (klit a b) := by
  obtain ⟨m, hm⟩ := typesSize
  unfold keyOf
  rw [Try.underlying153]
  simp only [keyType153, Value.formed, Try.underlying153, cells153, Value.cells, hm]
  simp [Program.keyLits, Try.underlying153, Try.underlying3, cells153, cells3, wa, wb, klit]

theorem wf_nat (a : Nat) (h : a ≤ 40) : (Lit.int .i64 (a : Int)).wf = true := by
  have h1 : IntKind.i64.min = -9223372036854775808 := rfl
  have h2 : IntKind.i64.max = 9223372036854775807 := rfl
  simp only [Lit.wf, Bool.and_eq_true, decide_eq_true_eq]; omega

theorem key_nat (a b : Nat) (ha : a ≤ 40) (hb : b ≤ 40) : keyOf Try.prog 153 (.agg #[.int .i64 (a : Int), .int .i64 (b : Int)]) = some (klit a b) :=
  key153 a b (wf_nat a ha) (wf_nat b hb)

theorem klit_inj {a b c d : Nat} (ha : a ≤ 40) (hb : b ≤ 40) (hc : c ≤ 40) (hd : d ≤ 40) (h : klit a b = klit c d) : a = c ∧ b = d := by
  have h1 := key_nat a b ha hb
  have h2 := key_nat c d hc hd
  rw [h] at h1
  have h3 := law153.inj h1 h2
  simp only [Value.agg.injEq, Array.mk.injEq, List.cons.injEq, Value.int.injEq, true_and, and_true] at h3
  omega

/-- An entry that is right. -/
def Right (p : Lit × DataW Unit) : Prop := ∃ a b : Nat, a ≤ 40 ∧ b ≤ 40 ∧ p = (klit a b, .lit (.int .i64 (ch a b : Nat)))

/-- All entries are right. -/
def Good (D : DataW Unit) : Prop := ∃ es, D = .map es ∧ ∀ p ∈ es, Right p

theorem good_empty : Good (.map []) := ⟨[], rfl, fun _ h => by cases h⟩

theorem good_put {D : DataW Unit} (h : Good D) (a b : Nat) (ha : a ≤ 40) (hb : b ≤ 40) : Good (D.put (klit a b) (.lit (.int .i64 (ch a b : Nat)))) := by
  obtain ⟨es, rfl, he⟩ := h
  refine ⟨_, rfl, fun p hp => ?_⟩
  rcases ChangeMaps.mem_insert_iff.1 hp with rfl | hp
  · exact ⟨a, b, ha, hb, rfl⟩
  · exact he p (List.mem_filter.1 hp).1

theorem good_at {D : DataW Unit} (h : Good D) (a b : Nat) (ha : a ≤ 40) (hb : b ≤ 40) (hh : has D (klit a b) = true) (z : DataW Unit) : D.atKey (klit a b) z = .lit (.int .i64 (ch a b : Nat)) := by
  obtain ⟨es, rfl, he⟩ := h
  have hs : (es.find? (fun p => p.1.sameKey (klit a b))).isSome = true := by
    rw [has_eq, List.any_eq_true] at hh
    exact List.find?_isSome.2 hh
  obtain ⟨x, hx⟩ := Option.isSome_iff_exists.1 hs
  have hm := List.mem_of_find?_eq_some hx
  have hk : x.1.sameKey (klit a b) = true := by simpa using List.find?_some hx
  obtain ⟨c, d, hc, hd, rfl⟩ := he x hm
  have e := WideAt.sameKey_eq hk
  obtain ⟨rfl, rfl⟩ := klit_inj hc hd ha hb e
  simp [DataW.atKey, hx]

theorem pigeon : ∀ (n : Nat) (l : List Nat), l.Nodup → (∀ x ∈ l, x < n) → l.length ≤ n
  | 0, l, _, h => by
    cases l with
    | nil => simp
    | cons x r => exact absurd (h x (by simp)) (by omega)
  | n + 1, l, hn, h => by
    have h1 := pigeon n (l.erase n) (hn.erase n) (fun x hx => by
      have := (List.Nodup.mem_erase_iff hn).1 hx
      have := h x this.2
      omega)
    have h2 := List.length_erase (a := n) (l := l)
    split at h2 <;> omega

theorem good_size {D : DataW Unit} (h : Good D) (ht : Tidy D) : size D ≤ 1681 := by
  obtain ⟨es, rfl, he⟩ := h
  obtain ⟨es', e', hp⟩ := ht
  cases e'
  show es.length ≤ 1681
  have key : ∀ es : List (Lit × DataW Unit), (∀ p ∈ es, Right p) → es.Pairwise (fun p q => p.1 ≠ q.1) → ∃ l : List Nat, l.length = es.length ∧ l.Nodup ∧ (∀ x ∈ l, x < 1681) ∧ ∀ x ∈ l, ∃ a b : Nat, a ≤ 40 ∧ b ≤ 40 ∧ x = 41 * a + b ∧ ∃ p ∈ es, p.1 = klit a b := by
    intro es
    induction es with
    | nil => exact fun _ _ => ⟨[], rfl, List.nodup_nil, by simp, by simp⟩
    | cons p r ih =>
      intro h hp
      obtain ⟨h1, h2⟩ := List.pairwise_cons.1 hp
      obtain ⟨l, hl, hn, hlt, hx⟩ := ih (fun q hq => h q (by simp [hq])) h2
      obtain ⟨a, b, ha, hb, rfl⟩ := h p (by simp)
      refine ⟨(41 * a + b) :: l, by simp [hl], List.nodup_cons.2 ⟨fun hm => ?_, hn⟩, ?_, ?_⟩
      · obtain ⟨c, d, hc, hd, e, q, hq, hk⟩ := hx _ hm
        have e1 : a = c := by omega
        have e2 : b = d := by omega
        subst e1 e2
        exact h1 q hq hk.symm
      · intro x hm
        rcases List.mem_cons.1 hm with rfl | hm
        · omega
        · exact hlt x hm
      · intro x hm
        rcases List.mem_cons.1 hm with rfl | hm
        · exact ⟨a, b, ha, hb, rfl, _, List.mem_cons_self, rfl⟩
        · obtain ⟨c, d, hc, hd, e, q, hq, hk⟩ := hx x hm
          exact ⟨c, d, hc, hd, e, q, List.mem_cons_of_mem _ hq, hk⟩
  obtain ⟨l, hl, hn, hlt, _⟩ := key es he hp
  have := pigeon 1681 l hn hlt
  omega

/-- Block m is the map of choices, and all its entries are right. -/
def Memo (w : World) (m : Nat) : Prop := ∃ D : DataW Unit, w.ownsMap Try.prog 153 (plainElem Try.prog 3) m 1681 D ∧ Good D

theorem Memo.made (w : World) : Memo (w.alloc (.map #[] 0)) w.heap.size :=
  ⟨_, (World.ownsMap_made w Try.prog 153 (plainElem Try.prog 3)).mono (by omega), good_empty⟩
theorem Memo.kept {w w' : World} {m : Nat} {row : Option Nat} (h : Memo w m) (hg : w.grownBy w' row) (hne : some m ≠ row) : Memo w' m := by
  obtain ⟨D, h1, h2⟩ := h
  exact ⟨D, h1.kept hg hne, h2⟩
theorem Memo.lt {w : World} {m : Nat} (h : Memo w m) : m < w.heap.size := by
  obtain ⟨D, h1, _⟩ := h
  exact h1.lt
theorem Memo.noCell {w : World} {m : Nat} (h : Memo w m) {a : Addr} {v : Value} (hc : w.cell? a = some v) : a.block ≠ m := by
  obtain ⟨D, ⟨es, clock, hb, _⟩, _⟩ := h
  rintro rfl
  simp [World.cell?, hb] at hc
/-- A bound on the entries is as good as their number. -/
theorem tighten {w : World} {b n : Nat} {D : DataW Unit} {k e : TypeId} (h : w.ownsMap Try.prog k (plainElem Try.prog e) b n D) {m : Nat} (hm : size D ≤ m) : w.ownsMap Try.prog k (plainElem Try.prog e) b m D := by
  obtain ⟨es, clock, hb, F, hs, rfl⟩ := h
  refine ⟨es, clock, hb, F, ?_, rfl⟩
  simpa [size, length_sorted] using hm
theorem Memo.stored {w : World} {m n : Nat} {D : DataW Unit} (h : w.ownsMap Try.prog 153 (plainElem Try.prog 3) m n D) (hg : Good D) : Memo w m :=
  ⟨D, tighten h (good_size hg (h.tidy law153)), hg⟩

end Go.Proofs.Ythpllmefbhjmmaa
