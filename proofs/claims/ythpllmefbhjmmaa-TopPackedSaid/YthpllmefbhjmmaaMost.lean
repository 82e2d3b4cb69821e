/-
  The greatest leak: barrel.most, and the function that it answers.
-/
import Derived.Test.YthpllmefbhjmmaaCheckYard
namespace Go.Proofs.Ythpllmefbhjmmaa
open Go.RowKit Go.Maps Plain
attribute [local go_sem] Oper.semAt_some

/-- The function that barrel.most answers, over the box of a yard. -/
abbrev mostFn (p : Nat) : Value := .func (Fn.func 105) #[] #[.pointer (some ⟨p, 0, none⟩)]

set_option maxRecDepth 100000 in
set_option maxHeartbeats 800000 in
theorem most91 (a : Option Addr) (n cap : Nat) (w : World) :
    Calls Try.prog 91 #[.slice a n cap] w fun e w' => e = .returned (.agg #[mostFn w.heap.size]) ∧ w'.cell? ⟨w.heap.size, 0, none⟩ = some (.slice a n cap) ∧ Below w.heap.size w w' := by
  have hB : Below w.heap.size w ((w.alloc (.cells #[.slice a n cap] 69)).alloc (.cells #[mostFn w.heap.size] 140)) := (below_alloc _).alloc (by simp) _
  have hc : ((w.alloc (.cells #[.slice a n cap] 69)).alloc (.cells #[mostFn w.heap.size] 140)).cell? ⟨w.heap.size, 0, none⟩ = some (.slice a n cap) := by go_simp
  have HB := Lib.hid hB
  have HC := Lib.hid hc
  have hd : ((w.alloc (.cells #[.slice a n cap] 69)).alloc (.cells #[mostFn w.heap.size] 140)).cell? ⟨w.heap.size + 1, 0, none⟩ = some (mostFn w.heap.size) := by go_simp
  have HD := Lib.hid hd
  clear hB hc hd
  go_enter Try.func91, Try.ntmps91
  go_wp2_with fail
  exact bodyPost_ret (v := .agg #[mostFn w.heap.size]) (by simp [results, Try.results91, go_sem, HD.out]) rfl ⟨rfl, HC.out, HB.out⟩

set_option maxRecDepth 100000 in
set_option maxHeartbeats 800000 in
theorem most105 (m : Int) (k P : Nat) (l : List Ck) (c : Ck) (v : Value) (w : World) (hl : CksAt w v l) (hk : l[k]? = some c) (hp : w.cell? ⟨P, 0, none⟩ = some v) :
    Calls Try.prog 105 #[.int .i64 m, .int .i64 k, .pointer (some ⟨P, 0, none⟩)] w fun e w' => e = .returned (.int .i64 c.hi) ∧ w = w' := by
  obtain ⟨a, cap, rfl, hm⟩ := hl
  obtain ⟨b, off, rfl, c0, c1, c2, c3, c4⟩ := hm k c hk
  have hlt : k < l.length := by
    rcases Nat.lt_or_ge k l.length with h | h
    · exact h
    · rw [List.getElem?_eq_none h] at hk; cases hk
  have hk1 : (k : Int) < (l.length : Int) := by omega
  have hk0 : (0 : Int) ≤ (k : Int) := by omega
  clear hm hk
  go_enter Try.func105, Try.ntmps105
  go_wp2_with fail
  go_ret
  exact ⟨rfl, rfl⟩

end Go.Proofs.Ythpllmefbhjmmaa
