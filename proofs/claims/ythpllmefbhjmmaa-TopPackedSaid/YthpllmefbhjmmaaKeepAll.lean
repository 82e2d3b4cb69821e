/-
  The search of barrel.Keep for a plan, walked: a plan that keeps a yard, or none.
-/
import Derived.Test.YthpllmefbhjmmaaMemo
import Derived.Test.YthpllmefbhjmmaaLeakWalk
import Derived.Test.YthpllmefbhjmmaaFirstYard
import Derived.Deep.DeepCutAuto
import Derived.Deep.RegionLawGrows
import Derived.Deep.RegionHeld3
import Derived.BigQuiet
import Derived.Laws.EntriesVeiled
namespace Go.Proofs.Ythpllmefbhjmmaa
section
open Go.RowKit Go.Maps Plain

theorem Try.row136 : (136 : TypeId) < Try.prog.types.size := of_decide_eq_true (by kernel_rfl)
theorem law136 : Keyed Try.prog 136 := Keyed.of_law (deep_law_laid Try.laidOut (m := 4) (by omega) Try.row136 (by kernel_rfl) (by rw [Try.underlying136]))
theorem cells136 : Try.prog.cellsOf 136 = 5 := by kernel_rfl
theorem cells134 : Try.prog.cellsOf 134 = 4 := by kernel_rfl
theorem keyType136 : Try.prog.keyType 136 = true := by kernel_rfl
theorem zero4 (w : World) : (zeroValue 4).run Try.prog w = .ok (.bool false) w := by kernel_rfl
theorem typesSize3 : ∃ m, Try.prog.types.size = m + 3 := ⟨Try.prog.types.size - 3, by have h : 136 < Try.prog.types.size := Try.row136; omega⟩

theorem wf_small (a : Int) (h0 : 0 ≤ a) (h : a ≤ 1000) : (Lit.int .i64 a).wf = true := by
  have h1 : IntKind.i64.min = -9223372036854775808 := rfl
  have h2 : IntKind.i64.max = 9223372036854775807 := rfl
  simp only [Lit.wf, Bool.and_eq_true, decide_eq_true_eq]; omega

theorem key136 (a b c d e : Int) (ha : 0 ≤ a ∧ a ≤ 1000) (hb : 0 ≤ b ∧ b ≤ 1000) (hc : 0 ≤ c ∧ c ≤ 1000) (hd : 0 ≤ d ∧ d ≤ 1000) (he : 0 ≤ e ∧ e ≤ 1000) : ∃ kl, keyOf Try.prog 136 (.agg #[.int .i64 a, .int .i64 b, .int .i64 c, .int .i64 d, .int .i64 e]) = some kl := by
  obtain ⟨m, hm⟩ := typesSize3
  have wa := wf_small a ha.1 ha.2
  have wb := wf_small b hb.1 hb.2
  have wc := wf_small c hc.1 hc.2
  have wd := wf_small d hd.1 hd.2
  have we := wf_small e he.1 he.2
  unfold keyOf
  rw [Try.underlying136]
  simp only [keyType136, Value.formed, Try.underlying136, cells136, Value.cells, hm]
  simp [Program.keyLits, Try.underlying136, Try.underlying134, Try.underlying3, cells136, cells134, cells3, wa, wb, wc, wd, we, List.range_succ]

theorem plainElem_bool_inv {P : Program} {e : TypeId} (he : P.underlying e = some .bool) {v : Value} {z : DataW Unit × List MemPlace} (h : plainElem P e v = some z) : ∃ c, v = .bool c := by
  unfold plainElem at h
  rw [he] at h
  cases v <;> simp at h
  exact ⟨_, rfl⟩
/-- 'm[k]' of a map of bools: some bool; the world does not turn. -/
theorem look_bool {w : World} {b n : Nat} {D : DataW Unit} (h : w.ownsMap Try.prog 136 (plainElem Try.prog 4) b n D) {key : Value} {kl : Lit} (hkey : keyOf Try.prog 136 key = some kl) :
    ∃ c, (Instr.lookup 132 (.map (some b)) key false).run Try.prog w = .ok (.bool c) w := by
  obtain ⟨v, ps, hrun, hv⟩ := h.lookup law136 Try.underlying132 (zero4 w) (plainElem_bool Try.underlying4 false) hkey
  obtain ⟨c, rfl⟩ := plainElem_bool_inv Try.underlying4 hv
  exact ⟨c, hrun⟩
end

section
open Go.RowKit Go.Maps Plain

/-- All cells that were there read as before. -/
def Stay (W W' : World) : Prop := ∀ a u, W.cell? a = some u → W'.cell? a = some u
theorem Stay.refl (W : World) : Stay W W := fun _ _ h => h
theorem Stay.trans {a b c : World} (h : Stay a b) (k : Stay b c) : Stay a c := fun x u hx => k x u (h x u hx)
theorem Stay.below {W W' : World} (h : Below W.heap.size W W') : Stay W W' := fun a _ hc => (World.cell?_of_block (a := a) (h.block _ (World.block_lt_of_cell? W a hc))).trans hc

/-- Block m is the map of what was tried; at most n entries. -/
def Tried (m n : Nat) (W : World) : Prop := ∃ D : DataW Unit, W.ownsMap Try.prog 136 (plainElem Try.prog 4) m n D
theorem Tried.mono {m n n' : Nat} {W : World} (h : Tried m n W) (hn : n ≤ n') : Tried m n' W := by
  obtain ⟨D, h⟩ := h
  exact ⟨D, h.mono hn⟩
theorem Tried.lt {m n : Nat} {W : World} (h : Tried m n W) : m < W.heap.size := by
  obtain ⟨D, h⟩ := h
  exact h.lt
theorem Tried.below {m n : Nat} {W W' : World} (h : Tried m n W) (hB : Below W.heap.size W W') : Tried m n W' := by
  obtain ⟨D, h⟩ := h
  exact ⟨D, h.kept (grown_of_below hB none) (by simp)⟩
theorem Tried.noCell {m n : Nat} {W : World} (h : Tried m n W) {a : Addr} {v : Value} (hc : W.cell? a = some v) : a.block ≠ m := by
  obtain ⟨D, ⟨es, clock, hb, _⟩⟩ := h
  rintro rfl
  simp [World.cell?, hb] at hc
theorem Stay.grown {m n : Nat} {W W' : World} (h : Tried m n W) (hG : W.grownBy W' (some m)) : Stay W W' := fun a _ hc => hG.cell hc (fun e => h.noCell hc (by injection e))

theorem CksAt.stay {w w' : World} {v : Value} {l : List Ck} (h : CksAt w v l) (hs : Stay w w') : CksAt w' v l := by
  obtain ⟨a, cap, hv, hm⟩ := h
  refine ⟨a, cap, hv, fun i c hi => ?_⟩
  obtain ⟨b, off, ha, h0, h1, h2, h3, h4⟩ := hm i c hi
  exact ⟨b, off, ha, hs _ _ h0, hs _ _ h1, hs _ _ h2, hs _ _ h3, hs _ _ h4⟩

/-- A plan as it lies in memory. -/
def PlanAt (W : World) (v : Value) (p : List Nat) : Prop :=
  (v = .slice none 0 0 ∧ p = []) ∨ ∃ g cap, v = .slice (some ⟨g, 0, none⟩) p.length cap ∧ p.length ≤ cap ∧ ∀ i n, p[i]? = some n → W.cell? ⟨g, i, none⟩ = some (.int .i64 (n : Nat))
theorem PlanAt.stay {W W' : World} {v : Value} {p : List Nat} (h : PlanAt W v p) (hs : Stay W W') : PlanAt W' v p := by
  rcases h with h | ⟨g, cap, h1, h2, h3⟩
  · exact .inl h
  · exact .inr ⟨g, cap, h1, h2, fun i n hi => hs _ _ (h3 i n hi)⟩

/-- The function that searches, over its four boxes. -/
abbrev onFn (bm bt by_ bo : Nat) : Value := .func (Fn.func 89) #[] #[.pointer (some ⟨bm, 0, none⟩), .pointer (some ⟨bt, 0, none⟩), .pointer (some ⟨by_, 0, none⟩), .pointer (some ⟨bo, 0, none⟩)]
/-- The four boxes of the search, and the yard. -/
def Boxes (M : Int) (v : Value) (l : List Ck) (bm bt by_ bo m : Nat) (W : World) : Prop :=
  W.cell? ⟨bm, 0, none⟩ = some (.int .i64 M) ∧ W.cell? ⟨bt, 0, none⟩ = some (.map (some m)) ∧ W.cell? ⟨by_, 0, none⟩ = some v ∧ W.cell? ⟨bo, 0, none⟩ = some (onFn bm bt by_ bo) ∧ CksAt W v l
theorem Boxes.stay {M : Int} {v : Value} {l : List Ck} {bm bt by_ bo m : Nat} {W W' : World} (h : Boxes M v l bm bt by_ bo m W) (hs : Stay W W') : Boxes M v l bm bt by_ bo m W' :=
  ⟨hs _ _ h.1, hs _ _ h.2.1, hs _ _ h.2.2.1, hs _ _ h.2.2.2.1, h.2.2.2.2.stay hs⟩
/-- Five cells: a moment. -/
def MomAt (W : World) (X : Nat) (mo : Int) (f : Nat → Int) : Prop :=
  W.cell? ⟨X, 0, none⟩ = some (.int .i64 mo) ∧ W.cell? ⟨X, 1, none⟩ = some (.int .i64 (f 0)) ∧ W.cell? ⟨X, 2, none⟩ = some (.int .i64 (f 1)) ∧ W.cell? ⟨X, 3, none⟩ = some (.int .i64 (f 2)) ∧ W.cell? ⟨X, 4, none⟩ = some (.int .i64 (f 3))
theorem MomAt.stay {W W' : World} {X : Nat} {mo : Int} {f : Nat → Int} (h : MomAt W X mo f) (hs : Stay W W') : MomAt W' X mo f :=
  ⟨hs _ _ h.1, hs _ _ h.2.1, hs _ _ h.2.2.1, hs _ _ h.2.2.2.1, hs _ _ h.2.2.2.2⟩
/-- Four cells: levels. -/
def LevAt (W : World) (X : Nat) (f : Nat → Int) : Prop :=
  W.cell? ⟨X, 0, none⟩ = some (.int .i64 (f 0)) ∧ W.cell? ⟨X, 1, none⟩ = some (.int .i64 (f 1)) ∧ W.cell? ⟨X, 2, none⟩ = some (.int .i64 (f 2)) ∧ W.cell? ⟨X, 3, none⟩ = some (.int .i64 (f 3))
theorem LevAt.stay {W W' : World} {X : Nat} {f : Nat → Int} (h : LevAt W X f) (hs : Stay W W') : LevAt W' X f := ⟨hs _ _ h.1, hs _ _ h.2.1, hs _ _ h.2.2.1, hs _ _ h.2.2.2⟩

/-- How often the map can be written by a search of k months. -/
def callsT : Nat → Nat
  | 0 => 0
  | k + 1 => 1 + 4 * callsT k
theorem callsT_le : ∀ k, k ≤ 12 → callsT k ≤ 5592405 := by
  have mono : ∀ k j, callsT k ≤ callsT (k + j) := by
    intro k j
    induction j with
    | zero => exact Nat.le_refl _
    | succ j ih => show callsT k ≤ 1 + 4 * callsT (k + j); omega
  intro k hk
  have := mono k (12 - k)
  rw [show k + (12 - k) = 12 by omega] at this
  have h12 : callsT 12 = 5592405 := by decide +kernel
  omega

/-- Levels that fit. -/
def LevOk (f : Nat → Int) : Prop := ∀ j, 0 ≤ f j ∧ f j ≤ 1000
theorem levOk_begin {l : List Ck} (h : yardB l = true) : LevOk (levelOf l) := fun j => by
  by_cases hj : j < l.length
  · have := ck_bounds h hj; omega
  · unfold levelOf; rw [List.getElem?_eq_none (by omega)]; exact ⟨by decide, by decide⟩
theorem levOk_leak {l : List Ck} (h : yardB l = true) {f : Nat → Int} (hf : LevOk f) : LevOk (leakF (hiOf l) f l.length) := fun j => by
  have := hf j
  unfold leakF
  by_cases hj : j < l.length
  · rw [if_pos hj]
    have := ck_bounds h hj
    unfold lvl
    omega
  · rw [if_neg hj]; exact this
theorem levOk_step {l : List Ck} (h : yardB l = true) {f : Nat → Int} (hf : LevOk f) {t : Nat} (ht : t < l.length) : LevOk (stepF l (hiOf l) f t) := fun j => by
  unfold stepF
  by_cases e : j = t
  · rw [if_pos e]; have := ck_bounds h ht; omega
  · rw [if_neg e]; exact levOk_leak h hf j

/-- What the search answers: a plan that keeps the yard, or none; the map may have grown; all else is as it was. -/
def OnPost (l : List Ck) (f : Nat → Int) (k : Nat) (p : List Nat) (m n : Nat) (w : World) (e : Ending) (w' : World) : Prop :=
  (e = .returned (.tuple #[.slice none 0 0, .bool false]) ∨ ∃ (r : List Nat) (pv : Value), r.length = k ∧ keepsP l f r ∧ e = .returned (.tuple #[pv, .bool true]) ∧ PlanAt w' pv (p ++ r)) ∧ Tried m (n + callsT k) w' ∧ w.grownBy w' (some m)
end

section
open Go.RowKit Go.Maps Plain
attribute [local go_sem] Oper.semAt_some

set_option maxRecDepth 100000 in
set_option maxHeartbeats 1600000 in
theorem on_end (M : Int) (l : List Ck) (f : Nat → Int) (p : List Nat) (pv v : Value) (bm bt by_ bo m n : Nat) (w : World) (hb : Boxes M v l bm bt by_ bo m w) (ht : Tried m n w) (hp : PlanAt w pv p) (hp12 : p.length ≤ 12) :
    Calls Try.prog 89 #[.agg #[.int .i64 M, .int .i64 (f 0), .int .i64 (f 1), .int .i64 (f 2), .int .i64 (f 3)], pv, .pointer (some ⟨bm, 0, none⟩), .pointer (some ⟨bt, 0, none⟩), .pointer (some ⟨by_, 0, none⟩), .pointer (some ⟨bo, 0, none⟩)] w (OnPost l f 0 p m n w) := by
  have hG := World.grownBy_alloc w (.cells #[.int .i64 M, .int .i64 (f 0), .int .i64 (f 1), .int .i64 (f 2), .int .i64 (f 3)] 136) (some m)
  have ht2 : Tried m (n + callsT 0) (w.alloc (.cells #[.int .i64 M, .int .i64 (f 0), .int .i64 (f 1), .int .i64 (f 2), .int .i64 (f 3)] 136)) := ht.below (below_alloc _)
  have HG := Lib.hid hG
  have HT := Lib.hid ht2
  have hp2 := hp.stay (Stay.grown ht hG)
  have h0 := hb.1
  have hlt := World.block_lt_of_cell? w _ h0
  clear hG ht2 ht hb
  rcases hp2 with ⟨rfl, rfl⟩ | ⟨g, cap, rfl, hc1, hc2⟩
  · clear hp
    go_enter Try.func89, Try.ntmps89
    go_wp2_with fail
    go_step3
    go_wp2_with fail
    rw [Exit.noGoto_ret]
    go_ret2
    exact ⟨.inr ⟨[], _, rfl, trivial, rfl, .inl ⟨rfl, rfl⟩⟩, HT.out, HG.out⟩
  · have HC := Lib.hid hc2
    have hc3 : (p.length : Int) ≤ (cap : Int) := by omega
    clear hp hc2
    go_enter Try.func89, Try.ntmps89
    go_wp2_with fail
    go_step3
    go_wp2_with fail
    rw [Exit.noGoto_ret]
    go_ret2
    refine ⟨.inr ⟨[], _, rfl, trivial, rfl, .inr ⟨g, p.length, by rw [List.append_nil]; rfl, by rw [List.append_nil]; exact Nat.le_refl _, by rw [List.append_nil]; exact HC.out⟩⟩, HT.out, HG.out⟩

theorem eq134 (a b c d x y z u : Int) (w : World) : (Op.equalIn 10000 134 (.agg #[.int .i64 a, .int .i64 b, .int .i64 c, .int .i64 d]) (.agg #[.int .i64 x, .int .i64 y, .int .i64 z, .int .i64 u])).run Try.prog w = .ok ((a == x) && (b == y) && (c == z) && (d == u)) w := by
  have u3 := Try.underlying3
  have a3 := Try.isAgg3
  have z3 := Try.sizeOf3
  rw [show (10000 : Nat) = 9999 + 1 from rfl, Op.equalIn]
  simp only [Sem.run_bind, run_underlying Try.underlying134, Result.andThen_ok]
  simp only [Std.Legacy.Range.forIn_eq_forIn_range', Std.Legacy.Range.size, Nat.sub_zero, Nat.add_sub_cancel, Nat.div_one, List.range'_succ, List.range'_zero, List.forIn_cons, List.forIn_nil]
  go_simp
  by_cases h1 : a = x <;> by_cases h2 : b = y <;> by_cases h3 : c = z <;> by_cases h4 : d = u <;> simp [h1, h2, h3, h4]

theorem bcell' {W w1 : World} (hb : Below W.heap.size W w1) : (∀ b o, b < W.heap.size → w1.cell? ⟨b, o, none⟩ = W.cell? ⟨b, o, none⟩) ∧ (∀ b o, b < W.heap.size → w1.frozen? ⟨b, o, none⟩ = W.frozen? ⟨b, o, none⟩) :=
  ⟨fun b o h => hb.cell (p := ⟨b, o, none⟩) h, fun b o h => hb.frozen (p := ⟨b, o, none⟩) h⟩
/-- What the statement that leaks reads: the yard's box, the moment; all else as it was. -/
abbrev KS (W0 : World) (by_ X : Nat) (v : Value) (mo : Int) (f : Nat → Int) (w' : World) : Prop :=
  w'.cell? ⟨by_, 0, none⟩ = some v ∧ w'.cell? ⟨X, 0, none⟩ = some (.int .i64 mo) ∧ w'.cell? ⟨X, 1, none⟩ = some (.int .i64 (f 0)) ∧ w'.cell? ⟨X, 2, none⟩ = some (.int .i64 (f 1)) ∧ w'.cell? ⟨X, 3, none⟩ = some (.int .i64 (f 2)) ∧ w'.cell? ⟨X, 4, none⟩ = some (.int .i64 (f 3)) ∧ Below W0.heap.size W0 w'
theorem KS.below {W0 : World} {by_ X : Nat} {v : Value} {mo : Int} {f : Nat → Int} {w' w2 : World} (h : KS W0 by_ X v mo f w') (hB : Below w'.heap.size w' w2) : KS W0 by_ X v mo f w2 := by
  obtain ⟨h0, h1, h2, h3, h4, h5, hb⟩ := h
  have hs := Stay.below hB
  exact ⟨hs _ _ h0, hs _ _ h1, hs _ _ h2, hs _ _ h3, hs _ _ h4, hs _ _ h5, below_trans hb hB⟩
theorem KS.drew {W0 : World} {by_ X : Nat} {v : Value} {mo : Int} {f : Nat → Int} {w' : World} (h : KS W0 by_ X v mo f w') : KS W0 by_ X v mo f w'.drew := by
  obtain ⟨h0, h1, h2, h3, h4, h5, hb⟩ := h
  exact ⟨h0, h1, h2, h3, h4, h5, hb.drew⟩
theorem KS.cks {W0 : World} {by_ X : Nat} {v : Value} {mo : Int} {f : Nat → Int} {l : List Ck} {w' : World} (h : KS W0 by_ X v mo f w') (hl : CksAt W0 v l) : CksAt w' v l := hl.below h.2.2.2.2.2.2
/-- Four cells are written. -/
abbrev set4 (w : World) (L : Nat) (a b c d : Value) : World := (((w.setCell ⟨L, 0, none⟩ a).setCell ⟨L, 1, none⟩ b).setCell ⟨L, 2, none⟩ c).setCell ⟨L, 3, none⟩ d
theorem stay_set4 {W0 w : World} {L : Nat} (hL : W0.heap.size ≤ L) (hs : Below W0.heap.size W0 w) (a b c d : Value) : Below W0.heap.size W0 (set4 w L a b c d) :=
  (((hs.setCell hL _).setCell hL _).setCell hL _).setCell hL _
theorem KS.set4 {W0 : World} {by_ X L : Nat} {v : Value} {mo : Int} {f : Nat → Int} {w' : World} (hS : KS W0 by_ X v mo f W0) (h : KS W0 by_ X v mo f w') (hL : W0.heap.size ≤ L) (a b c d : Value) : KS W0 by_ X v mo f (set4 w' L a b c d) := by
  have hB := stay_set4 hL h.2.2.2.2.2.2 a b c d
  obtain ⟨h0, h1, h2, h3, h4, h5, _⟩ := hS
  have hs := Stay.below hB
  exact ⟨hs _ _ h0, hs _ _ h1, hs _ _ h2, hs _ _ h3, hs _ _ h4, hs _ _ h5, hB⟩
/-- What the statement leaves: a new box of the levels, the first barrel that falls. -/
def LeakS (l : List Ck) (f : Nat → Int) (W : World) (s t : Value) (wx : World) : Prop :=
  t = .int .i64 (fallOf l (hiOf l) f l.length) ∧ ∃ g : Nat, s = .pointer (some ⟨g, 0, none⟩) ∧ LevAt wx g (leakF (hiOf l) f l.length) ∧ Below W.heap.size W wx

abbrev zeroO : Obj := .cells #[.int .i64 0, .int .i64 0, .int .i64 0, .int .i64 0] 134
theorem lev_set4 {w : World} {L : Nat} {u0 u1 u2 u3 : Value} (g : Nat → Int) (h0 : w.cell? ⟨L, 0, none⟩ = some u0) (h1 : w.cell? ⟨L, 1, none⟩ = some u1) (h2 : w.cell? ⟨L, 2, none⟩ = some u2) (h3 : w.cell? ⟨L, 3, none⟩ = some u3) :
    LevAt (set4 w L (.int .i64 (g 0)) (.int .i64 (g 1)) (.int .i64 (g 2)) (.int .i64 (g 3))) L g := by
  unfold LevAt
  exact ⟨by go_simp, by go_simp, by go_simp, by go_simp⟩
theorem lev_zero {W w4 : World} (h4 : Below (W.alloc zeroO).heap.size (W.alloc zeroO) w4) (g : Nat → Int) : LevAt (set4 w4 W.heap.size (.int .i64 (g 0)) (.int .i64 (g 1)) (.int .i64 (g 2)) (.int .i64 (g 3))) W.heap.size g := by
  have k : ∀ i u, (W.alloc zeroO).cell? ⟨W.heap.size, i, none⟩ = some u → w4.cell? ⟨W.heap.size, i, none⟩ = some u := fun i u h => Stay.below h4 _ _ h
  exact lev_set4 g (k 0 (.int .i64 0) (by go_simp)) (k 1 (.int .i64 0) (by go_simp)) (k 2 (.int .i64 0) (by go_simp)) (k 3 (.int .i64 0) (by go_simp))
theorem LeakS.a {l : List Ck} {f : Nat → Int} {W w3 w4 : World} (h3 : Below W.drew.heap.size W.drew w3) (h4 : Below w3.heap.size w3 w4) :
    LeakS l f W (.pointer (some ⟨w4.heap.size, 0, none⟩)) (.int .i64 (fallOf l (hiOf l) f l.length)) (w4.alloc (.cells #[.int .i64 (leakF (hiOf l) f l.length 0), .int .i64 (leakF (hiOf l) f l.length 1), .int .i64 (leakF (hiOf l) f l.length 2), .int .i64 (leakF (hiOf l) f l.length 3)] 134)) :=
  ⟨rfl, _, rfl, by unfold LevAt; exact ⟨by go_simp, by go_simp, by go_simp, by go_simp⟩, below_more (below_trans (below_trans (Below.refl W.heap.size W).drew h3) h4) _⟩
theorem LeakS.b {l : List Ck} {f : Nat → Int} {W w3 w4 : World} (h3 : Below W.drew.heap.size W.drew w3) (h4 : Below (w3.alloc zeroO).heap.size (w3.alloc zeroO) w4) :
    LeakS l f W (.pointer (some ⟨w3.heap.size, 0, none⟩)) (.int .i64 (fallOf l (hiOf l) f l.length)) (set4 w4 w3.heap.size (.int .i64 (leakF (hiOf l) f l.length 0)) (.int .i64 (leakF (hiOf l) f l.length 1)) (.int .i64 (leakF (hiOf l) f l.length 2)) (.int .i64 (leakF (hiOf l) f l.length 3))) :=
  have h5 : Below W.heap.size W w3 := below_trans (Below.refl W.heap.size W).drew h3
  ⟨rfl, _, rfl, lev_zero h4 _, stay_set4 (W0 := W) h3.size (below_trans (below_more h5 zeroO) h4) _ _ _ _⟩
theorem LeakS.c {l : List Ck} {f : Nat → Int} {W w3 w4 : World} (h3 : Below (W.alloc zeroO).drew.heap.size (W.alloc zeroO).drew w3) (h4 : Below w3.heap.size w3 w4) :
    LeakS l f W (.pointer (some ⟨W.heap.size, 0, none⟩)) (.int .i64 (fallOf l (hiOf l) f l.length)) (set4 w4 W.heap.size (.int .i64 (leakF (hiOf l) f l.length 0)) (.int .i64 (leakF (hiOf l) f l.length 1)) (.int .i64 (leakF (hiOf l) f l.length 2)) (.int .i64 (leakF (hiOf l) f l.length 3))) :=
  ⟨rfl, _, rfl, lev_zero (below_trans (below_trans (Below.refl _ (W.alloc zeroO)).drew h3) h4) _, stay_set4 (Nat.le_refl _) (below_trans (below_trans (below_alloc zeroO).drew h3) h4) _ _ _ _⟩

theorem MomAt.at {W : World} {X : Nat} {mo : Int} {f : Nat → Int} (h : MomAt W X mo f) {t : Nat} (ht : t < 4) : W.cell? ⟨X, 1 + t, none⟩ = some (.int .i64 (f t)) := by
  obtain ⟨h0, h1, h2, h3, h4⟩ := h
  rcases (by omega : t = 0 ∨ t = 1 ∨ t = 2 ∨ t = 3) with rfl | rfl | rfl | rfl
  · exact h1
  · exact h2
  · exact h3
  · exact h4
theorem MomAt.set {W : World} {X : Nat} {mo : Int} {f : Nat → Int} (h : MomAt W X mo f) {t : Nat} (_ : t < 4) (y : Int) : MomAt (W.setCell ⟨X, 1 + t, none⟩ (.int .i64 y)) X mo (fun j => if j = t then y else f j) := by
  have k : ∀ j, j < 4 → (W.setCell ⟨X, 1 + t, none⟩ (.int .i64 y)).cell? ⟨X, 1 + j, none⟩ = some (.int .i64 (if j = t then y else f j)) := by
    intro j hj
    by_cases e : j = t
    · subst e; rw [if_pos rfl]; exact World.cell?_setCell_same _ _ _ (h.at hj)
    · rw [if_neg e, World.cell?_setCell_other _ _ _ _ (fun he => by injection he with _ he _; omega)]; exact h.at hj
  refine ⟨?_, k 0 (by omega), k 1 (by omega), k 2 (by omega), k 3 (by omega)⟩
  rw [World.cell?_setCell_other _ _ _ _ (fun he => by injection he with _ he _; omega)]; exact h.1

/-- What the statement that searches on reads: the function, the next moment; all else as it was, but for the map. -/
abbrev KT (W0 : World) (m bm bt by_ bo N : Nat) (mo : Int) (f : Nat → Int) (w' : World) : Prop :=
  w'.cell? ⟨bo, 0, none⟩ = some (onFn bm bt by_ bo) ∧ w'.cell? ⟨N, 0, none⟩ = some (.int .i64 mo) ∧ w'.cell? ⟨N, 1, none⟩ = some (.int .i64 (f 0)) ∧ w'.cell? ⟨N, 2, none⟩ = some (.int .i64 (f 1)) ∧ w'.cell? ⟨N, 3, none⟩ = some (.int .i64 (f 2)) ∧ w'.cell? ⟨N, 4, none⟩ = some (.int .i64 (f 3)) ∧ W0.grownBy w' (some m)
theorem KT.stay {W0 : World} {m bm bt by_ bo N : Nat} {mo : Int} {f : Nat → Int} {w' w2 : World} (h : KT W0 m bm bt by_ bo N mo f w') (hs : Stay w' w2) (hG : w'.grownBy w2 (some m)) : KT W0 m bm bt by_ bo N mo f w2 := by
  obtain ⟨h0, h1, h2, h3, h4, h5, hb⟩ := h
  exact ⟨hs _ _ h0, hs _ _ h1, hs _ _ h2, hs _ _ h3, hs _ _ h4, hs _ _ h5, hb.trans hG⟩
theorem KT.below {W0 : World} {m bm bt by_ bo N : Nat} {mo : Int} {f : Nat → Int} {w' w2 : World} (h : KT W0 m bm bt by_ bo N mo f w') (hB : Below w'.heap.size w' w2) : KT W0 m bm bt by_ bo N mo f w2 :=
  h.stay (Stay.below hB) (grown_of_below hB _)
theorem KT.call {W0 : World} {m n bm bt by_ bo N : Nat} {mo : Int} {f : Nat → Int} {w' w2 : World} (h : KT W0 m bm bt by_ bo N mo f w') (hT : Tried m n w') (hG : w'.grownBy w2 (some m)) : KT W0 m bm bt by_ bo N mo f w2 :=
  h.stay (Stay.grown hT hG) hG
theorem KT.drew {W0 : World} {m bm bt by_ bo N : Nat} {mo : Int} {f : Nat → Int} {w' : World} (h : KT W0 m bm bt by_ bo N mo f w') : KT W0 m bm bt by_ bo N mo f w'.drew := by
  obtain ⟨h0, h1, h2, h3, h4, h5, hb⟩ := h
  exact ⟨h0, h1, h2, h3, h4, h5, grown_drew hb⟩
/-- What a search answers, its bool by name. -/
def OnInfo (l : List Ck) (f : Nat → Int) (k : Nat) (p : List Nat) (w' : World) (b : Bool) (pv : Value) : Prop :=
  (b = false ∧ pv = .slice none 0 0) ∨ (b = true ∧ ∃ r : List Nat, r.length = k ∧ keepsP l f r ∧ PlanAt w' pv (p ++ r))
theorem OnPost.info {l : List Ck} {f : Nat → Int} {k : Nat} {p : List Nat} {m n : Nat} {w : World} {e : Ending} {w' : World} (h : OnPost l f k p m n w e w') : ∃ (b : Bool) (pv : Value), e = .returned (.tuple #[pv, .bool b]) ∧ OnInfo l f k p w' b pv ∧ Tried m (n + callsT k) w' ∧ w.grownBy w' (some m) := by
  obtain ⟨he, hT, hG⟩ := h
  rcases he with rfl | ⟨r, pv, h1, h2, rfl, h3⟩
  · exact ⟨false, _, rfl, .inl ⟨rfl, rfl⟩, hT, hG⟩
  · exact ⟨true, pv, rfl, .inr ⟨rfl, r, h1, h2, h3⟩, hT, hG⟩
theorem plan_of_own {W : World} {base g n cap : Nat} {p : List Nat} (hn : n = p.length) (h : W.ownsRow base 3 1 (.slice (some ⟨g, 0, none⟩) n cap) n (p.map fun n : Nat => .int .i64 (n : Int))) : PlanAt W (.slice (some ⟨g, 0, none⟩) n cap) p := by
  subst hn
  refine .inr ⟨g, cap, rfl, ?_, fun i x hi => ?_⟩
  · rcases h.2 with ⟨hv, _⟩ | ⟨g', c', cur, hv, _, _, hc, _⟩
    · cases hv
    · injection hv with _ _ hv
      omega
  · have hil := (List.getElem?_eq_some_iff.1 hi).1
    rw [h.cellAt i (by omega), List.getElem?_map, hi]
    rfl
theorem info3k : (Try.prog.info? 3).map (fun i => (i.zero, i.size, i.bytes)) = some (some (.int .i64 0), 1, 8) := by kernel_rfl

/-- The call's own box. -/
abbrev momO (mo : Int) (f : Nat → Int) : Obj := .cells #[.int .i64 mo, .int .i64 (f 0), .int .i64 (f 1), .int .i64 (f 2), .int .i64 (f 3)] 136

set_option maxRecDepth 100000 in
set_option maxHeartbeats 1600000 in
theorem on_step (M : Int) (k : Nat) (l : List Ck) (f : Nat → Int) (p : List Nat) (pv v : Value) (bm bt by_ bo m n : Nat) (w : World) (hb : Boxes M v l bm bt by_ bo m w) (ht : Tried m n w) (hp : PlanAt w pv p) (hp12 : p.length + (k + 1) ≤ 12)
    (hM0 : 0 ≤ M) (hM12 : M ≤ 12) (hk : (k : Int) + 1 ≤ M) (hy : yardB l = true) (hf : LevOk f) (hn : n + callsT (k + 1) ≤ 1000000000)
    (ih : ∀ (f : Nat → Int) (p : List Nat) (pv : Value) (n : Nat) (w : World), Boxes M v l bm bt by_ bo m w → Tried m n w → PlanAt w pv p → p.length + k ≤ 12 → LevOk f → n + callsT k ≤ 1000000000 →
      Calls Try.prog 89 #[.agg #[.int .i64 (M - k), .int .i64 (f 0), .int .i64 (f 1), .int .i64 (f 2), .int .i64 (f 3)], pv, .pointer (some ⟨bm, 0, none⟩), .pointer (some ⟨bt, 0, none⟩), .pointer (some ⟨by_, 0, none⟩), .pointer (some ⟨bo, 0, none⟩)] w (OnPost l f k p m n w)) :
    Calls Try.prog 89 #[.agg #[.int .i64 (M - k - 1), .int .i64 (f 0), .int .i64 (f 1), .int .i64 (f 2), .int .i64 (f 3)], pv, .pointer (some ⟨bm, 0, none⟩), .pointer (some ⟨bt, 0, none⟩), .pointer (some ⟨by_, 0, none⟩), .pointer (some ⟨bo, 0, none⟩)] w (OnPost l f (k + 1) p m n w) := by
  obtain ⟨mo, hmo⟩ : ∃ mo : Int, M - k - 1 = mo := ⟨_, rfl⟩
  have hmo2 : M - k = mo + 1 := by omega
  rw [hmo2] at ih
  rw [hmo]
  have Hih := Lib.hid ih
  have hm0 : 0 ≤ mo := by omega
  have hm1 : mo < M := by omega
  clear ih hmo hmo2
  have hB0 := below_alloc (w := w) (momO mo f)
  have hb1 := hb.stay (Stay.below hB0)
  have hp1 := hp.stay (Stay.below hB0)
  obtain ⟨D, hD⟩ := ht.below hB0
  have hX : MomAt (w.alloc (momO mo f)) w.heap.size mo f := by unfold MomAt; exact ⟨by go_simp, by go_simp, by go_simp, by go_simp, by go_simp⟩
  obtain ⟨kl, hkl⟩ := key136 mo (f 0) (f 1) (f 2) (f 3) ⟨by omega, by omega⟩ (hf 0) (hf 1) (hf 2) (hf 3)
  obtain ⟨c, hc⟩ := look_bool hD hkl
  have HG0 := Lib.hid (World.grownBy_alloc w (momO mo f) (some m))
  have Hb := Lib.hid hb1
  have Hp := Lib.hid hp1
  have HD := Lib.hid hD
  have HX := Lib.hid hX
  have Hkl := Lib.hid hkl
  have Hf := Lib.hid hf
  have Hy := Lib.hid hy
  obtain ⟨c0, c1, c2, c3, _⟩ := hb1
  have lb0 := World.block_lt_of_cell? w _ hb.1
  have lb1 := World.block_lt_of_cell? w _ hb.2.1
  have lb2 := World.block_lt_of_cell? w _ hb.2.2.1
  have lb3 := World.block_lt_of_cell? w _ hb.2.2.2.1
  have hne : (mo == M) = false := beq_eq_false_iff_ne.2 (by omega)
  obtain ⟨va, vn, vc, rfl⟩ : ∃ va vn vc, v = .slice va vn vc := by
    obtain ⟨a, cap, hv, _⟩ := hb.2.2.2.2
    exact ⟨_, _, _, hv⟩
  obtain ⟨pa, pc, rfl⟩ : ∃ pa pc, pv = .slice pa p.length pc := by
    rcases hp with ⟨h, rfl⟩ | ⟨g, cap, h, _⟩
    · exact ⟨none, 0, h⟩
    · exact ⟨_, _, h⟩
  obtain ⟨W1, hW1⟩ : ∃ W, w.alloc (.cells #[.int .i64 mo, .int .i64 (f 0), .int .i64 (f 1), .int .i64 (f 2), .int .i64 (f 3)] 136) = W := ⟨_, rfl⟩
  rw [hW1] at c0 c1 c2 c3 hc hX HG0 Hb Hp HD HX
  clear hb hp ht hB0 hD hp1 hkl hf hy
  cases c with
  | true =>
    have HT : Hid (Tried m (n + callsT (k + 1)) W1) := Tried.mono ⟨D, HD.out⟩ (by omega)
    obtain ⟨x0, x1, x2, x3, x4⟩ := hX
    go_enter Try.func89, Try.ntmps89
    go_wp2_with fail
    go_step3
    clear hW1
    go_wp2_with fail
    rw [Exit.noGoto_ret]
    go_ret2
    exact ⟨.inl rfl, HT.out, HG0.out⟩
  | false =>
    obtain ⟨x0, x1, x2, x3, x4⟩ := hX
    go_enter Try.func89, Try.ntmps89
    go_wp2_with fail
    go_step3
    clear hW1
    go_wp2_with (at_mapUpdate; refine wpList_mapUpdate_own _ rfl _ _ _ 132 rfl 136 4 law136 Try.underlying132 _ m n D rfl HD.out (by unfold maxLen; simp only [callsT] at hn; omega) _ _ kl rfl rfl Hkl.out _ [] (plainElem_bool Try.underlying4 true) ?_; intro w2 hown2 hgrow2)
    have hst := Stay.grown ⟨D, HD.out⟩ hgrow2
    have HT2 : Hid (Tried m (n + 1) w2) := ⟨_, hown2⟩
    have HG2 := Lib.hid (HG0.out.trans hgrow2)
    have Hb2 := Lib.hid (Hb.out.stay hst)
    have Hp2 := Lib.hid (Hp.out.stay hst)
    have HX2 := Lib.hid (HX.out.stay hst)
    clear hown2 hgrow2 hst c0 c1 c2 c3 x0 x1 x2 x3 x4 hc HD HX Hb Hp HG0 Hkl
    generalize w.heap.size = X at *
    obtain ⟨c0, c1, c2, c3, Hcks⟩ := Hb2.out
    obtain ⟨x0, x1, x2, x3, x4⟩ := HX2.out
    have HKS : Hid (KS w2 by_ X (.slice va vn vc) mo f w2) := ⟨c2, x0, x1, x2, x3, x4, Below.refl _ _⟩
    have HC := Lib.hid Hcks
    clear Hcks
    have hl4 := (yard_len Hy.out).2
    have HR : Hid (∀ j, j < l.length → -4611686018427387904 ≤ f j - hiOf l j ∧ f j - hiOf l j ≤ 4611686018427387904) := fun j hj => by
      have := Hf.out j
      have := ck_bounds Hy.out hj
      omega
    go_upto_region 7 with fail
    simp only [Act.put]
    go_cut [11, 12] (fun s11 s12 wx => LeakS l f w2 s11 s12 wx)
    case first =>
      have hsz := World.size_drew (w := w2)
      go_region_held3 (fun w' => w'.cell? ⟨by_, 0, none⟩ = some (.slice va vn vc) ∧ w'.cell? ⟨X, 0, none⟩ = some (.int .i64 mo) ∧ w'.cell? ⟨X, 1, none⟩ = some (.int .i64 (f 0)) ∧ w'.cell? ⟨X, 2, none⟩ = some (.int .i64 (f 1)) ∧ w'.cell? ⟨X, 3, none⟩ = some (.int .i64 (f 2)) ∧ w'.cell? ⟨X, 4, none⟩ = some (.int .i64 (f 3)) ∧ Below w2.heap.size w2 w')
        (first
          | with_reducible exact HKS.out.drew
          | with_reducible exact KS.drew (KS.below HKS.out (below_alloc _))
          | with_reducible exact KS.below (by assumption) hB4
          | with_reducible exact KS.below (by assumption) hB3
          | with_reducible exact KS.below (by assumption) (below_alloc _)
          | with_reducible exact KS.below (KS.below (KS.below HKS.out.drew hB3) hB4) (below_alloc _)
          | with_reducible exact KS.set4 HKS.out (KS.below (KS.below (KS.below HKS.out.drew hB3) (below_alloc _)) hB4) (by rw [← hsz]; exact hB3.size) _ _ _ _
          | with_reducible exact KS.set4 HKS.out (KS.below (KS.below (KS.drew (KS.below HKS.out (below_alloc _))) hB3) hB4) (Nat.le_refl _) _ _ _ _)
        (first
          | (go_at_call 91; (with_reducible refine (most91 va vn vc _).mono ?_); rintro e w3 ⟨rfl, hP, hB3⟩; obtain ⟨hc1, hf1⟩ := bcell' hB3; try (have hz3 : w2.heap.size < w3.heap.size := by (have := hB3.size; simp at this; omega)))
          | (go_at_call 90
             refine (leaked_most (.slice va vn vc) l mo f _ _ ?_ hl4 ?_ HR.out).mono ?_
             · exact KS.cks (by assumption) HC.out
             · first | exact hP | (simpa using hP) | exact (World.cell?_alloc_lt _ _ _ (World.block_lt_of_cell? _ _ hP)).trans hP
             rintro e w4 ⟨rfl, hB4⟩
             obtain ⟨hc2, hf2⟩ := bcell' hB4))
      all_goals
        go_wp2_with fail
        go_meet
        case rel => first | exact LeakS.a hB3 hB4 | exact LeakS.b hB3 hB4 | exact LeakS.c hB3 hB4
    case rest =>
      obtain ⟨rfl, L, rfl, hL, hB⟩ := hcut
      have hs := Stay.below hB
      have HT3 := Lib.hid (HT2.out.below hB)
      have HG3 := Lib.hid (HG2.out.trans (grown_of_below hB (some m)))
      have Hb3 := Lib.hid (Hb2.out.stay hs)
      have Hp3 := Lib.hid (Hp2.out.stay hs)
      have HX3 := Lib.hid (HX2.out.stay hs)
      have HL3 := Lib.hid hL
      clear hs hB hL HT2 HG2 Hb2 Hp2 HX2 c0 c1 c2 c3 x0 x1 x2 x3 x4 HKS HC HR
      generalize hfo : fallOf l (hiOf l) f l.length = fo
      by_cases hdry : 0 ≤ fo
      · have HT : Hid (Tried m (n + callsT (k + 1)) wc) := Tried.mono HT3.out (by simp only [callsT]; omega)
        clear hfo
        go_wp2_with fail
        rw [Exit.noGoto_ret]
        go_ret2
        exact ⟨.inl rfl, HT.out, HG3.out⟩
      · have Hfo : Hid (fallOf l (hiOf l) f l.length < 0) := by show _ < _; omega
        clear hfo
        obtain ⟨c0, c1, c2, c3, Hcks⟩ := Hb3.out
        obtain ⟨va', vc', hv', hck⟩ := Hcks
        injection hv' with hv1 hv2 hv3
        subst hv1; subst hv2; subst hv3
        have Hck := Lib.hid hck
        clear hck
        clear c0 c1 c2 c3 Hck
        have HSt : Hid (∀ t, stepF l (hiOf l) f t = fun j => if j = t then fullOf l t else leakF (hiOf l) f l.length j) := fun t => rfl
        have Hlf := Lib.hid (levOk_leak Hy.out Hf.out)
        generalize leakF (hiOf l) f l.length = lf at *
        have HT4 : Hid (Tried m (n + 1 + 0 * callsT k) wc) := by show Tried _ _ _; rw [Nat.zero_mul]; exact HT3.out
        clear HT3
        obtain ⟨c0, c1, c2, c3, _⟩ := Hb3.out
        go_wp2_with fail
        go_step3
        go_wp2_with fail
        clear c0 c1 c2 c3
        go_loopg [47] l.length (fun g i wr => ∃ t : Nat, g + t = l.length ∧ i = .int .i64 t ∧ Boxes M (.slice va l.length vc) l bm bt by_ bo m wr ∧ MomAt wr X mo f ∧ LevAt wr L lf ∧ PlanAt wr (.slice pa p.length pc) p ∧ Tried m (n + 1 + t * callsT k) wr ∧ w.grownBy wr (some m))
        case atStart => exact ⟨0, rfl, rfl, Hb3.out, HX3.out, HL3.out, Hp3.out, HT4.out, HG3.out⟩
        case round =>
          clear Hb3 HX3 HL3 Hp3 HT4 HG3
          obtain ⟨t, hgt, rfl, hb, hX, hL, hp, hT, hG⟩ := hrel
          have Hgt := Lib.hid hgt
          by_cases hlt : t < l.length
          · have ht1 : (t : Int) < (l.length : Int) := by omega
            have ht0 : (0 : Int) ≤ (t : Int) := by omega
            have ht4 : (t : Int) < 4 := by omega
            obtain ⟨c0, c1, c2, c3, hcks⟩ := hb
            obtain ⟨b', off', hbo, hck⟩ : ∃ b' off', va = some ⟨b', off', none⟩ ∧ CkAt wr b' (off' + t * 5) l[t] := by
              obtain ⟨a', c', hv', hm'⟩ := hcks
              injection hv' with hv' _ _
              obtain ⟨b', off', hbo, hc⟩ := hm' t l[t] (List.getElem?_eq_getElem hlt)
              exact ⟨b', off', hv'.trans hbo, hc⟩
            obtain ⟨_, d1, _⟩ := hck
            rw [← fullOf_get hlt] at d1
            have Hb := Lib.hid (show Boxes M (.slice va l.length vc) l bm bt by_ bo m wr from ⟨c0, c1, c2, c3, hcks⟩)
            have HX := Lib.hid hX
            have HL := Lib.hid hL
            have Hp := Lib.hid hp
            have HT := Lib.hid hT
            have HG := Lib.hid hG
            obtain ⟨x0, x1, x2, x3, x4⟩ := hX
            obtain ⟨q0, q1, q2, q3⟩ := hL
            subst hbo
            have hw1 : IntKind.i64.wrap (mo + 1) = mo + 1 := IntWalk.i64_in _ (by omega)
            clear hp hT hG hcks hgt
            go_upto_region 14 with fail
            have HM4 := Lib.hid (show MomAt (wr.alloc (.cells #[.int .i64 (mo + 1), .int .i64 (lf 0), .int .i64 (lf 1), .int .i64 (lf 2), .int .i64 (lf 3)] 136)) wr.heap.size (mo + 1) lf by unfold MomAt; exact ⟨by go_simp, by go_simp, by go_simp, by go_simp, by go_simp⟩)
            have hB4 := below_alloc (w := wr) (.cells #[.int .i64 (mo + 1), .int .i64 (lf 0), .int .i64 (lf 1), .int .i64 (lf 2), .int .i64 (lf 3)] 136)
            have hf4 : (wr.alloc (.cells #[.int .i64 (mo + 1), .int .i64 (lf 0), .int .i64 (lf 1), .int .i64 (lf 2), .int .i64 (lf 3)] 136)).frozen? ⟨wr.heap.size, 1 + t, none⟩ = false := by go_simp
            obtain ⟨W4, hW4⟩ : ∃ W, wr.alloc (.cells #[.int .i64 (mo + 1), .int .i64 (lf 0), .int .i64 (lf 1), .int .i64 (lf 2), .int .i64 (lf 3)] 136) = W := ⟨_, rfl⟩
            rw [hW4] at hB4 hf4 HM4 ⊢
            have hs4 := Stay.below hB4
            replace c2 := hs4 _ _ c2
            replace d1 := hs4 _ _ d1
            clear hW4 hs4 c0 c1 c3 x0 x1 x2 x3 x4 q0 q1 q2 q3
            obtain ⟨N1, hN1⟩ : ∃ N, wr.heap.size = N := ⟨_, rfl⟩
            have hN2 : wr.heap.size ≤ N1 := by omega
            rw [hN1] at hf4 HM4 ⊢
            have m1 := HM4.out.at (t := t) (by omega)
            have HM5 : Hid (MomAt (W4.setCell ⟨N1, 1 + t, none⟩ (.int .i64 (fullOf l t))) N1 (mo + 1) (stepF l (hiOf l) f t)) := by
              show MomAt _ _ _ _
              rw [HSt.out t]
              exact HM4.out.set (by omega) _
            have hB5 := hB4.setCell (p := ⟨N1, 1 + t, none⟩) hN2 (.int .i64 (fullOf l t))
            have HB5 := Lib.hid hB5
            have Hnf := Lib.hid (levOk_step Hy.out Hf.out hlt)
            have Hkp : Hid (∀ r, keepsP l (stepF l (hiOf l) f t) r → keepsP l f (t :: r)) := fun r h => ⟨hlt, Hfo.out, h⟩
            clear hB4 hB5 hN1 hN2
            go_upto_region 15 with fail
            generalize W4.setCell ⟨N1, 1 + t, none⟩ (.int .i64 (fullOf l t)) = W5 at *
            generalize stepF l (hiOf l) f t = nf at *
            have hs5 := Stay.below HB5.out
            have Hb5 := Lib.hid (Hb.out.stay hs5)
            have HX5 := Lib.hid (HX.out.stay hs5)
            have HL5 := Lib.hid (HL.out.stay hs5)
            have Hp5 := Lib.hid (Hp.out.stay hs5)
            have HT5 := Lib.hid (HT.out.below HB5.out)
            have HG5 := Lib.hid (HG.out.trans (grown_of_below HB5.out (some m)))
            clear hs5 HB5 Hb HX HL Hp HT HG HM4 c2 d1 hf4 m1
            obtain ⟨n0, n1, n2, n3, n4⟩ := HM5.out
            obtain ⟨q0, q1, q2, q3⟩ := HL5.out
            have heq := eq134 (nf 0) (nf 1) (nf 2) (nf 3) (lf 0) (lf 1) (lf 2) (lf 3) W5
            generalize ((nf 0 == lf 0) && (nf 1 == lf 1) && (nf 2 == lf 2) && (nf 3 == lf 3)) = q at heq
            go_cut [70] (fun s70 wx => s70 = .bool (q && decide (0 < (t : Int))) ∧ wx = W5)
            case first =>
              cases q with
              | true =>
                go_wp2_with fail
                go_meet
                case rel => exact ⟨by simp, rfl⟩
              | false =>
                go_wp2_with fail
                go_meet
                case rel => exact ⟨rfl, rfl⟩
            case rest =>
              obtain ⟨rfl, rfl⟩ := hcut
              clear heq
              generalize (q && decide (0 < (t : Int))) = y
              cases y with
              | true =>
                have HT6 : Hid (Tried m (n + 1 + (t + 1) * callsT k) wc) := Tried.mono HT5.out (by rw [Nat.add_mul]; omega)
                clear n0 n1 n2 n3 n4 q0 q1 q2 q3
                go_wp2_with fail
                go_roundg (l.length - t - 1)
                case measure => have := Hgt.out; omega
                case rel => exact ⟨t + 1, by have := Hgt.out; omega, by go_num, Hb5.out, HX5.out, HL5.out, Hp5.out, HT6.out, HG5.out⟩
              | false =>
                clear q0 q1 q2 q3
                have HKT : Hid (KT wc m bm bt by_ bo N1 (mo + 1) nf wc) := ⟨Hb5.out.2.2.2.1, n0, n1, n2, n3, n4, ⟨rfl, rfl, rfl, Nat.le_refl _, fun _ _ _ => rfl⟩⟩
                clear n0 n1 n2 n3 n4
                obtain ⟨i0, hi0, hz0, hz1, hz2⟩ := info_parts info3k
                go_upto_region 16 with fail
                have hsz := World.size_drew (w := wc)
                have hBx : Below wc.heap.size wc (wc.alloc (.cells #[.int .i64 (t : Int)] 3)).drew := (below_alloc _).drew
                have HBx := Lib.hid hBx
                have Hbound : Hid (n + 1 + t * callsT k + callsT k ≤ 1000000000) := by
                  show _ ≤ _
                  have := Nat.mul_le_mul_right (callsT k) (show t + 1 ≤ 4 by omega)
                  rw [Nat.add_mul] at this
                  simp only [callsT] at hn
                  omega
                rcases Hp5.out with ⟨hv, hp0⟩ | ⟨g, cap, hv, hcap, hpc⟩
                · injection hv with hv1 hv2 hv3
                  subst hv1
                  subst hv3
                  subst hp0
                  clear hBx
                  go_region_held3 (fun w' => w'.cell? ⟨bo, 0, none⟩ = some (onFn bm bt by_ bo) ∧ w'.cell? ⟨N1, 0, none⟩ = some (.int .i64 (mo + 1)) ∧ w'.cell? ⟨N1, 1, none⟩ = some (.int .i64 (nf 0)) ∧ w'.cell? ⟨N1, 2, none⟩ = some (.int .i64 (nf 1)) ∧ w'.cell? ⟨N1, 3, none⟩ = some (.int .i64 (nf 2)) ∧ w'.cell? ⟨N1, 4, none⟩ = some (.int .i64 (nf 3)) ∧ wc.grownBy w' (some m))
                    (first
                      | with_reducible exact HKT.out.drew
                      | with_reducible exact KT.drew (KT.below HKT.out (below_alloc _))
                      | with_reducible exact KT.below HKT.out hB7
                      | with_reducible exact KT.call (KT.below HKT.out hB7) hT7 hG8)
                    (first
                      | (refine step_append_grows (by rfl) _ _ _ (by rfl) 3 i0 _ 1 8 Try.underlying52 hi0 hz0 hz1 hz2 rfl (by omega) none 0 0 [] (by rfl) (by simp) (by rfl) (by simp) ⟨wc.heap.size, 0, none⟩ 1 1 [.int .i64 (t : Int)] (by rfl) (by rfl) (World.news_of_block (cs := #[.int .i64 (t : Int)]) (t := 3) (fr := (0, 0)) (heap_alloc_new wc _)) (by simp [Value.oneCell']) (by omega) (by unfold maxLen; omega) (by omega) ?_
                         intro v7 w7 hown7 hgrow7
                         obtain ⟨g7, c7, rfl⟩ := Joins.ownsRow_form hown7 (by simp)
                         have hB7 : Below wc.heap.size wc w7 := HBx.out.grown hgrow7 HBx.out.size (fun k hk => by cases hk)
                         have hT7 := HT5.out.below hB7)
                      | (go_at_call 89
                         refine (Hih.out nf ([] ++ [t]) _ (n + 1 + t * callsT k) w7 (Hb5.out.stay (Stay.below hB7)) hT7 ?_ ?_ Hnf.out ?_).mono ?_
                         · exact plan_of_own (by simp) (by exact hown7)
                         · simp at hp12 ⊢; omega
                         · exact Hbound.out
                         intro e w8 hpost8
                         obtain ⟨b8, pv8, rfl, hI8, hT8, hG8⟩ := hpost8.info))
                  have HI := Lib.hid hI8
                  have HG8 := Lib.hid ((HG5.out.trans (grown_of_below hB7 (some m))).trans hG8)
                  have hs8 := (Stay.below hB7).trans (Stay.grown hT7 hG8)
                  have Hs8 := Lib.hid hs8
                  have HT8 : Hid (Tried m (n + 1 + (t + 1) * callsT k) w8) := hT8.mono (by rw [Nat.add_mul]; omega)
                  clear hI8 hG8 hT8 hT7 hs8 hB7 hgrow7 hown7
                  cases b8 with
                  | true =>
                    have HT9 : Hid (Tried m (n + callsT (k + 1)) w8) := HT8.out.mono (by have := Hbound.out; simp only [callsT]; have := Nat.mul_le_mul_right (callsT k) (show t + 1 ≤ 4 by omega); omega)
                    go_wp2_with fail
                    rw [Exit.noGoto_ret]
                    go_ret2
                    rcases HI.out with ⟨h, _⟩ | ⟨_, r, h1, h2, h3⟩
                    · cases h
                    · exact ⟨.inr ⟨t :: r, pv8, by simp [h1], Hkp.out r h2, rfl, by simpa using h3⟩, HT9.out, HG8.out⟩
                  | false =>
                    have Hb8 := Lib.hid (Hb5.out.stay Hs8.out)
                    have HX8 := Lib.hid (HX5.out.stay Hs8.out)
                    have HL8 := Lib.hid (HL5.out.stay Hs8.out)
                    have Hp8 := Lib.hid (Hp5.out.stay Hs8.out)
                    go_wp2_with fail
                    go_roundg (l.length - t - 1)
                    case measure => have := Hgt.out; omega
                    case rel => exact ⟨t + 1, by have := Hgt.out; omega, by go_num, Hb8.out, HX8.out, HL8.out, Hp8.out, HT8.out, HG8.out⟩
                · injection hv with hv1 hv2 hv3
                  subst hv1
                  subst hv3
                  have hol : ∀ b, some (⟨g, 0, none⟩ : Addr) = some b → ∀ j u, (p.map fun n : Nat => Value.int .i64 (n : Int))[j]? = some u → (wc.alloc (.cells #[.int .i64 (t : Int)] 3)).drew.cell? (b.add j) = some u := by
                    intro b hb j u hu
                    injection hb with hb
                    subst hb
                    rw [List.getElem?_map, Option.map_eq_some_iff] at hu
                    obtain ⟨x, hx, rfl⟩ := hu
                    have := Stay.below hBx _ _ (hpc j x hx)
                    cases j with
                    | zero => simpa [Addr.add] using this
                    | succ j => simpa [Addr.add] using this
                  have Hol := Lib.hid hol
                  have hlo : (p.map fun n : Nat => Value.int .i64 (n : Int)).length = p.length * 1 := by simp
                  have Hlo := Lib.hid hlo
                  have hpc1 : (p.length : Int) ≤ (pc : Int) := by omega
                  clear hpc hol hBx hlo
                  go_region_held3 (fun w' => w'.cell? ⟨bo, 0, none⟩ = some (onFn bm bt by_ bo) ∧ w'.cell? ⟨N1, 0, none⟩ = some (.int .i64 (mo + 1)) ∧ w'.cell? ⟨N1, 1, none⟩ = some (.int .i64 (nf 0)) ∧ w'.cell? ⟨N1, 2, none⟩ = some (.int .i64 (nf 1)) ∧ w'.cell? ⟨N1, 3, none⟩ = some (.int .i64 (nf 2)) ∧ w'.cell? ⟨N1, 4, none⟩ = some (.int .i64 (nf 3)) ∧ wc.grownBy w' (some m))
                    (first
                      | with_reducible exact HKT.out.drew
                      | with_reducible exact KT.drew (KT.below HKT.out (below_alloc _))
                      | with_reducible exact KT.below HKT.out hB7
                      | with_reducible exact KT.call (KT.below HKT.out hB7) hT7 hG8)
                    (first
                      | (refine step_append_grows (by rfl) _ _ _ (by rfl) 3 i0 _ 1 8 Try.underlying52 hi0 hz0 hz1 hz2 rfl (by omega) (some ⟨g, 0, none⟩) p.length p.length (p.map fun n : Nat => Value.int .i64 (n : Int)) (by rfl) (by simp) Hlo.out Hol.out ⟨wc.heap.size, 0, none⟩ 1 1 [.int .i64 (t : Int)] (by rfl) (by rfl) (World.news_of_block (cs := #[.int .i64 (t : Int)]) (t := 3) (fr := (0, 0)) (heap_alloc_new wc _)) (by simp [Value.oneCell']) (by omega) (by unfold maxLen; omega) (by omega) ?_
                         intro v7 w7 hown7 hgrow7
                         obtain ⟨g7, c7, rfl⟩ := Joins.ownsRow_form hown7 (by simp)
                         have hB7 : Below wc.heap.size wc w7 := HBx.out.grown hgrow7 HBx.out.size (fun k hk => by cases hk)
                         have hT7 := HT5.out.below hB7)
                      | (go_at_call 89
                         refine (Hih.out nf (p ++ [t]) _ (n + 1 + t * callsT k) w7 (Hb5.out.stay (Stay.below hB7)) hT7 ?_ ?_ Hnf.out ?_).mono ?_
                         · exact plan_of_own (by simp) (by rw [List.map_append]; exact hown7)
                         · simp; omega
                         · exact Hbound.out
                         intro e w8 hpost8
                         obtain ⟨b8, pv8, rfl, hI8, hT8, hG8⟩ := hpost8.info))
                  have HI := Lib.hid hI8
                  have HG8 := Lib.hid ((HG5.out.trans (grown_of_below hB7 (some m))).trans hG8)
                  have hs8 := (Stay.below hB7).trans (Stay.grown hT7 hG8)
                  have Hs8 := Lib.hid hs8
                  have HT8 : Hid (Tried m (n + 1 + (t + 1) * callsT k) w8) := hT8.mono (by rw [Nat.add_mul]; omega)
                  clear hI8 hG8 hT8 hT7 hs8 hB7 hgrow7 hown7
                  cases b8 with
                  | true =>
                    have HT9 : Hid (Tried m (n + callsT (k + 1)) w8) := HT8.out.mono (by have := Hbound.out; simp only [callsT]; have := Nat.mul_le_mul_right (callsT k) (show t + 1 ≤ 4 by omega); omega)
                    go_wp2_with fail
                    rw [Exit.noGoto_ret]
                    go_ret2
                    rcases HI.out with ⟨h, _⟩ | ⟨_, r, h1, h2, h3⟩
                    · cases h
                    · exact ⟨.inr ⟨t :: r, pv8, by simp [h1], Hkp.out r h2, rfl, by simpa using h3⟩, HT9.out, HG8.out⟩
                  | false =>
                    have Hb8 := Lib.hid (Hb5.out.stay Hs8.out)
                    have HX8 := Lib.hid (HX5.out.stay Hs8.out)
                    have HL8 := Lib.hid (HL5.out.stay Hs8.out)
                    have Hp8 := Lib.hid (Hp5.out.stay Hs8.out)
                    go_wp2_with fail
                    go_roundg (l.length - t - 1)
                    case measure => have := Hgt.out; omega
                    case rel => exact ⟨t + 1, by have := Hgt.out; omega, by go_num, Hb8.out, HX8.out, HL8.out, Hp8.out, HT8.out, HG8.out⟩
          · obtain rfl : t = l.length := by omega
            obtain ⟨c0, c1, c2, c3, _⟩ := hb
            have HT9 : Hid (Tried m (n + callsT (k + 1)) wr) := hT.mono (by simp only [callsT]; have := Nat.mul_le_mul_right (callsT k) hl4; omega)
            have HG9 := Lib.hid hG
            clear hX hL hp hT hG
            go_wp2_with fail
            rw [Exit.noGoto_ret]
            go_ret2
            exact ⟨.inl rfl, HT9.out, HG9.out⟩

/-- The search, from any moment on. -/
theorem on89 (M : Int) (l : List Ck) (v : Value) (bm bt by_ bo m : Nat) (hM0 : 0 ≤ M) (hM12 : M ≤ 12) (hy : yardB l = true) : ∀ (k : Nat) (f : Nat → Int) (p : List Nat) (pv : Value) (n : Nat) (w : World), (k : Int) ≤ M → Boxes M v l bm bt by_ bo m w → Tried m n w → PlanAt w pv p → p.length + k ≤ 12 → LevOk f → n + callsT k ≤ 1000000000 →
    Calls Try.prog 89 #[.agg #[.int .i64 (M - k), .int .i64 (f 0), .int .i64 (f 1), .int .i64 (f 2), .int .i64 (f 3)], pv, .pointer (some ⟨bm, 0, none⟩), .pointer (some ⟨bt, 0, none⟩), .pointer (some ⟨by_, 0, none⟩), .pointer (some ⟨bo, 0, none⟩)] w (OnPost l f k p m n w)
  | 0, f, p, pv, n, w, _, hb, ht, hp, h12, _, _ => by
    rw [show M - ((0 : Nat) : Int) = M by omega]
    exact on_end M l f p pv v bm bt by_ bo m n w hb ht hp (by omega)
  | k + 1, f, p, pv, n, w, hk, hb, ht, hp, h12, hf, hn => by
    rw [show M - ((k + 1 : Nat) : Int) = M - k - 1 by omega]
    exact on_step M k l f p pv v bm bt by_ bo m n w hb ht hp h12 hM0 hM12 (by omega) hy hf hn (fun f p pv n w h1 h2 h3 h4 h5 h6 => on89 M l v bm bt by_ bo m hM0 hM12 hy k f p pv n w (by omega) h1 h2 h3 h4 h5 h6)
end

section
open Go.RowKit Go.Maps Plain
attribute [local go_sem] Oper.semAt_some

set_option maxRecDepth 100000 in
set_option maxHeartbeats 1600000 in
theorem keep_bad (v : Value) (l : List Ck) (M : Int) (w : World) (hl : CksAt w v l) (hlen : l.length ≤ 140737488351232) (hy : yardB l = false) :
    Calls Try.prog 39 #[v, .int .i64 M] w fun e w' => e = .returned (.tuple #[.slice none 0 0, .int .i64 61]) ∧ Below w.heap.size w w' := by
  have hB : Below w.heap.size w ((w.alloc (.cells #[v] 69)).alloc (.cells #[.int .i64 M] 3)) := (below_alloc _).alloc (by simp) _
  have Hl := Lib.hid (hl.below hB)
  have HB := Lib.hid hB
  have Hy := Lib.hid hy
  obtain ⟨va, vc, rfl, _⟩ := hl
  clear hB hy
  go_enter Try.func39, Try.ntmps39
  go_wp2_with fail
  refine (checkYard87 _ l _ Hl.out hlen Hy.out).mono ?_
  rintro e w1 ⟨rfl, hB1⟩
  have HB1 := Lib.hid (below_trans HB.out hB1)
  clear hB1
  go_wp2_with fail
  go_ret2
  exact ⟨rfl, HB1.out⟩

/-- What the search begins with: the function and the yard's box; all else as it was, but for the map. -/
abbrev KU (W0 : World) (m bm bt by_ bo : Nat) (v : Value) (w' : World) : Prop := w'.cell? ⟨bo, 0, none⟩ = some (onFn bm bt by_ bo) ∧ w'.cell? ⟨by_, 0, none⟩ = some v ∧ W0.grownBy w' (some m)
theorem KU.stay {W0 : World} {m bm bt by_ bo : Nat} {v : Value} {w' w2 : World} (h : KU W0 m bm bt by_ bo v w') (hs : Stay w' w2) (hG : w'.grownBy w2 (some m)) : KU W0 m bm bt by_ bo v w2 := ⟨hs _ _ h.1, hs _ _ h.2.1, h.2.2.trans hG⟩
theorem KU.below {W0 : World} {m bm bt by_ bo : Nat} {v : Value} {w' w2 : World} (h : KU W0 m bm bt by_ bo v w') (hB : Below w'.heap.size w' w2) : KU W0 m bm bt by_ bo v w2 := h.stay (Stay.below hB) (grown_of_below hB _)
theorem KU.drew {W0 : World} {m bm bt by_ bo : Nat} {v : Value} {w' : World} (h : KU W0 m bm bt by_ bo v w') : KU W0 m bm bt by_ bo v w'.drew := ⟨h.1, h.2.1, grown_drew h.2.2⟩

/-- What 'Keep' answers at a yard. -/
def KeepPost (l : List Ck) (M : Int) (w : World) (e : Ending) (w' : World) : Prop :=
  (e = .returned (.tuple #[.slice none 0 0, .int .i64 4]) ∨ ∃ (p : List Nat) (pv : Value), (p.length : Int) = M ∧ keepsP l (levelOf l) p ∧ e = .returned (.tuple #[pv, .int .i64 0]) ∧ PlanAt w' pv p) ∧ Below w.heap.size w w'

set_option maxRecDepth 100000 in
set_option maxHeartbeats 1600000 in
theorem keep_good (v : Value) (l : List Ck) (M : Int) (w : World) (hl : CksAt w v l) (hlen : l.length ≤ 140737488351232) (hy : yardB l = true) (hM0 : 0 ≤ M) (hM12 : M ≤ 12) :
    Calls Try.prog 39 #[v, .int .i64 M] w (KeepPost l M w) := by
  have hB : Below w.heap.size w ((w.alloc (.cells #[v] 69)).alloc (.cells #[.int .i64 M] 3)) := (below_alloc _).alloc (by simp) _
  have k0 : ((w.alloc (.cells #[v] 69)).alloc (.cells #[.int .i64 M] 3)).cell? ⟨w.heap.size, 0, none⟩ = some v := by go_simp
  have k1 : ((w.alloc (.cells #[v] 69)).alloc (.cells #[.int .i64 M] 3)).cell? ⟨w.heap.size + 1, 0, none⟩ = some (.int .i64 M) := by go_simp
  have HK := Lib.hid (And.intro k0 k1)
  have Hl := Lib.hid (hl.below hB)
  have HB := Lib.hid hB
  have Hy := Lib.hid hy
  have hw := within88 M 0 12
  rw [inB_mk ⟨hM0, hM12⟩] at hw
  have Hw := Lib.hid hw
  obtain ⟨va, vc, rfl, _⟩ := hl
  obtain ⟨k, rfl⟩ := Int.eq_ofNat_of_zero_le hM0
  have hl4 := (yard_len hy).2
  have hon : ∀ (bm bt by_ bo m : Nat) (w : World), Boxes k (.slice va l.length vc) l bm bt by_ bo m w → Tried m 0 w →
      Calls Try.prog 89 #[.agg #[.int .i64 0, .int .i64 (levelOf l 0), .int .i64 (levelOf l 1), .int .i64 (levelOf l 2), .int .i64 (levelOf l 3)], .slice none 0 0, .pointer (some ⟨bm, 0, none⟩), .pointer (some ⟨bt, 0, none⟩), .pointer (some ⟨by_, 0, none⟩), .pointer (some ⟨bo, 0, none⟩)] w (OnPost l (levelOf l) k [] m 0 w) := by
    intro bm bt by_ bo m w hb ht
    have h1 := on89 k l (.slice va l.length vc) bm bt by_ bo m hM0 hM12 hy k (levelOf l) [] (.slice none 0 0) 0 w (Int.le_refl _) hb ht (.inl ⟨rfl, rfl⟩) (by simp; omega) (levOk_begin hy) (by have := callsT_le k (by omega); omega)
    rw [show (k : Int) - ((k : Nat) : Int) = 0 by omega] at h1
    exact h1
  have Hon := Lib.hid hon
  clear hB hy k0 k1 hw hon
  have hmm := @run_makeMap Try.prog
  go_enter Try.func39, Try.ntmps39
  go_wp2_with fail
  refine (checkYard87 _ l _ Hl.out hlen Hy.out).mono ?_
  rintro e w1 ⟨rfl, hB1⟩
  have HB1 := Lib.hid (below_trans HB.out hB1)
  have hs := Stay.below hB1
  have k0 := hs _ _ HK.out.1
  have k1 := hs _ _ HK.out.2
  have Hl1 := Lib.hid (Hl.out.below hB1)
  have lk := World.block_lt_of_cell? w1 _ k1
  clear hB1 hs HK HB Hl
  go_wp2_with fail
  refine (Hw.out _).mono ?_
  rintro e w2 ⟨rfl, rfl⟩
  go_wp2_with fail
  have hs0 := HB1.out.size
  have hBW : Below w.heap.size w (((w1.alloc (.map #[] 0)).alloc (.cells #[.map (some w1.heap.size)] 132)).alloc (.cells #[onFn (w.heap.size + 1) (w1.heap.size + 1) w.heap.size (w1.heap.size + 1 + 1)] 133)) :=
    ((HB1.out.alloc hs0 _).alloc (by simp; omega) _).alloc (by simp; omega) _
  have hB3 : Below w1.heap.size w1 (((w1.alloc (.map #[] 0)).alloc (.cells #[.map (some w1.heap.size)] 132)).alloc (.cells #[onFn (w.heap.size + 1) (w1.heap.size + 1) w.heap.size (w1.heap.size + 1 + 1)] 133)) :=
    ((below_alloc _).alloc (by simp) _).alloc (by simp; omega) _
  have ht : Tried w1.heap.size 0 (((w1.alloc (.map #[] 0)).alloc (.cells #[.map (some w1.heap.size)] 132)).alloc (.cells #[onFn (w.heap.size + 1) (w1.heap.size + 1) w.heap.size (w1.heap.size + 1 + 1)] 133)) :=
    (Tried.below (W := w1.alloc (.map #[] 0)) ⟨_, World.ownsMap_made w1 Try.prog 136 (plainElem Try.prog 4)⟩ (below_alloc _)).below (below_alloc _)
  have b1 : (((w1.alloc (.map #[] 0)).alloc (.cells #[.map (some w1.heap.size)] 132)).alloc (.cells #[onFn (w.heap.size + 1) (w1.heap.size + 1) w.heap.size (w1.heap.size + 1 + 1)] 133)).cell? ⟨w1.heap.size + 1, 0, none⟩ = some (.map (some w1.heap.size)) := by go_simp
  have b3 : (((w1.alloc (.map #[] 0)).alloc (.cells #[.map (some w1.heap.size)] 132)).alloc (.cells #[onFn (w.heap.size + 1) (w1.heap.size + 1) w.heap.size (w1.heap.size + 1 + 1)] 133)).cell? ⟨w1.heap.size + 1 + 1, 0, none⟩ = some (onFn (w.heap.size + 1) (w1.heap.size + 1) w.heap.size (w1.heap.size + 1 + 1)) := by go_simp
  clear hmm
  obtain ⟨W2, hW2⟩ : ∃ W, ((w1.alloc (.map #[] 0)).alloc (.cells #[.map (some w1.heap.size)] 132)).alloc (.cells #[onFn (w.heap.size + 1) (w1.heap.size + 1) w.heap.size (w1.heap.size + 1 + 1)] 133) = W := ⟨_, rfl⟩
  rw [hW2] at hBW hB3 ht b1 b3 ⊢
  have hs3 := Stay.below hB3
  have Hb : Hid (Boxes k (.slice va l.length vc) l (w.heap.size + 1) (w1.heap.size + 1) w.heap.size (w1.heap.size + 1 + 1) w1.heap.size W2) := ⟨hs3 _ _ k1, b1, hs3 _ _ k0, b3, Hl1.out.stay hs3⟩
  have HT := Lib.hid ht
  have HBW := Lib.hid hBW
  clear hW2 hs3 hB3 ht hBW b1 b3 k0 k1 Hl1 HB1 lk
  generalize w1.heap.size = m at *
  generalize m + 1 = bt at *
  generalize bt + 1 = bo at *
  obtain ⟨bm, hbm⟩ : ∃ bm, w.heap.size + 1 = bm := ⟨_, rfl⟩
  rw [hbm] at Hb ⊢
  clear hbm
  obtain ⟨by_, hby⟩ : ∃ by_, w.heap.size = by_ := ⟨_, rfl⟩
  rw [hby] at Hb hs0 ⊢
  have Hby := Lib.hid hby
  clear hby
  obtain ⟨c0, c1, c2, c3, hck⟩ := Hb.out
  have HC := Lib.hid hck
  have HKU : Hid (KU W2 m bm bt by_ bo (.slice va l.length vc) W2) := ⟨c3, c2, ⟨rfl, rfl, rfl, Nat.le_refl _, fun _ _ _ => rfl⟩⟩
  clear hck c0 c1 c2 c3
  go_region_held3 (fun w' => w'.cell? ⟨bo, 0, none⟩ = some (onFn bm bt by_ bo) ∧ w'.cell? ⟨by_, 0, none⟩ = some (.slice va l.length vc) ∧ W2.grownBy w' (some m))
    (first
      | with_reducible exact HKU.out.drew
      | with_reducible exact KU.below HKU.out.drew hB3
      | with_reducible exact KU.stay (KU.below HKU.out.drew hB3) (Stay.grown hT3 hG4) hG4)
    (first
      | (go_at_call 92
         refine (begin92 (.slice va l.length vc) l _ (CksAt.below (w := W2) HC.out (Below.refl _ _).drew) hl4).mono ?_
         rintro e w3 ⟨rfl, hB3⟩
         have hT3 := Tried.below (W := W2.drew) HT.out hB3)
      | (go_at_call 89
         refine (Hon.out bm bt by_ bo m _ (Hb.out.stay (Stay.below (below_trans (Below.refl _ W2).drew hB3))) hT3).mono ?_
         intro e w4 hpost
         obtain ⟨b4, pv4, rfl, hI4, hT4, hG4⟩ := hpost.info))
  have HI := Lib.hid hI4
  have hGt := (grown_of_below (below_trans (Below.refl _ W2).drew hB3) (some m)).trans hG4
  have HF : Hid (Below w.heap.size w w4) := HBW.out.trans (below_of_grown hGt HBW.out.size (by rw [Hby.out]; exact hs0))
  clear hI4 hGt hT4 hG4 hT3 hB3
  cases b4 with
  | true =>
    go_wp2_with fail
    go_ret2
    rcases HI.out with ⟨h, _⟩ | ⟨_, r, h1, h2, h3⟩
    · cases h
    · exact ⟨.inr ⟨r, pv4, by rw [h1], h2, rfl, by simpa using h3⟩, HF.out⟩
  | false =>
    go_wp2_with fail
    go_ret2
    exact ⟨.inl rfl, HF.out⟩
end

end Go.Proofs.Ythpllmefbhjmmaa
