/-
  barrel.Run, walked, and the plain laws on what leaks, on lowest lines, and on the strictest rule.
-/
import Derived.Test.YthpllmefbhjmmaaKeepAll
import Derived.Test.YthpllmefbhjmmaaFirstYard
import Derived.Test.YthpllmefbhjmmaaRuled
import Derived.Test.YthpllmefbhjmmaaSides
import Derived.Test.YthpllmefbhjmmaaTopGradedLaw
import Derived.Deep.AppendLies
import Derived.Deep.DeepCutAuto
import Derived.BigQuiet
namespace Go.Proofs.Ythpllmefbhjmmaa
section
open Go.RowKit Go.Maps Plain
attribute [local go_sem] Oper.semAt_some

/-- Rows of leaks: R rows of C numbers. -/
def LeaksAt (W : World) (v : Value) (R C : Nat) (x : Nat → Nat → Int) : Prop :=
  ∃ va vc, v = .slice va R vc ∧ ∀ m, m < R → ∃ g h c, va = some ⟨g, 0, none⟩ ∧ W.cell? ⟨g, m, none⟩ = some (.slice (some ⟨h, 0, none⟩) C c) ∧ ∀ i, i < C → W.cell? ⟨h, i, none⟩ = some (.int .i64 (x m i))
theorem LeaksAt.stay {W W' : World} {v : Value} {R C : Nat} {x : Nat → Nat → Int} (h : LeaksAt W v R C x) (hs : Stay W W') : LeaksAt W' v R C x := by
  obtain ⟨va, vc, hv, hm⟩ := h
  refine ⟨va, vc, hv, fun m hR => ?_⟩
  obtain ⟨g, h, c, h1, h2, h3⟩ := hm m hR
  exact ⟨g, h, c, h1, hs _ _ h2, fun i hi => hs _ _ (h3 i hi)⟩
theorem PlanAt.get {W : World} {v : Value} {p : List Nat} (h : PlanAt W v p) : ∃ pa pc, v = .slice pa p.length pc ∧ ∀ i n, p[i]? = some n → ∃ g, pa = some ⟨g, 0, none⟩ ∧ W.cell? ⟨g, i, none⟩ = some (.int .i64 (n : Nat)) := by
  rcases h with ⟨rfl, rfl⟩ | ⟨g, cap, rfl, _, hc⟩
  · exact ⟨none, 0, rfl, fun i n hi => by simp at hi⟩
  · exact ⟨_, cap, rfl, fun i n hi => ⟨g, rfl, hc i n hi⟩⟩

set_option maxRecDepth 100000 in
set_option maxHeartbeats 800000 in
theorem run93 (m k P R C : Nat) (v : Value) (x : Nat → Nat → Int) (w : World) (hl : LeaksAt w v R C x) (hm : m < R) (hk : k < C) (hp : w.cell? ⟨P, 0, none⟩ = some v) :
    Calls Try.prog 93 #[.int .i64 m, .int .i64 k, .pointer (some ⟨P, 0, none⟩)] w fun e w' => e = .returned (.int .i64 (x m k)) ∧ w = w' := by
  obtain ⟨va, vc, rfl, hr⟩ := hl
  obtain ⟨g, h, c, rfl, c1, c2⟩ := hr m hm
  have c3 := c2 k hk
  have hm1 : (m : Int) < (R : Int) := by omega
  have hm0 : (0 : Int) ≤ (m : Int) := by omega
  have hk1 : (k : Int) < (C : Int) := by omega
  have hk0 : (0 : Int) ≤ (k : Int) := by omega
  clear hr c2
  go_enter Try.func93, Try.ntmps93
  go_wp2_with fail
  go_ret
  exact ⟨rfl, rfl⟩

/-- What 'Run' answers: the levels behind the plan, in new memory; no barrel is dry. -/
def RunPost (l : List Ck) (F : Nat → Int) (w : World) (e : Ending) (w' : World) : Prop :=
  ∃ g cap : Nat, e = .returned (.tuple #[.slice (some ⟨g, 0, none⟩) l.length cap, .int .i64 (-1), .int .i64 0]) ∧ (∀ j, j < l.length → w'.cell? ⟨g, j, none⟩ = some (.int .i64 (F j))) ∧ Below w.heap.size w w'

/-- The levels as a row. -/
def levRow (F : Nat → Int) (n : Nat) : List Value := (List.range n).map fun j => .int .i64 (F j)
theorem levRow_length (F : Nat → Int) (n : Nat) : (levRow F n).length = n := by simp [levRow]
theorem levRow_get {F : Nat → Int} {n j : Nat} (h : j < n) : (levRow F n)[j]? = some (.int .i64 (F j)) := by simp [levRow, h]
theorem levRow_one (F : Nat → Int) (n : Nat) : ∀ u ∈ levRow F n, u.oneCell' = true := by
  intro u hu
  simp only [levRow, List.mem_map] at hu
  obtain ⟨j, _, rfl⟩ := hu
  rfl
theorem levRow_at {W : World} {L : Nat} {F : Nat → Int} (h : FourAt W L F) {n : Nat} (hn : n ≤ 4) : ∀ j u, (levRow F n)[j]? = some u → W.cell? ((⟨L, 0, none⟩ : Addr).add j) = some u := by
  intro j u hu
  have hj : j < n := by
    have := (List.getElem?_eq_some_iff.1 hu).1
    rwa [levRow_length] at this
  rw [levRow_get hj] at hu
  injection hu with hu
  subst hu
  have := (h j (by omega)).1
  cases j with
  | zero => simpa [Addr.add] using this
  | succ j => simpa [Addr.add] using this

theorem run_step_is {l : List Ck} {x : Nat → Nat → Int} {f : Nat → Int} {p : List Nat} {j t : Nat} (h : p[j]? = some t) : runF l x f p (j + 1) = fun i => if i = t then fullOf l t else leakF (x j) (runF l x f p j) l.length i := by
  show stepF l (x j) _ (p.getD j 0) = _
  rw [List.getD_eq_getElem?_getD, h]
  rfl
end

section
open Go.RowKit Go.Maps Plain
attribute [local go_sem] Oper.semAt_some

set_option maxHeartbeats 800000 in
theorem mod_nat (n b : Nat) (w : World) (hn : n ≤ 1000) (h1 : 1 ≤ b) (h2 : b ≤ 140737488351232) :
    Calls Try.prog 33 #[.int .i64 n, .int .i64 b] w fun e w' => e = .returned (.int .i64 ((n % b : Nat) : Int)) ∧ w = w' := by
  have hx : (n : Int).tmod b = ((n % b : Nat) : Int) := by rw [Int.tmod_eq_emod_of_nonneg (by omega)]; rfl
  have hw : IntKind.i64.wrap ((n : Int).tmod b) = ((n % b : Nat) : Int) := by
    rw [hx]
    have := Nat.mod_le n b
    exact IntWalk.i64_in _ (by omega)
  have hb : ¬ (b : Int) = 0 := by omega
  generalize hq : ((n % b : Nat) : Int) = q at *
  have h0 : 0 ≤ q := by omega
  have h3 : decide (q < 0) = false := by simp; omega
  have hq2 : (n : Int) % (b : Int) = q := by rw [← hq]; rfl
  clear hq
  go_enter Try.func33, Try.ntmps33
  go_wp2_with fail
  go_ret
  exact ⟨rfl, rfl⟩

/-- The number that a number chooses of a list; 0: the list is empty. -/
def pickI (l : List Int) (n : Nat) : Int := if l = [] then 0 else l.getD (n % l.length) 0
theorem pickI_fits {l : List Int} (h : ∀ x ∈ l, -9223372036854775808 ≤ x ∧ x ≤ 9223372036854775807) (n : Nat) : -9223372036854775808 ≤ pickI l n ∧ pickI l n ≤ 9223372036854775807 := by
  unfold pickI
  split
  · omega
  · rw [List.getD_eq_getElem?_getD]
    cases hg : l[n % l.length]? with
    | none => exact ⟨by decide, by decide⟩
    | some x => exact h x (List.mem_of_getElem? hg)
set_option maxHeartbeats 800000 in
theorem pick41 (v : Value) (l : List Int) (n : Nat) (w : World) (hl : IntsAt w v l) (hlen : l.length ≤ 140737488351232) (hn : n ≤ 1000) :
    Calls Try.prog 41 #[v, .int .i64 n] w fun e w' => e = .returned (.int .i64 (pickI l n)) ∧ w' = w := by
  obtain ⟨a, cap, rfl, hm⟩ := hl
  by_cases h0 : l = []
  · subst h0
    go_enter Try.func41, Try.ntmps41
    go_wp2_with fail
    go_ret
    exact ⟨rfl, rfl⟩
  · have hp : 0 < l.length := List.length_pos_iff.2 h0
    have hlt : n % l.length < l.length := Nat.mod_lt _ hp
    obtain ⟨b, off, rfl, hc⟩ := hm (n % l.length) l[n % l.length] (List.getElem?_eq_getElem hlt)
    have hres : pickI l n = l[n % l.length] := by unfold pickI; rw [if_neg h0, List.getD_eq_getElem?_getD, List.getElem?_eq_getElem hlt]; rfl
    have Hmod := Lib.hid (fun W => mod_nat n l.length W hn (by omega) hlen)
    have hne : ((l.length : Int) == 0) = false := beq_eq_false_iff_ne.2 (by omega)
    have Hres := Lib.hid hres
    have hi1 : ((n % l.length : Nat) : Int) < (l.length : Int) := by omega
    have hi0 : (0 : Int) ≤ ((n % l.length : Nat) : Int) := by omega
    clear hres hm
    generalize l[n % l.length] = y at *
    generalize n % l.length = q at *
    go_enter Try.func41, Try.ntmps41
    go_wp2_with fail
    refine (Hmod.out _).mono ?_
    rintro e w2 ⟨rfl, rfl⟩
    go_wp2_with fail
    go_ret
    exact ⟨by rw [Hres.out]; rfl, rfl⟩

/-- A number between two, as a number chooses it. -/
def chosenI (lo hi n : Int) : Int := if hi ≤ lo then lo else lo + n % (hi - lo + 1)
theorem chosenI_in {lo hi n : Int} (h : lo ≤ hi) : lo ≤ chosenI lo hi n ∧ chosenI lo hi n ≤ hi := by
  unfold chosenI
  split
  · omega
  · have := Int.emod_nonneg n (show hi - lo + 1 ≠ 0 by omega)
    have := Int.emod_lt_of_pos n (show 0 < hi - lo + 1 by omega)
    omega
set_option maxHeartbeats 800000 in
theorem chosen40 (lo hi n : Int) (w : World) (h0 : 0 ≤ lo) (_ : lo ≤ hi) (h2 : hi ≤ 1000) (n0 : -9223372036854775808 ≤ n) (n1 : n ≤ 9223372036854775807) :
    Calls Try.prog 40 #[.int .i64 lo, .int .i64 hi, .int .i64 n] w fun e w' => e = .returned (.int .i64 (chosenI lo hi n)) ∧ w' = w := by
  by_cases h : hi ≤ lo
  · have hr : chosenI lo hi n = lo := by unfold chosenI; rw [if_pos h]
    have Hr := Lib.hid hr
    clear hr
    go_enter Try.func40, Try.ntmps40
    go_wp2_with fail
    go_ret
    exact ⟨by rw [Hr.out]; rfl, rfl⟩
  · have hr : chosenI lo hi n = lo + n % (hi - lo + 1) := by unfold chosenI; rw [if_neg h]
    have Hr := Lib.hid hr
    have Hmod := Lib.hid (fun W => mod_is n (hi - lo + 1) W n0 n1 (by omega) (by omega))
    have m0 := Int.emod_nonneg n (show hi - lo + 1 ≠ 0 by omega)
    have m1 := Int.emod_lt_of_pos n (show 0 < hi - lo + 1 by omega)
    have hlt : decide (hi - lo + 1 < 1) = false := by simp; omega
    clear hr
    generalize n % (hi - lo + 1) = q at *
    go_enter Try.func40, Try.ntmps40
    go_wp2_with fail
    refine (Hmod.out _).mono ?_
    rintro e w2 ⟨rfl, rfl⟩
    go_wp2_with fail
    go_ret
    exact ⟨by rw [Hr.out]; rfl, rfl⟩
end

section
open Go.RowKit Go.Maps Plain

/-- What leaks, as numbers choose it. -/
def xOf (l : List Ck) (bits : List Int) (m j : Nat) : Int := match l[j]? with
  | some c => chosenI c.lo c.hi (pickI bits (5 * m + j))
  | none => 0
theorem xOf_get {l : List Ck} {bits : List Int} {m j : Nat} (h : j < l.length) : xOf l bits m j = chosenI l[j].lo l[j].hi (pickI bits (5 * m + j)) := by unfold xOf; rw [List.getElem?_eq_getElem h]
theorem xOf_in {l : List Ck} (hy : yardB l = true) (bits : List Int) : ∀ m j (h : j < l.length), l[j].lo ≤ xOf l bits m j ∧ xOf l bits m j ≤ l[j].hi := fun m j h => by
  rw [xOf_get h]
  exact chosenI_in (ck_bounds hy h).2.2.2.2.2.2.1

/-- The lowest line of the first k barrels; without months the lowest level. -/
def lineTo (l : List Ck) (M : Int) (G : Nat → Int) : Nat → Int
  | 0 => 1000
  | k + 1 => min (lineTo l M G k) (if 0 < M then lineOf l k else G k)
theorem lineTo_le (l : List Ck) (M : Int) (G : Nat → Int) : ∀ k j, j < k → lineTo l M G k ≤ if 0 < M then lineOf l j else G j
  | 0, j, h => by omega
  | k + 1, j, h => by
    show min _ _ ≤ _
    by_cases e : j = k
    · subst e; exact Int.min_le_right _ _
    · exact Int.le_trans (Int.min_le_left _ _) (lineTo_le l M G k j (by omega))
theorem lineTo_range {l : List Ck} {M : Int} {G : Nat → Int} (h0 : ∀ j, j < l.length → 0 ≤ lineOf l j) (h1 : ∀ j, j < l.length → 0 ≤ G j) : ∀ k, k ≤ l.length → 0 ≤ lineTo l M G k ∧ lineTo l M G k ≤ 1000
  | 0, _ => ⟨(by decide : (0 : Int) ≤ 1000), Int.le_refl _⟩
  | k + 1, hk => by
    obtain ⟨a, b⟩ := lineTo_range h0 h1 (M := M) k (by omega)
    have c0 := h0 k (by omega)
    have c1 := h1 k (by omega)
    show 0 ≤ min _ _ ∧ min _ _ ≤ 1000
    split <;> omega
/-- All levels stand at the lowest line or above. -/
theorem line_below {l : List Ck} (hy : yardB l = true) (x : Nat → Nat → Int) {p : List Nat} {M : Int} (hM : (p.length : Int) = M) (hp : keepsP l (levelOf l) p) (hx : ∀ m j, j < l.length → x m j ≤ hiOf l j) {j : Nat} (hj : j < l.length) :
    lineTo l M (runF l x (levelOf l) p p.length) l.length ≤ runF l x (levelOf l) p p.length j := by
  have h1 := lineTo_le l M (runF l x (levelOf l) p p.length) l.length j hj
  by_cases hm : 0 < M
  · rw [if_pos hm] at h1
    have := run_above hy x hp hx (by omega) hj
    omega
  · rw [if_neg hm] at h1; exact h1

/-- A barrel of which the salt alone is told; the brand that asks for so much salt, and for nothing else. -/
abbrev sBar (g : Int) : Br := ⟨0, 0, g, 0⟩
abbrev sMark (g : Int) : Mk := ⟨⟨0, 0⟩, ⟨0, 0⟩, ⟨g, 1000⟩, ⟨0, 0⟩⟩
/-- The strictest rule. -/
abbrev strictR : Rl := ⟨0, 1, 1, 1, 0, 1⟩
theorem sMark_ok {g : Int} (h0 : 0 ≤ g) (h1 : g ≤ 1000) : markB (sMark g) = true ∧ marksB [sMark g] = true := by
  have h : markB (sMark g) = true := by
    have e : spanB ⟨g, 1000⟩ = true := by unfold spanB; simp; omega
    show (spanB ⟨0, 0⟩ && spanB ⟨0, 0⟩ && spanB ⟨g, 1000⟩ && spanB ⟨0, 0⟩) = true
    rw [e]; decide
  refine ⟨h, ?_⟩
  unfold marksB
  rw [List.all_cons, h]; rfl
theorem sBar_ok {g : Int} (h0 : 0 ≤ g) (h1 : g ≤ 1000) : barB (sBar g) = true := by
  show (inB 0 0 1000 && inB 0 0 1000 && inB g 0 1000 && inB 0 0 1000) = true
  rw [inB_mk ⟨h0, h1⟩]; decide
theorem sBar_reach {line g : Int} (h0 : 0 ≤ line) (h1 : line ≤ 1000) (h2 : line ≤ g) (h3 : g ≤ 1000) : belowB (sMark line) (sBar g) = false := by
  rw [below_reach (sMark_ok h0 h1).1]
  show (!(inB 0 0 0 && inB 0 0 0 && inB g line 1000 && inB 0 0 0)) = false
  rw [inB_mk ⟨h2, h3⟩]; decide
theorem sBar_below {line : Int} (h0 : 0 ≤ line) (h1 : line ≤ 1000) : belowB (sMark line) (sBar (line - 1)) = true := by
  rw [below_reach (sMark_ok h0 h1).1]
  show (!(inB 0 0 0 && inB 0 0 0 && inB (line - 1) line 1000 && inB 0 0 0)) = true
  rw [inB_no (n := line - 1) (lo := line) (hi := 1000) (by omega)]; decide

theorem strict_ok {n : Nat} (hn : 1 ≤ n) : ruleB n strictR = true := by
  show (decide ((0 : Int) ≤ 0) && decide ((0 : Int) < 1) && decide ((1 : Int) ≤ (n : Int)) && oddsB 1 1 && oddsB 0 1) = true
  rw [decide_eq_true (show (1 : Int) ≤ (n : Int) by omega)]; decide
/-- By the strictest rule nothing is allowed. -/
theorem strict_allow {n al : Nat} (hn : 1 ≤ n) (h : keepsB n strictR n al = true) : al = 0 := by
  refine Classical.byContradiction fun hne => ?_
  have h1 : keepsAt n strictR n al ((1 : Nat) : Int) = true := List.all_eq_true.1 h 1 (List.mem_range.2 (by omega))
  unfold keepsAt at h1
  rw [fnd_full n ((1 : Nat) : Int) al (by omega) (by omega) (by omega), if_pos (by omega)] at h1
  simp at h1
theorem strict_promise {m : Mk} {n : Nat} {xs : List Br} (hm : marksB [m] = true) (hn : 1 ≤ n) (hn2 : n ≤ 40) (hl : xs.length = n) (hb : ∀ x ∈ xs, barB x = true) (hbel : ∀ x ∈ xs, belowB m x = false) :
    promiseR [m] n strictR xs = (0, 0, 0) := by
  obtain ⟨al, _, h2, _, h4⟩ := promise_first (m := m) (ms := []) (n := n) (r := strictR) hm hn hn2 (strict_ok hn) (by omega) hb hbel (by rw [hl]; exact some_keeps (strict_ok hn))
  rw [hl] at h2
  obtain rfl := strict_allow hn h2
  exact h4
theorem strict_none {m : Mk} {n : Nat} {xs : List Br} {y : Br} (hm : marksB [m] = true) (hn : 1 ≤ n) (hn2 : n + 1 ≤ 40) (hl : xs.length = n) (hb : ∀ x ∈ xs, barB x = true) (hy : barB y = true) (hbel : belowB m y = true) :
    promiseR [m] ((n + 1 : Nat) : Int) strictR (xs ++ [y]) = (0, 0, 4) := by
  have hlen : (xs ++ [y]).length = n + 1 := by simp [hl]
  have hok : okOpened ((n + 1 : Nat) : Int) (xs ++ [y]) = true := by
    unfold okOpened
    rw [Bool.and_eq_true, decide_eq_true_iff]
    refine ⟨by rw [hlen]; exact Int.le_refl _, List.all_eq_true.2 fun x hx => ?_⟩
    rcases List.mem_append.1 hx with hx | hx
    · exact hb x hx
    · rw [List.mem_singleton.1 hx]; exact hy
  have hal : allowFold ((n + 1 : Nat) : Int) strictR (xs ++ [y]).length (rows (((n + 1 : Nat) : Int).toNat + 1)) = allowFold ((n + 1 : Nat) : Int) strictR (xs ++ [y]).length (rowTo (xs ++ [y]).length ((xs ++ [y]).length + 1)) := by rw [allow_row (by rw [hlen]; omega), row_is]
  have hle : allowFold ((n + 1 : Nat) : Int) strictR (xs ++ [y]).length (rows (((n + 1 : Nat) : Int).toNat + 1)) ≤ 0 := by
    rw [hal]
    rcases allow_to (N := ((n + 1 : Nat) : Int)) (r := strictR) (n := (xs ++ [y]).length) ((xs ++ [y]).length + 1) with ⟨e1, _⟩ | ⟨al, _, a2, a3, _⟩
    · rw [e1]; decide
    · rw [a2]
      rw [hlen] at a3
      have := strict_allow (n := n + 1) (by omega) a3
      omega
  have hpos : 1 ≤ belowOf m (xs ++ [y]) := by
    unfold belowOf
    rw [List.filter_append, List.length_append, List.filter_cons, hbel]
    simp
  unfold promiseR
  rw [hm, if_pos rfl, inB_mk ⟨by omega, by omega⟩, if_pos rfl, strict_ok (by omega), if_pos rfl, hok, if_pos rfl]
  unfold promised
  rw [List.findIdx?_cons, decide_eq_false (by omega)]
  rfl
/-- The barrels that stand for levels. -/
def sBars (G : Nat → Int) (n : Nat) : List Br := (List.range n).map fun j => sBar (G j)
theorem sBars_length (G : Nat → Int) (n : Nat) : (sBars G n).length = n := by simp [sBars]
theorem sBars_succ (G : Nat → Int) (n : Nat) : sBars G (n + 1) = sBars G n ++ [sBar (G n)] := by simp [sBars, List.range_succ]
theorem sBars_mem {G : Nat → Int} {n : Nat} {y : Br} (h : y ∈ sBars G n) : ∃ j, j < n ∧ y = sBar (G j) := by
  simp only [sBars, List.mem_map, List.mem_range] at h
  obtain ⟨j, hj, rfl⟩ := h
  exact ⟨j, hj, rfl⟩
end

section
open Go.RowKit Go.Maps Plain

/-- m rows of leaks: a row of rows of the call's own. -/
def LkS (B C : Nat) (x : Nat → Nat → Int) (v : Value) (m : Nat) (W : World) : Prop :=
  ∃ vs : List Value, W.ownsRow B 52 1 v m vs ∧ ∀ i, i < m → ∃ h c : Nat, vs[i]? = some (.slice (some ⟨h, 0, none⟩) C c) ∧ v.ownBlock ≠ some h ∧ ∀ j, j < C → W.cell? ⟨h, j, none⟩ = some (.int .i64 (x i j))
theorem LkS.start (W : World) (C : Nat) (x : Nat → Nat → Int) : LkS W.heap.size C x (.slice none 0 0) 0 W := ⟨[], ⟨rfl, .inl ⟨rfl, rfl⟩⟩, fun i hi => by omega⟩
theorem LkS.below {B C m : Nat} {x : Nat → Nat → Int} {v : Value} {W W' : World} (h : LkS B C x v m W) (hB : Below W.heap.size W W') : LkS B C x v m W' := by
  obtain ⟨vs, h1, h2⟩ := h
  refine ⟨vs, h1.kept (grown_of_below hB none) (Classical.em _), fun i hi => ?_⟩
  obtain ⟨g, c, a, b, d⟩ := h2 i hi
  exact ⟨g, c, a, b, fun j hj => Stay.below hB _ _ (d j hj)⟩
/-- A row more. -/
theorem LkS.push {B C m : Nat} {x : Nat → Nat → Int} {v : Value} {W W0 W' : World} {vs : List Value} (hC : 0 < C) (hown : W.ownsRow B 52 1 v m vs) (hrows : ∀ i, i < m → ∃ h c : Nat, vs[i]? = some (.slice (some ⟨h, 0, none⟩) C c) ∧ v.ownBlock ≠ some h ∧ ∀ j, j < C → W.cell? ⟨h, j, none⟩ = some (.int .i64 (x i j)))
    {h c : Nat} (hne : v.ownBlock ≠ some h) (hrow : ∀ j, j < C → W.cell? ⟨h, j, none⟩ = some (.int .i64 (x m j))) (hW0 : Below W.heap.size W W0) {H g cap : Nat} (hH : W0.heap.size = H)
    (hown' : W'.ownsRow B 52 1 (.slice (some ⟨g, 0, none⟩) (m + 1) cap) (m + 1) (vs ++ [.slice (some ⟨h, 0, none⟩) C c])) (hG : W0.grownBy W' v.ownBlock) (hat : v.ownBlock = some g ∨ g = H) : LkS B C x (.slice (some ⟨g, 0, none⟩) (m + 1) cap) (m + 1) W' := by
  have key : ∀ (k : Nat) (y : Nat → Int), v.ownBlock ≠ some k → (∀ j, j < C → W.cell? ⟨k, j, none⟩ = some (.int .i64 (y j))) → (Value.slice (some ⟨g, 0, none⟩) (m + 1) cap).ownBlock ≠ some k ∧ ∀ j, j < C → W'.cell? ⟨k, j, none⟩ = some (.int .i64 (y j)) := by
    intro k y hk hc
    have hlt : k < W.heap.size := World.block_lt_of_cell? W _ (hc 0 hC)
    refine ⟨fun e => ?_, fun j hj => hG.cell (Stay.below hW0 _ _ (hc j hj)) (fun e => hk e.symm)⟩
    simp only [Value.ownBlock, Option.some.injEq] at e
    subst e
    rcases hat with h | h
    · exact hk h
    · have := hW0.size; omega
  have hvl : vs.length = m := by have := hown.1; omega
  refine ⟨_, hown', fun i hi => ?_⟩
  by_cases e : i = m
  · subst e
    obtain ⟨k1, k2⟩ := key h (x i) hne hrow
    exact ⟨h, c, by rw [List.getElem?_append_right (by omega), hvl]; simp, k1, k2⟩
  · obtain ⟨k, c', r1, r2, r3⟩ := hrows i (by omega)
    obtain ⟨k1, k2⟩ := key k (x i) r2 r3
    exact ⟨k, c', by rw [List.getElem?_append_left (by omega)]; exact r1, k1, k2⟩
/-- The rows of leaks, as 'Run' reads them. -/
theorem LkS.leaks {B C m : Nat} {x : Nat → Nat → Int} {v : Value} {W : World} (h : LkS B C x v m W) : LeaksAt W v m C x := by
  obtain ⟨vs, hown, hr⟩ := h
  rcases hown.2 with ⟨rfl, rfl⟩ | ⟨g, cap, cur, rfl, _⟩
  · exact ⟨none, 0, rfl, fun i hi => by omega⟩
  · refine ⟨_, cap, rfl, fun i hi => ?_⟩
    obtain ⟨h, c, h1, _, h3⟩ := hr i hi
    have hlen : vs.length = m := by have := hown.1; omega
    refine ⟨g, h, c, rfl, ?_, h3⟩
    rw [hown.cellAt i (by omega)]
    exact h1
theorem info52 : (Try.prog.info? 52).map (fun i => (i.zero, i.size, i.bytes)) = some (some (.slice none 0 0), 1, 24) := by kernel_rfl
theorem info3p : (Try.prog.info? 3).map (fun i => (i.zero, i.size, i.bytes)) = some (some (.int .i64 0), 1, 8) := by kernel_rfl
theorem info24p : (Try.prog.info? 24).map (fun i => (i.zero, i.size, i.bytes)) = some (some (.agg #[.int .i64 0, .int .i64 0, .int .i64 0, .int .i64 0]), 4, 32) := by kernel_rfl
theorem levRow_succ (F : Nat → Int) (n : Nat) : levRow F (n + 1) = levRow F n ++ [.int .i64 (F n)] := by simp [levRow, List.range_succ]
end

section
open Go.RowKit Go.Maps Plain
attribute [local go_sem] Oper.semAt_some

theorem info3r : (Try.prog.info? 3).map (fun i => (i.zero, i.size, i.bytes)) = some (some (.int .i64 0), 1, 8) := by kernel_rfl
theorem own_nil3 (W : World) : (W.alloc (.cells #[] 3)).ownsRow W.heap.size 3 1 (.slice (some ⟨W.heap.size, 0, none⟩) 0 0) 0 [] :=
  ⟨rfl, .inr ⟨W.heap.size, 0, #[], rfl, Nat.le_refl _, heap_alloc_new W _, Nat.le_refl _, by unfold maxLen; omega, rfl, rfl⟩⟩
theorem lev_new (W : World) (f : Nat → Int) : FourAt (W.alloc (.cells #[.int .i64 (f 0), .int .i64 (f 1), .int .i64 (f 2), .int .i64 (f 3)] 134)) W.heap.size f := by
  intro j hj
  rcases (by omega : j = 0 ∨ j = 1 ∨ j = 2 ∨ j = 3) with rfl | rfl | rfl | rfl <;> exact ⟨by go_simp, by go_simp⟩

set_option maxRecDepth 100000 in
set_option maxHeartbeats 6400000 in
theorem run42 (v pv lv : Value) (l : List Ck) (p : List Nat) (x : Nat → Nat → Int) (w : World) (hl : CksAt w v l) (hy : yardB l = true) (hp : PlanAt w pv p) (hp12 : p.length ≤ 12) (hk : keepsP l (levelOf l) p) (hlv : LeaksAt w lv p.length l.length x)
    (hx : ∀ m j (h : j < l.length), l[j].lo ≤ x m j ∧ x m j ≤ l[j].hi) :
    Calls Try.prog 42 #[v, pv, lv] w (RunPost l (runF l x (levelOf l) p p.length) w) := by
  obtain ⟨n1, n4⟩ := yard_len hy
  have hxh : ∀ m j, j < l.length → x m j ≤ hiOf l j := fun m j h => by rw [hiOf_get h]; exact (hx m j h).2
  have hx0 : ∀ m j, j < l.length → 0 ≤ x m j := fun m j h => by have := (hx m j h).1; have := ck_bounds hy h; omega
  have hwi := within_run hy (x := x) (f := levelOf l) p hx0 (within_begin hy)
  have hho := fun (k : Nat) (h : k < p.length) => run_holds x hk hxh h
  have hat := keeps_at l p _ hk
  have hB0 := below_alloc (w := w) (.cells #[lv] 71)
  have hs0 := Stay.below hB0
  have HB0 := Lib.hid hB0
  have Hl := Lib.hid (hl.stay hs0)
  have Hp := Lib.hid (hp.stay hs0)
  have Hlv := Lib.hid (hlv.stay hs0)
  have Hy := Lib.hid hy
  have Hx := Lib.hid hx
  have Hxh := Lib.hid hxh
  have Hwi := Lib.hid hwi
  have Hho := Lib.hid hho
  have Hat := Lib.hid hat
  have hbox : (w.alloc (.cells #[lv] 71)).cell? ⟨w.heap.size, 0, none⟩ = some lv := by go_simp
  have Hbox := Lib.hid hbox
  obtain ⟨va, vc, rfl, _⟩ := hl
  obtain ⟨pa, pc, rfl, _⟩ := hp.get
  obtain ⟨ra, rc, rfl, _⟩ := hlv
  clear hB0 hs0 hp hy hx hxh hx0 hwi hho hat hbox hk
  go_enter Try.func42, Try.ntmps42
  go_wp2_with fail
  refine (checkYard87 _ l _ Hl.out (by omega) Hy.out).mono ?_
  rintro e w1 ⟨rfl, hB1⟩
  have hs1 := Stay.below hB1
  have HB1 := Lib.hid (below_trans HB0.out hB1)
  have Hl1 := Lib.hid (Hl.out.stay hs1)
  have Hp1 := Lib.hid (Hp.out.stay hs1)
  have Hlv1 := Lib.hid (Hlv.out.stay hs1)
  have hbx := hs1 _ _ Hbox.out
  have Hbox1 := Lib.hid hbx
  have hP := World.block_lt_of_cell? w1 _ hbx
  clear hB1 hs1 Hl Hp Hlv Hbox HB0
  go_upto_region 5 with fail
  clear hbx
  go_wp2_with fail
  go_loopw [10, 11] (fun q i wr => ∃ j : Nat, j ≤ p.length ∧ i = .int .i64 j ∧ q = .bool true ∧ Below w1.heap.size w1 wr) (fun _ i _ => p.length - (intOf i).toNat)
  case atStart => exact ⟨0, by omega, rfl, rfl, Below.refl _ _⟩
  case round =>
    obtain ⟨j, hj, rfl, rfl, hB⟩ := hrel
    by_cases hlt : j < p.length
    · have hj1 : (j : Int) < (p.length : Int) := by omega
      have hj0 : (0 : Int) ≤ (j : Int) := by omega
      have hs := Stay.below hB
      obtain ⟨t, ht⟩ : ∃ t, p[j]? = some t := ⟨_, List.getElem?_eq_getElem hlt⟩
      obtain ⟨g, rfl, c0⟩ : ∃ g, pa = some ⟨g, 0, none⟩ ∧ wr.cell? ⟨g, j, none⟩ = some (.int .i64 (t : Nat)) := by
        obtain ⟨pa', pc', hv, hm⟩ := (Hp1.out.stay hs).get
        injection hv with hv _ _
        obtain ⟨g, hg, hc⟩ := hm j t ht
        exact ⟨g, hv.trans hg, hc⟩
      obtain ⟨g2, h2, c2, rfl, r0, r1⟩ : ∃ g h c, ra = some ⟨g, 0, none⟩ ∧ wr.cell? ⟨g, j, none⟩ = some (.slice (some ⟨h, 0, none⟩) l.length c) ∧ ∀ i, i < l.length → wr.cell? ⟨h, i, none⟩ = some (.int .i64 (x j i)) := by
        obtain ⟨va', vc', hv, hm⟩ := Hlv1.out.stay hs
        injection hv with hv _ _
        obtain ⟨g, h, c, h1, h2, h3⟩ := hm j hlt
        exact ⟨g, h, c, hv.trans h1, h2, h3⟩
      have b0 := hs _ _ Hbox1.out
      have htl : t < l.length := by
        have := (Hat.out j hlt).1
        rw [List.getD_eq_getElem?_getD, ht] at this
        exact this
      have hw := within88 t (-1) (l.length - 1)
      rw [inB_mk ⟨by omega, by omega⟩] at hw
      have Hw := Lib.hid hw
      have R1 := Lib.hid r1
      have HB := Lib.hid hB
      clear hw r1 hs hB ht
      go_wp2_with fail
      refine (Hw.out _).mono ?_
      rintro e w2 ⟨rfl, rfl⟩
      go_wp2_with fail
      obtain ⟨wo, rfl⟩ : ∃ wo : World, wo = wr := ⟨_, rfl⟩
      clear c0
      go_loopw [10, 12] (fun q i wq => ∃ k : Nat, k ≤ l.length ∧ i = .int .i64 k ∧ q = .bool true ∧ Below wo.heap.size wo wq) (fun _ i _ => l.length - (intOf i).toNat)
      case atStart => exact ⟨0, by omega, rfl, rfl, Below.refl _ _⟩
      case round =>
        obtain ⟨k, hk, rfl, rfl, hBq⟩ := hrel
        have hsq := Stay.below hBq
        have HBq := Lib.hid (below_trans HB.out hBq)
        have HBo := Lib.hid hBq
        by_cases hlt2 : k < l.length
        · have hk1 : (k : Int) < (l.length : Int) := by omega
          have hk0 : (0 : Int) ≤ (k : Int) := by omega
          obtain ⟨b', off', rfl, hck⟩ : ∃ b' off', va = some ⟨b', off', none⟩ ∧ CkAt wr b' (off' + k * 5) l[k] := by
            obtain ⟨a', c', hv', hm'⟩ := Hl1.out.stay (Stay.below HBq.out)
            injection hv' with hv' _ _
            obtain ⟨b', off', hbo, hc⟩ := hm' k l[k] (List.getElem?_eq_getElem hlt2)
            exact ⟨b', off', hv'.trans hbo, hc⟩
          obtain ⟨_, _, _, d3, d4⟩ := hck
          have e0 := hsq _ _ (R1.out k hlt2)
          have b1 := hsq _ _ b0
          have r1 := hsq _ _ r0
          clear b0 r0 hsq hBq
          have hxx := Hx.out j k hlt2
          have hw2 := fun W => within88 (x j k) l[k].lo l[k].hi W
          rw [inB_mk hxx] at hw2
          have Hw2 := Lib.hid hw2
          generalize l[k].lo = lo at *
          generalize l[k].hi = hi at *
          generalize x j k = xx at *
          clear hw2 hxx
          go_wp2_with fail
          go_quiet ((go_at_call 88; exact Calls.quiet_of_same ((Hw2.out _).mono fun e w' ⟨he, hw⟩ => ⟨he, hw.symm⟩)))
          go_wp2_with fail
          have HBn := Lib.hid (below_drewN HBo.out nq)
          go_wp2_with fail
          go_roundw
          case rel => exact ⟨k + 1, by omega, by go_num, rfl, HBn.out⟩
          case measure => simp [intOf]; omega
        · obtain rfl : k = l.length := by omega
          clear r0 b0 hsq hBq
          go_wp2_with fail
          go_roundw
          case rel => exact ⟨j + 1, by omega, by go_num, rfl, HBq.out⟩
          case measure => simp [intOf]; omega
    · obtain rfl : j = p.length := by omega
      have hs := Stay.below hB
      have Hl2 := Lib.hid (Hl1.out.stay hs)
      have Hp2 := Lib.hid (Hp1.out.stay hs)
      have Hlv2 := Lib.hid (Hlv1.out.stay hs)
      have Hbox2 := Lib.hid (hs _ _ Hbox1.out)
      have HBw := Lib.hid (below_trans HB1.out hB)
      clear hs hB Hl1 Hp1 Hlv1 Hbox1 HB1
      go_wp2_with fail
      refine (begin92 _ l _ Hl2.out n4).mono ?_
      rintro e w3 ⟨rfl, hB3⟩
      have hs := Stay.below hB3
      have Hl3 := Lib.hid (Hl2.out.stay hs)
      have Hp3 := Lib.hid (Hp2.out.stay hs)
      have Hlv3 := Lib.hid (Hlv2.out.stay hs)
      have Hbox3 := Lib.hid (hs _ _ Hbox2.out)
      have HB3 := Lib.hid (below_trans HBw.out hB3)
      have HF := Lib.hid (lev_new w3 (levelOf l))
      have HA := Lib.hid (below_alloc (w := w3) (.cells #[.int .i64 (levelOf l 0), .int .i64 (levelOf l 1), .int .i64 (levelOf l 2), .int .i64 (levelOf l 3)] 134))
      clear hs hB3 Hl2 Hp2 Hlv2 Hbox2 HBw
      obtain ⟨i0, hi0, hz0, hz1, hz2⟩ := info_parts info3r
      go_wp2_with fail
      generalize w3.alloc (.cells #[.int .i64 (levelOf l 0), .int .i64 (levelOf l 1), .int .i64 (levelOf l 2), .int .i64 (levelOf l 3)] 134) = w4 at *
      obtain ⟨L, hL⟩ : ∃ L, w3.heap.size = L := ⟨_, rfl⟩
      rw [hL] at HF ⊢
      have HL := Lib.hid hL
      clear hL
      go_loopw [94] (fun i wr => ∃ j : Nat, j ≤ p.length ∧ i = .int .i64 j ∧ FourAt wr L (runF l x (levelOf l) p j) ∧ Below w3.heap.size w3 wr) (fun i _ => p.length - (intOf i).toNat)
      case atStart => exact ⟨0, by omega, rfl, HF.out, HA.out⟩
      case round =>
        obtain ⟨j, hj, rfl, hF, hB⟩ := hrel
        clear HF HA
        by_cases hlt : j < p.length
        · have hj1 : (j : Int) < (p.length : Int) := by omega
          have hj0 : (0 : Int) ≤ (j : Int) := by omega
          have hs := Stay.below hB
          obtain ⟨t, ht⟩ : ∃ t, p[j]? = some t := ⟨_, List.getElem?_eq_getElem hlt⟩
          obtain ⟨g, rfl, c0⟩ : ∃ g, pa = some ⟨g, 0, none⟩ ∧ wr.cell? ⟨g, j, none⟩ = some (.int .i64 (t : Nat)) := by
            obtain ⟨pa', pc', hv, hm⟩ := (Hp3.out.stay hs).get
            injection hv with hv _ _
            obtain ⟨g, hg, hc⟩ := hm j t ht
            exact ⟨g, hv.trans hg, hc⟩
          have htl : t < l.length := by
            have := (Hat.out j hlt).1
            rw [List.getD_eq_getElem?_getD, ht] at this
            exact this
          have Hnext := Lib.hid (run_step_is (l := l) (x := x) (f := levelOf l) ht)
          have Hfall := Lib.hid (Hho.out j hlt)
          have hr : ∀ k, k < l.length → -4611686018427387904 ≤ runF l x (levelOf l) p j k - x j k ∧ runF l x (levelOf l) p j k - x j k ≤ 4611686018427387904 := fun k hk => by
            have h1 := Hwi.out j k hk
            have h2 := Hx.out j k hk
            have h3 := ck_bounds Hy.out hk
            omega
          have Hr := Lib.hid hr
          generalize runF l x (levelOf l) p j = fj at *
          have Hlw := Lib.hid (Hl3.out.stay hs)
          have hcall : ∀ (k : Nat) (W : World), k < l.length → Below wr.heap.size wr W → Calls Try.prog 93 #[.int .i64 (j : Int), .int .i64 k, .pointer (some ⟨w.heap.size, 0, none⟩)] W fun e w' => e = .returned (.int .i64 (x j k)) ∧ W = w' := fun k W hk hBW =>
            run93 j k w.heap.size p.length l.length _ x W (Hlv3.out.stay (hs.trans (Stay.below hBW))) hlt hk (Stay.below hBW _ _ (hs _ _ Hbox3.out))
          have Hcall := Lib.hid hcall
          have HF := Lib.hid hF
          have HB := Lib.hid hB
          obtain ⟨⟨q0, q1, q2, q3⟩, _, _⟩ := hF.four
          have ht1 : (t : Int) < (l.length : Int) := by omega
          have ht0 : (0 : Int) ≤ (t : Int) := by omega
          have ht4 : (t : Int) < 4 := by omega
          clear hs hr hcall hF hB ht
          go_wp2_with fail
          refine (leaked_93 _ l j (x j) fj w.heap.size _ Hlw.out n4 Hcall.out Hr.out).mono ?_
          rintro e w5 ⟨rfl, hB5⟩
          rw [Hfall.out]
          have HF5 := Lib.hid (HF.out.below hB5)
          obtain ⟨⟨u0, u1, u2, u3⟩, ⟨v0, v1, v2, v3⟩, _⟩ := HF5.out.four
          have HB5 := Lib.hid (below_trans HB.out hB5)
          clear hB5 q0 q1 q2 q3 c0 HF HB Hlw
          go_upto_region 21 with fail
          have HF6 := Lib.hid (HF5.out.set4 (leakF (x j) fj l.length))
          have hLL : w3.heap.size ≤ L := by have := HL.out; omega
          have HB6 := Lib.hid ((((HB5.out.setCell (p := ⟨L, 0, none⟩) hLL (.int .i64 (leakF (x j) fj l.length 0))).setCell (p := ⟨L, 1, none⟩) hLL (.int .i64 (leakF (x j) fj l.length 1))).setCell (p := ⟨L, 2, none⟩) hLL (.int .i64 (leakF (x j) fj l.length 2))).setCell (p := ⟨L, 3, none⟩) hLL (.int .i64 (leakF (x j) fj l.length 3)))
          clear u0 u1 u2 u3 v0 v1 v2 v3 HF5 HB5
          generalize (((w5.setCell ⟨L, 0, none⟩ (.int .i64 (leakF (x j) fj l.length 0))).setCell ⟨L, 1, none⟩ (.int .i64 (leakF (x j) fj l.length 1))).setCell ⟨L, 2, none⟩ (.int .i64 (leakF (x j) fj l.length 2))).setCell ⟨L, 3, none⟩ (.int .i64 (leakF (x j) fj l.length 3)) = w6 at *
          obtain ⟨b', off', rfl, hck⟩ : ∃ b' off', va = some ⟨b', off', none⟩ ∧ CkAt w6 b' (off' + t * 5) l[t] := by
            obtain ⟨a', c', hv', hm'⟩ := Hl3.out.stay (Stay.below HB6.out)
            injection hv' with hv' _ _
            obtain ⟨b', off', hbo, hc⟩ := hm' t l[t] (List.getElem?_eq_getElem htl)
            exact ⟨b', off', hv'.trans hbo, hc⟩
          obtain ⟨_, d1, _⟩ := hck
          rw [← fullOf_get htl] at d1
          obtain ⟨m0, m1⟩ := HF6.out t (by omega)
          have HF7 := Lib.hid (HF6.out.set t (fullOf l t))
          have HB7 := Lib.hid (HB6.out.setCell (p := ⟨L, t, none⟩) hLL (.int .i64 (fullOf l t)))
          clear hLL
          go_wp2_with fail
          go_roundw
          case rel => exact ⟨j + 1, by omega, by go_num, by rw [Hnext.out]; exact HF7.out, HB7.out⟩
          case measure => simp [intOf]; omega
        · obtain rfl : j = p.length := by omega
          have NN := own_nil3 wr
          have HFa := hF.below (below_alloc (w := wr) (.cells #[] 3))
          have hcl : (levRow (runF l x (levelOf l) p p.length) l.length).length = l.length * 1 := by rw [levRow_length, Nat.mul_one]
          have HK := Lib.hid (levRow_at HFa n4)
          have Hco := Lib.hid (levRow_one (runF l x (levelOf l) p p.length) l.length)
          have HBr := Lib.hid (below_trans HB3.out hB)
          have hn4 : (l.length : Int) ≤ 4 := by omega
          have Hcl := Lib.hid hcl
          clear hcl HFa hF hB
          generalize hFF : runF l x (levelOf l) p p.length = F at *
          clear hFF
          go_wp2_with (at_builtin; refine wpList_append_lies _ rfl _ _ 52 rfl wr.heap.size 3 i0 _ 1 8 Try.underlying52 hi0 hz0 hz1 hz2 rfl (by omega) _ 0 [] rfl NN ⟨L, 0, none⟩ l.length l.length (levRow F l.length) rfl Hcl.out HK.out Hco.out (by omega) (by unfold maxLen; omega) (by omega) (by simp) _ rfl ?_)
          intro gg cap1 w7 hown hgrow hat hlt7
          have hb7 := below_row' (HBr.out.alloc HBr.out.size _) NN HBr.out.size hgrow
          have hres : ∀ j, j < l.length → w7.cell? ⟨gg, j, none⟩ = some (.int .i64 (F j)) := fun j hj => by
            rw [hown.cellAt j (by omega)]; exact levRow_get hj
          have Hres := Lib.hid hres
          have Hb7 := Lib.hid hb7
          clear NN hown hgrow hat hb7 hres
          go_wp2_with fail
          refine bodyPost_ret (v := .tuple #[.slice (some ⟨gg, 0, none⟩) l.length cap1, .int .i64 (-1), .int .i64 0]) (by simp [results, Try.results42, go_sem]) rfl ⟨gg, cap1, rfl, Hres.out, Hb7.out⟩
end

end Go.Proofs.Ythpllmefbhjmmaa
