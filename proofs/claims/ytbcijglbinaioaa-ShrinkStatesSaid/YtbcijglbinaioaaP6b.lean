/- ShrinkStates: the checks of a circuit. -/
import Derived.Test.YtbcijglbinaioaaP6a
set_option linter.unusedVariables false
set_option linter.unusedSimpArgs false
set_option linter.unusedSectionVars false
set_option linter.unnecessarySimpa false
namespace Go.Proofs.Ytbcijglbinaioaa.Ev.Pure6
open Go.Proofs.Ytbcijglbinaioaa.Ev

theorem any1 (p : Nat → Bool) : anyN 1 p = p 0 := by simp [anyN, List.range_succ]

theorem r00 : R64 ((0 : Int), (0 : Int)).1 ∧ R64 ((0 : Int), (0 : Int)).2 := ⟨r0, r0⟩

theorem bif_some {α : Type} (b : Bool) (x y : α) : (bif b then some x else some y) = some (bif b then x else y) := by cases b <;> rfl

/-- What the checks answer. -/
def sz (i : Int) (la g : List (Int × Int)) : Int := i + la.length + g.length
def chk (i : Int) (la g : List (Int × Int)) (ba co : List Int) : Int :=
  bif decide (i < 0) then 8
  else bif decide (1000 < i) || (decide (1000 < sz i la g) || (decide (100 < (ba.length : Int)) || decide (100 < (co.length : Int)))) then 4
  else bif (anyN ba.length fun j => badLit (sz i la g) (ba.getD j 0)) || (anyN co.length fun j => badLit (sz i la g) (co.getD j 0)) then 8
  else bif (anyN la.length fun j => badLatch (sz i la g) (la.getD j (0, 0))) then 8
  else bif (anyN g.length fun j => badGate (i + la.length + j) (g.getD j (0, 0))) then 8
  else 0

theorem F60_eq' (i : Int) (la g : List (Int × Int)) (ba co : List Int) (h0 : 0 ≤ i) (h : i ≤ 1000) (h1 : la.length ≤ 200) (h2 : g.length ≤ 200) : F60 ((i, (la, (g, (ba, (co, ()))))), ()) = some (sz i la g) := by
  show G60 KF i la g ba co = _
  unfold G60 sz
  rw [w64 (n := i + ((la.length : Nat) : Int)) (by omega) (by omega), w64 (by omega) (by omega)]

theorem F52_spec {i : Int} {la g : List (Int × Int)} {ba co : List Int} (H : Rng i la g ba co) : F52 ((i, (la, (g, (ba, (co, ()))))), ()) = some (chk i la g ba co) := by
  show G52 KF i la g ba co = _
  have hk := KFbig
  revert hk
  generalize KF = n
  intro hk
  unfold G52 chk
  have n1 := H.nla
  have n2 := H.ng
  by_cases c0 : i < 0
  · simp [c0]
  by_cases c1 : (1000 : Int) < i
  · simp [c0, c1]
  rw [F60_eq' i la g ba co (by omega) (by omega) H.nla H.ng]
  by_cases c2 : (1000 : Int) < sz i la g
  · simp [c0, c1, c2]
  by_cases c3 : (100 : Int) < ba.length
  · simp [c0, c1, c2, c3]
  by_cases c4 : (100 : Int) < co.length
  · simp [c0, c1, c2, c3, c4]
  simp only [gt_iff_lt, c0, c1, c2, c3, c4, decide_false, cond_false, Option.bind_some, Bool.false_or]
  rw [F101_spec ba _ (by have := H.nba; omega) H.hba, F101_spec co _ (by have := H.nco; omega) H.hco]
  simp only [Option.bind_some, Bool.not_not]
  cases hb : (anyN ba.length fun j => badLit (sz i la g) (ba.getD j 0)) with
  | true => simp
  | false =>
  cases hc : (anyN co.length fun j => badLit (sz i la g) (co.getD j 0)) with
  | true => simp
  | false =>
  simp only [cond_false, Option.bind_some, Bool.false_or]
  generalize hs : sz i la g = s
  have hst : ∀ {R : Type} (k1 : Int → Int → (List (Int × Int)) → (List (Int × Int)) → (List Int) → (List Int) → Option R) (k2 : Int → (List (Int × Int)) → (List (Int × Int)) → (List Int) → (List Int) → Option R) (k j : Nat), j < la.length → (∀ j', j' < j → badLatch s (la.getD j' (0, 0)) = false) → l52_0 n k1 k2 (k + 1) s ((j : Nat) : Int) i la g ba co = bif badLatch s (la.getD j (0, 0)) then k1 8 i la g ba co else l52_0 n k1 k2 k s ((j + 1 : Nat) : Int) i la g ba co := by
    intro R k1 k2 k j hj _
    have hx := getD_mem (d := ((0 : Int), (0 : Int))) H.hla r00 j
    show F52_0 n _ _ _ s _ i la g ba co = _
    unfold F52_0
    rw [ltT hj, idx_nat la j (0, 0) hj, wS hj (by omega)]
    revert hx
    generalize la.getD j (0, 0) = x
    intro hx
    simp only [cond_true, Option.bind_some]
    rw [F101_spec [x.1] s (by simp) (by simpa using hx.1)]
    simp only [List.length_singleton, any1, List.getD_cons_zero, Option.bind_some, Bool.not_not, badLatch]
    cases badLit s x.1 <;> cases h1 : decide (x.2 < 0) <;> cases h2 : decide (2 < x.2) <;> simp_all
  have hst2 : ∀ {R : Type} (k1 : Int → Option R) (k2 : Option R) (k j : Nat), j < g.length → (∀ j', j' < j → badGate (i + la.length + (j' : Nat)) (g.getD j' (0, 0)) = false) → l52_2 n k1 k2 (k + 1) ((j : Nat) : Int) i la g ba co = bif badGate (i + la.length + (j : Nat)) (g.getD j (0, 0)) then k1 8 else l52_2 n k1 k2 k ((j + 1 : Nat) : Int) i la g ba co := by
    intro R k1 k2 k j hj _
    have hx := getD_mem (d := ((0 : Int), (0 : Int))) H.hg r00 j
    show F52_2 n _ _ _ _ i la g ba co = _
    unfold F52_2
    rw [ltT hj, idx_nat g j (0, 0) hj, wS hj (by omega)]
    revert hx
    generalize g.getD j (0, 0) = x
    intro hx
    simp only [cond_true, Option.bind_some]
    rw [w64 (n := i + ((la.length : Nat) : Int)) (by omega) (by omega), w64 (n := i + ((la.length : Nat) : Int) + ((j : Nat) : Int)) (by omega) (by omega)]
    unfold badGate
    by_cases h1 : x.2 < 0
    · simp [h1]
    by_cases h2 : x.1 < x.2
    · simp [h1, h2]
    rw [td2 (by omega), w64 (by omega) (by have := hx.1.2; omega)]
    simp only [h1, h2, decide_false, cond_false, Option.bind_some, Bool.false_or, gt_iff_lt]
  have e2 : ∀ {R : Type} (k1 : Int → Option R) (k2 : Option R), l52_2 n k1 k2 n ((0 : Nat) : Int) i la g ba co = bif (anyN g.length fun j => badGate (i + la.length + (j : Nat)) (g.getD j (0, 0))) then k1 8 else k2 := by
    intro R k1 k2
    rcases scan g.length (fun k j => l52_2 n k1 k2 k ((j : Nat) : Int) i la g ba co) _ (fun _ => k1 8) k2 (hst2 k1 k2)
      (fun k => by show F52_2 n _ _ _ _ i la g ba co = _; unfold F52_2; rw [ltF]; rfl) g.length n 0 (by omega) (by omega) (fun j hj => absurd hj (by omega)) with ⟨h1, j, h2⟩ | ⟨h1, h2⟩
    · rw [h1]; exact h2
    · rw [h1]; exact h2
  have e1 : ∀ {R : Type} (k1 : Int → Int → (List (Int × Int)) → (List (Int × Int)) → (List Int) → (List Int) → Option R) (k2 : Int → (List (Int × Int)) → (List (Int × Int)) → (List Int) → (List Int) → Option R), l52_0 n k1 k2 n s ((0 : Nat) : Int) i la g ba co = bif (anyN la.length fun j => badLatch s (la.getD j (0, 0))) then k1 8 i la g ba co else k2 i la g ba co := by
    intro R k1 k2
    rcases scan la.length (fun k j => l52_0 n k1 k2 k s ((j : Nat) : Int) i la g ba co) _ (fun _ => k1 8 i la g ba co) (k2 i la g ba co) (hst k1 k2)
      (fun k => by show F52_0 n _ _ _ s _ i la g ba co = _; unfold F52_0; rw [ltF]; rfl) la.length n 0 (by omega) (by omega) (fun j hj => absurd hj (by omega)) with ⟨h1, j, h2⟩ | ⟨h1, h2⟩
    · rw [h1]; exact h2
    · rw [h1]; exact h2
  refine (e1 _ _).trans ?_
  cases (anyN la.length fun j => badLatch s (la.getD j (0, 0))) with
  | true => rfl
  | false =>
    refine (e2 _ _).trans ?_
    cases (anyN g.length fun j => badGate (i + la.length + (j : Nat)) (g.getD j (0, 0))) <;> rfl

/-! ### gates.Check -/
theorem F117_spec (x c0 c1 c2 c3 : Int) (hx : R64 x) : F117 (x, ((c0, (c1, (c2, (c3, ())))), ())) = some (badLit (c3 - 1) x) := by
  show G117 KF x c0 c1 c2 c3 = _
  unfold G117 badLit
  rw [fd2]
  by_cases h : x < 0
  · simp [h]
  · simp only [h, decide_false, cond_false, Option.bind_some, Bool.false_or]
    congr 1
    rw [decide_eq_decide]
    omega

theorem F82_spec (l : List Int) (c0 c1 c2 c3 : Int) (hl : l.length ≤ 2000) (hr : ∀ x ∈ l, R64 x) : F82 (l, (((c0, (c1, (c2, (c3, ())))), ()), ())) = some (anyN l.length fun j => badLit (c3 - 1) (l.getD j 0)) := by
  show (G125 KF l c0 c1 c2 c3).bind _ = _
  have hk := KFbig
  revert hk
  generalize KF = n
  intro hk
  unfold G125
  have hst : ∀ k i, i < l.length → (∀ j, j < i → badLit (c3 - 1) (l.getD j 0) = false) → l125_0 n (fun v2 => some v2) (some (@Neg.neg Int Int.instNegInt (1 : Int))) (k + 1) l c0 c1 c2 c3 (((l.length : Nat) : Int)) ((i : Nat) : Int) = bif badLit (c3 - 1) (l.getD i 0) then some (i : Int) else l125_0 n (fun v2 => some v2) (some (@Neg.neg Int Int.instNegInt (1 : Int))) k l c0 c1 c2 c3 (((l.length : Nat) : Int)) ((i + 1 : Nat) : Int) := by
    intro k i hi _
    have hx := getD_mem (d := 0) hr r0 i
    show F125_0 n _ _ _ l c0 c1 c2 c3 _ _ = _
    unfold F125_0
    rw [ltT hi, idx_nat l i 0 hi, wS hi hl]
    simp only [cond_true, Option.bind_some]
    rw [F117_spec _ _ _ _ _ hx]
    rfl
  rcases scan l.length (fun k i => l125_0 n (fun v2 => some v2) (some (@Neg.neg Int Int.instNegInt (1 : Int))) k l c0 c1 c2 c3 (((l.length : Nat) : Int)) ((i : Nat) : Int)) _ (fun j => some (j : Int)) (some (-1)) hst
    (fun k => by show F125_0 n _ _ _ l c0 c1 c2 c3 _ _ = _; unfold F125_0; rw [ltF]; rfl) l.length n 0 (by omega) (by omega) (fun j hj => absurd hj (by omega)) with ⟨h1, j, h2⟩ | ⟨h1, h2⟩
  · rw [h1]
    refine (congrArg (fun o : Option Int => o.bind _) h2).trans ?_
    simp
  · rw [h1]
    exact congrArg (fun o : Option Int => o.bind _) h2

theorem F118_spec (x : Int × Int) (c0 c1 c2 c3 : Int) (hx : R64 x.1) : F118 ((x.1, (x.2, ())), ((((c0, (c1, (c2, (c3, ())))), ()), ()), ())) = some (badLatch (c3 - 1) x) := by
  show G118 KF x.1 x.2 c0 c1 c2 c3 = _
  unfold G118 badLatch
  rw [F117_spec _ _ _ _ _ hx]
  cases badLit (c3 - 1) x.1 <;> cases h1 : decide (x.2 < 0) <;> cases h2 : decide (2 < x.2) <;> simp_all

theorem F119_spec (l : List (Int × Int)) (c0 c1 c2 c3 : Int) (hl : l.length ≤ 2000) (hr : ∀ x ∈ l, R64 x.1 ∧ R64 x.2) : F119 (l, (((((c0, (c1, (c2, (c3, ())))), ()), ()), ()), ())) = some (anyN l.length fun j => badLatch (c3 - 1) (l.getD j (0, 0))) := by
  show (G144 KF l c0 c1 c2 c3).bind _ = _
  have hk := KFbig
  revert hk
  generalize KF = n
  intro hk
  unfold G144
  have hst : ∀ k i, i < l.length → (∀ j, j < i → badLatch (c3 - 1) (l.getD j (0, 0)) = false) → l144_0 n (fun v2 => some v2) (some (@Neg.neg Int Int.instNegInt (1 : Int))) (k + 1) l c0 c1 c2 c3 (((l.length : Nat) : Int)) ((i : Nat) : Int) = bif badLatch (c3 - 1) (l.getD i (0, 0)) then some (i : Int) else l144_0 n (fun v2 => some v2) (some (@Neg.neg Int Int.instNegInt (1 : Int))) k l c0 c1 c2 c3 (((l.length : Nat) : Int)) ((i + 1 : Nat) : Int) := by
    intro k i hi _
    have hx := getD_mem (d := ((0 : Int), (0 : Int))) hr r00 i
    show F144_0 n _ _ _ l c0 c1 c2 c3 _ _ = _
    unfold F144_0
    rw [ltT hi, idx_nat l i (0, 0) hi, wS hi hl]
    simp only [cond_true, Option.bind_some]
    rw [F118_spec _ _ _ _ _ hx.1]
    rfl
  rcases scan l.length (fun k i => l144_0 n (fun v2 => some v2) (some (@Neg.neg Int Int.instNegInt (1 : Int))) k l c0 c1 c2 c3 (((l.length : Nat) : Int)) ((i : Nat) : Int)) _ (fun j => some (j : Int)) (some (-1)) hst
    (fun k => by show F144_0 n _ _ _ l c0 c1 c2 c3 _ _ = _; unfold F144_0; rw [ltF]; rfl) l.length n 0 (by omega) (by omega) (fun j hj => absurd hj (by omega)) with ⟨h1, j, h2⟩ | ⟨h1, h2⟩
  · rw [h1]
    refine (congrArg (fun o : Option Int => o.bind _) h2).trans ?_
    simp
  · rw [h1]
    exact congrArg (fun o : Option Int => o.bind _) h2

theorem F116_spec (i : Int) (la g : List (Int × Int)) (ba co : List Int) (h0 : 0 ≤ i) (h : i ≤ 1000) (h1 : la.length ≤ 200) (h2 : g.length ≤ 200) :
    F116 ((i, (la, (g, (ba, (co, ()))))), ()) = some (1, (1 + i, (1 + i + la.length, (1 + i + la.length + g.length, ())))) := by
  show G116 KF i la g ba co = _
  unfold G116
  rw [w64 (n := 1 + i) (by omega) (by omega), w64 (n := 1 + i + ((la.length : Nat) : Int)) (by omega) (by omega), w64 (by omega) (by omega)]

theorem F66_spec {i : Int} {la g : List (Int × Int)} {ba co : List Int} (H : Rng i la g ba co) : F66 ((i, (la, (g, (ba, (co, ()))))), ()) = some (chk i la g ba co) := by
  show G66 KF i la g ba co = _
  have hk := KFbig
  revert hk
  generalize KF = n
  intro hk
  unfold G66 chk
  have n1 := H.nla
  have n2 := H.ng
  have n3 := H.nba
  have n4 := H.nco
  by_cases c0 : i < 0
  · simp [c0]
  by_cases c1 : (1000 : Int) < i
  · simp [c0, c1]
  rw [F116_spec i la g ba co (by omega) (by omega) H.nla H.ng]
  simp only [Option.bind_some]
  rw [w64 (n := 1 + i + ((la.length : Nat) : Int) + ((g.length : Nat) : Int) - 1) (by omega) (by omega)]
  have es : 1 + i + ((la.length : Nat) : Int) + ((g.length : Nat) : Int) - 1 = sz i la g := by unfold sz; omega
  rw [es]
  by_cases c2 : (1000 : Int) < sz i la g
  · simp [c0, c1, c2]
  have em : decide ((if (((co.length : Nat) : Int) > ((ba.length : Nat) : Int)) then ((co.length : Nat) : Int) else ((ba.length : Nat) : Int)) > (100 : Int)) = (decide (100 < (ba.length : Int)) || decide (100 < (co.length : Int))) := by
    rw [← Bool.decide_or, decide_eq_decide]
    split <;> omega
  rw [em]
  simp only [gt_iff_lt, c0, c1, c2, decide_false, cond_false, Option.bind_some, Bool.false_or]
  cases (decide (100 < (ba.length : Int)) || decide (100 < (co.length : Int))) with
  | true => rfl
  | false =>
  simp only [cond_false]
  rw [F82_spec ba _ _ _ _ (by omega) H.hba, F82_spec co _ _ _ _ (by omega) H.hco, F119_spec la _ _ _ _ (by omega) H.hla, es]
  simp only [Option.bind_some]
  generalize hs : sz i la g = s
  have hst2 : ∀ {R : Type} (k1 : Int → Option R) (k2 : Option R) (k j : Nat), j < g.length → (∀ j', j' < j → badGate (i + la.length + (j' : Nat)) (g.getD j' (0, 0)) = false) → l66_0 n k1 k2 (k + 1) g ((g.length : Nat) : Int) ((j : Nat) : Int) 1 (1 + i) (1 + i + la.length) (1 + i + la.length + g.length) = bif badGate (i + la.length + (j : Nat)) (g.getD j (0, 0)) then k1 8 else l66_0 n k1 k2 k g ((g.length : Nat) : Int) ((j + 1 : Nat) : Int) 1 (1 + i) (1 + i + la.length) (1 + i + la.length + g.length) := by
    intro R k1 k2 k j hj _
    have hx := getD_mem (d := ((0 : Int), (0 : Int))) H.hg r00 j
    show F66_0 n _ _ _ g _ _ _ _ _ _ = _
    unfold F66_0
    rw [ltT hj, idx_nat g j (0, 0) hj, wS hj (by omega)]
    revert hx
    generalize g.getD j (0, 0) = x
    intro hx
    simp only [cond_true, Option.bind_some]
    rw [w64 (n := 1 + i + ((la.length : Nat) : Int) + ((j : Nat) : Int)) (by omega) (by omega), w64 (n := 2 * (1 + i + ((la.length : Nat) : Int) + ((j : Nat) : Int))) (by omega) (by omega)]
    unfold badGate
    by_cases h1 : x.2 < 0
    · simp [h1]
    by_cases h2 : x.1 < x.2
    · simp [h1, h2]
    have e3 : decide (x.1 ≥ 2 * (1 + i + ((la.length : Nat) : Int) + ((j : Nat) : Int))) = decide (i + ((la.length : Nat) : Int) + ((j : Nat) : Int) < x.1 / 2) := by
      rw [decide_eq_decide]; omega
    simp only [h1, h2, decide_false, cond_false, Option.bind_some, Bool.false_or, e3]
  have e2 : ∀ {R : Type} (k1 : Int → Option R) (k2 : Option R), l66_0 n k1 k2 n g ((g.length : Nat) : Int) ((0 : Nat) : Int) 1 (1 + i) (1 + i + la.length) (1 + i + la.length + g.length) = bif (anyN g.length fun j => badGate (i + la.length + (j : Nat)) (g.getD j (0, 0))) then k1 8 else k2 := by
    intro R k1 k2
    rcases scan g.length (fun k j => l66_0 n k1 k2 k g ((g.length : Nat) : Int) ((j : Nat) : Int) 1 (1 + i) (1 + i + la.length) (1 + i + la.length + g.length)) _ (fun _ => k1 8) k2 (hst2 k1 k2)
      (fun k => by show F66_0 n _ _ _ g _ _ _ _ _ _ = _; unfold F66_0; rw [ltF]; rfl) g.length n 0 (by omega) (by omega) (fun j hj => absurd hj (by omega)) with ⟨h1, j, h2⟩ | ⟨h1, h2⟩
    · rw [h1]; exact h2
    · rw [h1]; exact h2
  cases (anyN ba.length fun j => badLit s (ba.getD j 0)) with
  | true => rfl
  | false =>
  cases (anyN co.length fun j => badLit s (co.getD j 0)) with
  | true => rfl
  | false =>
  cases (anyN la.length fun j => badLatch s (la.getD j (0, 0))) with
  | true => rfl
  | false =>
  refine (e2 _ _).trans ?_
  cases (anyN g.length fun j => badGate (i + la.length + (j : Nat)) (g.getD j (0, 0))) <;> rfl

end Go.Proofs.Ytbcijglbinaioaa.Ev.Pure6
