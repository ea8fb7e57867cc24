/- ShrinkStates: literals; values of three. -/
import Derived.Test.YtbcijglbinaioaaP6b
set_option linter.unusedVariables false
set_option linter.unusedSimpArgs false
set_option linter.unusedSectionVars false
set_option linter.unnecessarySimpa false
namespace Go.Proofs.Ytbcijglbinaioaa.Ev.Pure6
open Go.Proofs.Ytbcijglbinaioaa.Ev

theorem beqD (a b : Int) : (a == b) = decide (a = b) := by by_cases h : a = b <;> simp [h]
theorem bneD (a b : Int) : (a != b) = !decide (a = b) := by by_cases h : a = b <;> simp [h]

theorem F12_spec (i : Int) (la g : List (Int × Int)) (ba co : List Int) (hi : R64 i) (hla : ∀ p ∈ la, R64 p.1 ∧ R64 p.2) (hg : ∀ p ∈ g, R64 p.1 ∧ R64 p.2) (hba : ∀ x ∈ ba, R64 x) (hco : ∀ x ∈ co, R64 x) :
    ∃ b, F12 ((i, (la, (g, (ba, (co, ()))))), ()) = some b ∧ (b = false → Rng i la g ba co) := by
  have e : F12 ((i, (la, (g, (ba, (co, ()))))), ()) = G12 KF i la g ba co := rfl
  rw [e]
  unfold G12
  have e2 : F59 ((i, (la, (g, (ba, (co, ()))))), ()) = G59 KF i la g ba co := rfl
  rw [e2]
  unfold G59
  by_cases c1 : (60 : Int) < la.length
  · exact ⟨true, by simp [c1], by simp⟩
  by_cases c2 : (120 : Int) < g.length
  · exact ⟨true, by simp [c1, c2], by simp⟩
  by_cases c3 : (110 : Int) < ba.length
  · exact ⟨true, by simp [c1, c2, c3], by simp⟩
  by_cases c4 : (110 : Int) < co.length
  · exact ⟨true, by simp [c1, c2, c3, c4], by simp⟩
  have H : Rng i la g ba co := ⟨hi, hla, hg, hba, hco, by omega, by omega, by omega, by omega⟩
  rw [F52_spec H]
  obtain ⟨v, hv⟩ : ∃ v, F60 ((i, (la, (g, (ba, (co, ()))))), ()) = some v := ⟨_, rfl⟩
  rw [hv]
  simp only [gt_iff_lt, c1, c2, c3, c4, decide_false, cond_false, Option.bind_some, bif_some]
  exact ⟨_, rfl, fun _ => H⟩

/-- What the check's good word tells. -/
structure OKc (i : Int) (la g : List (Int × Int)) (ba co : List Int) : Prop where
  i0 : 0 ≤ i
  i1 : i ≤ 1000
  s1 : sz i la g ≤ 1000
  wla : ∀ p ∈ la, 0 ≤ p.1 ∧ p.1 / 2 ≤ sz i la g ∧ 0 ≤ p.2 ∧ p.2 ≤ 2
  wg : ∀ k, k < g.length → 0 ≤ (g.getD k (0, 0)).2 ∧ (g.getD k (0, 0)).2 ≤ (g.getD k (0, 0)).1 ∧ (g.getD k (0, 0)).1 / 2 ≤ i + la.length + k
  wba : ∀ x ∈ ba, 0 ≤ x ∧ x / 2 ≤ sz i la g
  wco : ∀ x ∈ co, 0 ≤ x ∧ x / 2 ≤ sz i la g

theorem all_of {α : Type} {l : List α} {d : α} {p : α → Bool} {Q : α → Prop} (h : (anyN l.length fun j => p (l.getD j d)) = false) (hq : ∀ x, p x = false → Q x) : ∀ x ∈ l, Q x := by
  intro x hx
  obtain ⟨j, hj, rfl⟩ := List.mem_iff_getElem.1 hx
  have := anyN_false.1 h j hj
  simp only [List.getD_eq_getElem?_getD, List.getElem?_eq_getElem hj, Option.getD_some] at this
  exact hq _ this

theorem badLit_false {s x : Int} (h : badLit s x = false) : 0 ≤ x ∧ x / 2 ≤ s := by
  simp [badLit] at h; omega
theorem badLatch_false {s : Int} {p : Int × Int} (h : badLatch s p = false) : 0 ≤ p.1 ∧ p.1 / 2 ≤ s ∧ 0 ≤ p.2 ∧ p.2 ≤ 2 := by
  simp [badLatch, badLit] at h; omega
theorem badGate_false {s : Int} {p : Int × Int} (h : badGate s p = false) : 0 ≤ p.2 ∧ p.2 ≤ p.1 ∧ p.1 / 2 ≤ s := by
  simp [badGate] at h; omega

theorem chk_ok {i : Int} {la g : List (Int × Int)} {ba co : List Int} (h : chk i la g ba co = 0) : OKc i la g ba co := by
  unfold chk at h
  cases c0 : decide (i < 0) with
  | true => rw [c0] at h; simp at h
  | false =>
  rw [c0] at h
  cases c1 : (decide (1000 < i) || (decide (1000 < sz i la g) || (decide (100 < (ba.length : Int)) || decide (100 < (co.length : Int))))) with
  | true => rw [c1] at h; simp at h
  | false =>
  rw [c1] at h
  cases hb : (anyN ba.length fun j => badLit (sz i la g) (ba.getD j 0)) with
  | true => rw [hb] at h; simp at h
  | false =>
  rw [hb] at h
  cases hc : (anyN co.length fun j => badLit (sz i la g) (co.getD j 0)) with
  | true => rw [hc] at h; simp at h
  | false =>
  rw [hc] at h
  cases hl : (anyN la.length fun j => badLatch (sz i la g) (la.getD j (0, 0))) with
  | true => rw [hl] at h; simp at h
  | false =>
  rw [hl] at h
  cases hg : (anyN g.length fun j => badGate (i + la.length + j) (g.getD j (0, 0))) with
  | true => rw [hg] at h; simp at h
  | false =>
  simp at c0 c1
  exact ⟨by omega, by omega, by omega, all_of hl fun _ => badLatch_false, fun k hk => badGate_false (anyN_false.1 hg k hk), all_of hb fun _ => badLit_false, all_of hc fun _ => badLit_false⟩

/-! ### literals -/
def badX (nv x : Int) : Bool := decide (x < 2) || decide (nv < x / 2)
def badK (nv : Int) (l : List Int) (j : Nat) : Bool := badX nv (l.getD j 0) || (decide (0 < j) && (decide (l.getD j 0 ≤ l.getD (j - 1) 0) || decide (l.getD j 0 / 2 = l.getD (j - 1) 0 / 2)))

theorem F120_spec (nv x : Int) (hx : R64 x) : F120 (nv, (x, ())) = some (!badX nv x) := by
  show G120 KF nv x = _
  unfold G120 badX
  by_cases h : x < 2
  · simp [h, show ¬ x ≥ 2 by omega]
  · rw [td2 (by omega), w64 (by omega) (by have := hx.2; omega)]
    simp [h, show x ≥ 2 by omega]
    rw [← decide_not, decide_eq_decide]
    omega
theorem F121_spec (nv x : Int) (hx : R64 x) (h0 : 0 ≤ nv) (h1 : nv ≤ 1000) : F121 (nv, (x, ())) = some (!badX nv x) := by
  show G121 KF nv x = _
  unfold G121 badX
  rw [w64 (n := 2 * nv) (by omega) (by omega), w64 (n := 2 * nv + 1) (by omega) (by omega)]
  by_cases h : x < 2
  · simp [h, show ¬ x ≥ 2 by omega]
  · have : decide (x ≤ 2 * nv + 1) = !decide (nv < x / 2) := by
      by_cases h2 : nv < x / 2
      · simp [h2]; omega
      · simp [h2]; omega
    simp only [show x ≥ 2 by omega, h, decide_true, cond_true, decide_false, Bool.false_or, Option.bind_some, this]

theorem gt0F : decide (((0 : Nat) : Int) > 0) = false := by simp
theorem gt0T (j : Nat) : decide (((j + 1 : Nat) : Int) > 0) = true := by simp <;> omega
theorem wP {j : Nat} (h : j ≤ 2000) : Go.IntKind.wrap .i64 (((j + 1 : Nat) : Int) - 1) = ((j : Nat) : Int) := by
  rw [w64 (by omega) (by omega)]; omega

theorem F67_spec (nv : Int) (l : List Int) (hl : l.length ≤ 2000) (hr : ∀ x ∈ l, R64 x) (h0 : 0 ≤ nv) (h1 : nv ≤ 1000) : F67 (nv, (l, ())) = some (bif anyN l.length (badK nv l) then 8 else 0) := by
  show G67 KF nv l = _
  have hk := KFbig
  revert hk
  generalize KF = n
  intro hk
  unfold G67
  rw [show decide (nv < 0) = false by simp; omega, show decide (nv > 4000) = false by simp; omega]
  simp only [cond_false, Option.bind_some]
  have hst : ∀ k i, i < l.length → (∀ j, j < i → badK nv l j = false) → l67_0 n (fun v2 => some v2) (some (0 : Int)) (k + 1) nv l l (((l.length : Nat) : Int)) ((i : Nat) : Int) = bif badK nv l i then some (8 : Int) else l67_0 n (fun v2 => some v2) (some (0 : Int)) k nv l l (((l.length : Nat) : Int)) ((i + 1 : Nat) : Int) := by
    intro k i hi hpast
    have hx := getD_mem (d := 0) hr r0 i
    show F67_0 n _ _ _ nv l l _ _ = _
    unfold F67_0
    rw [ltT hi, idx_nat l i 0 hi, wS hi hl]
    simp only [cond_true, Option.bind_some]
    rw [F120_spec _ _ hx]
    unfold badK
    cases hb : badX nv (l.getD i 0) with
    | true => rfl
    | false =>
      cases i with
      | zero => simp
      | succ i =>
        have hp := hpast i (by omega)
        have hx' := getD_mem (d := 0) hr r0 i
        have hb' : badX nv (l.getD i 0) = false := by
          unfold badK at hp
          exact (Bool.or_eq_false_iff.1 hp).1
        rw [gt0T, wP (by omega), idx_nat l i 0 (by omega)]
        simp only [Nat.add_sub_cancel] at *
        revert hb hb' hx hx'
        generalize l.getD i 0 = y
        generalize l.getD (i + 1) 0 = x
        intro hx hb hx' hb'
        simp [badX] at hb hb'
        simp only [Option.bind_some]
        rw [td2 (x := x) (by omega), td2 (x := y) (by omega), w64 (n := x / 2) (by omega) (by have := hx.2; omega), w64 (n := y / 2) (by omega) (by have := hx'.2; omega)]
        by_cases h : x ≤ y
        · simp [h]
        · simp [h, beqD]
  rcases scan l.length (fun k i => l67_0 n (fun v2 => some v2) (some (0 : Int)) k nv l l (((l.length : Nat) : Int)) ((i : Nat) : Int)) _ (fun _ => some 8) (some 0) hst
    (fun k => by show F67_0 n _ _ _ nv l l _ _ = _; unfold F67_0; rw [ltF]; rfl) l.length n 0 (by omega) (by omega) (fun j hj => absurd hj (by omega)) with ⟨h1, j, h2⟩ | ⟨h1, h2⟩
  · rw [h1]; exact h2
  · rw [h1]; exact h2

theorem F68_spec (nv : Int) (l : List Int) (hl : l.length ≤ 2000) (hr : ∀ x ∈ l, R64 x) (h0 : 0 ≤ nv) (h1 : nv ≤ 1000) : F68 (nv, (l, ())) = some (!anyN l.length (badK nv l)) := by
  show G68 KF nv l = _
  have hk := KFbig
  revert hk
  generalize KF = n
  intro hk
  unfold G68
  have hst : ∀ k i, i < l.length → (∀ j, j < i → badK nv l j = false) → l68_0 n (fun v2 => some v2) (some Bool.true) (k + 1) nv l ((i : Nat) : Int) = bif badK nv l i then some Bool.false else l68_0 n (fun v2 => some v2) (some Bool.true) k nv l ((i + 1 : Nat) : Int) := by
    intro k i hi hpast
    have hx := getD_mem (d := 0) hr r0 i
    show F68_0 n _ _ _ nv l _ = _
    unfold F68_0
    rw [ltT hi, idx_nat l i 0 hi, wS hi hl]
    simp only [cond_true, Option.bind_some]
    rw [F121_spec _ _ hx h0 h1]
    unfold badK
    cases hb : badX nv (l.getD i 0) with
    | true => rfl
    | false =>
      cases i with
      | zero => simp
      | succ i =>
        have hp := hpast i (by omega)
        have hx' := getD_mem (d := 0) hr r0 i
        have hb' : badX nv (l.getD i 0) = false := by
          unfold badK at hp
          exact (Bool.or_eq_false_iff.1 hp).1
        rw [gt0T, wP (by omega), idx_nat l i 0 (by omega)]
        simp only [Nat.add_sub_cancel] at *
        revert hb hb' hx hx'
        generalize l.getD i 0 = y
        generalize l.getD (i + 1) 0 = x
        intro hx hb hx' hb'
        simp [badX] at hb hb'
        simp only [Option.bind_some]
        rw [tm2 (x := y) (by omega), w64 (n := x - y) (by have := hx'.2; omega) (by have := hx.2; omega), w64 (n := y + 1) (by omega) (by omega)]
        by_cases h : x ≤ y
        · simp [h, show x - y < 1 by omega]
        · by_cases h2 : y % 2 = 0
          · by_cases h3 : x = y + 1
            · simp [h2, h3, show (y + 1) / 2 = y / 2 by omega, show ¬ y + 1 - y < 1 by omega]
            · simp [h, h2, h3, beqD, show ¬ x / 2 = y / 2 by omega, show ¬ x - y < 1 by omega]
          · simp [h, h2, beqD, show ¬ x / 2 = y / 2 by omega, show ¬ x - y < 1 by omega]
  rcases scan l.length (fun k i => l68_0 n (fun v2 => some v2) (some Bool.true) k nv l ((i : Nat) : Int)) _ (fun _ => some Bool.false) (some Bool.true) hst
    (fun k => by show F68_0 n _ _ _ nv l _ = _; unfold F68_0; rw [ltF]; rfl) l.length n 0 (by omega) (by omega) (fun j hj => absurd hj (by omega)) with ⟨h1, j, h2⟩ | ⟨h1, h2⟩
  · rw [h1]; exact h2
  · rw [h1]; exact h2

theorem lits_of {nv : Int} {l : List Int} (h : anyN l.length (badK nv l) = false) : ∀ x ∈ l, 2 ≤ x ∧ x / 2 ≤ nv := by
  intro x hx
  obtain ⟨j, hj, rfl⟩ := List.mem_iff_getElem.1 hx
  have := anyN_false.1 h j hj
  unfold badK at this
  have := (Bool.or_eq_false_iff.1 this).1
  simp only [List.getD_eq_getElem?_getD, List.getElem?_eq_getElem hj, Option.getD_some] at this
  simp [badX] at this
  omega

/-! ### First -/
def badS (la : List (Int × Int)) (x : Int) : Bool := decide ((la.getD (x / 2 - 1).toNat (0, 0)).2 ≠ 2) && decide ((la.getD (x / 2 - 1).toNat (0, 0)).2 = x % 2)

theorem F137_spec (x i : Int) (la g : List (Int × Int)) (ba co : List Int) (hx : 2 ≤ x ∧ x / 2 ≤ la.length) (hl : la.length ≤ 2000) :
    F137 (x, ((i, (la, (g, (ba, (co, ()))))), ())) = some (badS la x) := by
  show G137 KF x i la g ba co = _
  unfold G137 badS
  rw [td2 (by omega), w64 (n := x / 2) (by omega) (by omega), w64 (by omega) (by omega), idx_int la (x / 2 - 1) (0, 0) (by omega) (by omega), tm2 (by omega)]
  generalize (la.getD (x / 2 - 1).toNat (0, 0)) = q
  by_cases h : q.2 = 2
  · simp [h]
  · simp only [bneD, beqD, h, decide_false, Bool.not_false, cond_true, Option.bind_some]
    simp [h]

theorem F99_spec (i : Int) (la g : List (Int × Int)) (ba co l : List Int) (hx : ∀ x ∈ l, 2 ≤ x ∧ x / 2 ≤ la.length) (hla : la.length ≤ 2000) (hl : l.length ≤ 2000) :
    F99 ((i, (la, (g, (ba, (co, ()))))), (l, ())) = some (!anyN l.length fun j => badS la (l.getD j 0)) := by
  show ((G125v4 KF l i la g ba co).bind _).bind _ = _
  have hk := KFbig
  revert hk
  generalize KF = n
  intro hk
  unfold G125v4
  have hst : ∀ k j, j < l.length → (∀ j', j' < j → badS la (l.getD j' 0) = false) → l125v4_0 n (fun v2 => some v2) (some (@Neg.neg Int Int.instNegInt (1 : Int))) (k + 1) l i la g ba co (((l.length : Nat) : Int)) ((j : Nat) : Int) = bif badS la (l.getD j 0) then some (j : Int) else l125v4_0 n (fun v2 => some v2) (some (@Neg.neg Int Int.instNegInt (1 : Int))) k l i la g ba co (((l.length : Nat) : Int)) ((j + 1 : Nat) : Int) := by
    intro k j hj _
    have hxj : 2 ≤ l.getD j 0 ∧ l.getD j 0 / 2 ≤ la.length := by
      rw [List.getD_eq_getElem?_getD, List.getElem?_eq_getElem hj]
      exact hx _ (List.getElem_mem hj)
    show F125v4_0 n _ _ _ l i la g ba co _ _ = _
    unfold F125v4_0
    rw [ltT hj, idx_nat l j 0 hj, wS hj hl]
    simp only [cond_true, Option.bind_some]
    rw [F137_spec _ _ _ _ _ _ hxj hla]
    rfl
  rcases scan l.length (fun k j => l125v4_0 n (fun v2 => some v2) (some (@Neg.neg Int Int.instNegInt (1 : Int))) k l i la g ba co (((l.length : Nat) : Int)) ((j : Nat) : Int)) _ (fun j => some (j : Int)) (some (-1)) hst
    (fun k => by show F125v4_0 n _ _ _ l i la g ba co _ _ = _; unfold F125v4_0; rw [ltF]; rfl) l.length n 0 (by omega) (by omega) (fun j hj => absurd hj (by omega)) with ⟨h1, j, h2⟩ | ⟨h1, h2⟩
  · rw [h1]
    refine (congrArg (fun o : Option Int => (o.bind _).bind _) h2).trans ?_
    simp
  · rw [h1]
    exact congrArg (fun o : Option Int => (o.bind _).bind _) h2

theorem F100_spec (i : Int) (la g : List (Int × Int)) (ba co l : List Int) (hx : ∀ x ∈ l, 2 ≤ x ∧ x / 2 ≤ la.length) (hq : ∀ p ∈ la, 0 ≤ p.2 ∧ p.2 ≤ 2) (hla : la.length ≤ 2000) (hl : l.length ≤ 2000) :
    F100 ((i, (la, (g, (ba, (co, ()))))), (l, ())) = some (!anyN l.length fun j => badS la (l.getD j 0)) := by
  show G100 KF i la g ba co l = _
  have hk := KFbig
  revert hk
  generalize KF = n
  intro hk
  unfold G100
  have hst : ∀ k j, j < l.length → (∀ j', j' < j → badS la (l.getD j' 0) = false) → l100_0 n (fun v2 => some v2) (some Bool.true) (k + 1) l ((j : Nat) : Int) i la g ba co = bif badS la (l.getD j 0) then some Bool.false else l100_0 n (fun v2 => some v2) (some Bool.true) k l ((j + 1 : Nat) : Int) i la g ba co := by
    intro k j hj _
    have hxj : 2 ≤ l.getD j 0 ∧ l.getD j 0 / 2 ≤ la.length := by
      rw [List.getD_eq_getElem?_getD, List.getElem?_eq_getElem hj]
      exact hx _ (List.getElem_mem hj)
    show F100_0 n _ _ _ l _ i la g ba co = _
    unfold F100_0
    rw [ltT hj, idx_nat l j 0 hj, wS hj hl]
    simp only [cond_true, Option.bind_some]
    unfold badS
    revert hxj
    generalize l.getD j 0 = x
    intro hxj
    rw [td2 (by omega), w64 (n := x / 2) (by omega) (by omega), w64 (by omega) (by omega), idx_int la (x / 2 - 1) (0, 0) (by omega) (by omega), tm2 (by omega)]
    have hqq := getD_mem (d := ((0 : Int), (0 : Int))) hq ⟨by simp, by simp⟩ (x / 2 - 1).toNat
    revert hqq
    generalize (la.getD (x / 2 - 1).toNat (0, 0)) = q
    intro hqq
    simp only [Option.bind_some]
    rcases (show q.2 = 0 ∨ q.2 = 1 ∨ q.2 = 2 by omega) with h | h | h <;> rcases (show x % 2 = 0 ∨ x % 2 = 1 by omega) with h' | h' <;> simp [h, h']
  rcases scan l.length (fun k j => l100_0 n (fun v2 => some v2) (some Bool.true) k l ((j : Nat) : Int) i la g ba co) _ (fun _ => some Bool.false) (some Bool.true) hst
    (fun k => by show F100_0 n _ _ _ l _ i la g ba co = _; unfold F100_0; rw [ltF]; rfl) l.length n 0 (by omega) (by omega) (fun j hj => absurd hj (by omega)) with ⟨h1, j, h2⟩ | ⟨h1, h2⟩
  · rw [h1]; exact h2
  · rw [h1]; exact h2

end Go.Proofs.Ytbcijglbinaioaa.Ev.Pure6
