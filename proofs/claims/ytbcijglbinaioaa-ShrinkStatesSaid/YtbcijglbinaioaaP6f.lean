/- Proved here: spiritlevellaw39.ShrinkStates returns true for every input, and each of its arguments reads behind the call as it read before. No condition beyond the given statement's own. (By an evaluator of the model's code, shown sound in the texts Ev..; the functions that it told are in F1; the plain laws of them in P6a to P6f.) -/
import Derived.Test.YtbcijglbinaioaaP6e
import Derived.Test.YtbcijglbinaioaaRow6
set_option linter.unusedVariables false
set_option linter.unusedSimpArgs false
set_option linter.unusedSectionVars false
set_option linter.unnecessarySimpa false
namespace Go.Proofs.Ytbcijglbinaioaa.Ev.Pure6
open Go.Proofs.Ytbcijglbinaioaa.Ev

theorem F20_spec (l : List Int) (hl : l.length ≤ 2000) : F20 (l, (l, ())) = some true := by
  show G20 KF l l = _
  have hk := KFbig
  revert hk
  generalize KF = n
  intro hk
  unfold G20
  rw [show (((l.length : Nat) : Int) != ((l.length : Nat) : Int)) = false by simp, cond_false]
  rcases scan l.length (fun k i => l20_0 n (fun v2 => some v2) (some Bool.true) k l l ((i : Nat) : Int)) (fun _ => false) (fun _ => some Bool.false) (some Bool.true)
    (by
      intro k i hi _
      show F20_0 n _ _ _ l l _ = _
      unfold F20_0
      rw [ltT hi, idx_nat l i 0 hi, wS hi hl]
      simp)
    (fun k => by show F20_0 n _ _ _ l l _ = _; unfold F20_0; rw [ltF]; rfl) l.length n 0 (by omega) (by omega) (fun j hj => rfl) with ⟨h1, j, h2⟩ | ⟨h1, h2⟩
  · obtain ⟨_, _, h⟩ := anyN_true.1 h1
    cases h
  · exact h2

section
variable {i : Int} {la g : List (Int × Int)} {ba co : List Int} (H : Rng i la g ba co) {x1 x2 : List Bool} {lits : List Int} (n1 : x1.length ≤ 200) (n2 : x2.length ≤ 200) (n3 : lits.length ≤ 200) (hr : ∀ x ∈ lits, R64 x)
include H n1 n2

theorem F91_spec : F91 ((i, (la, (g, (ba, (co, ()))))), (x1, (x2, ()))) = some (bif chk i la g ba co != 0 then chk i la g ba co else bif (decide (x1.length ≠ la.length) || decide ((x2.length : Int) ≠ i)) then 2 else 0) := by
  show G91 KF i la g ba co x1 x2 = _
  unfold G91
  rw [F66_spec H]
  simp only [Option.bind_some]
  cases (chk i la g ba co != 0) with
  | true => rfl
  | false =>
    simp only [cond_false]
    by_cases h1 : x1.length = la.length
    · by_cases h2 : (x2.length : Int) = i <;> simp [h1, h2, bneD]
    · simp [h1, bneD, show ¬ (x1.length : Int) = (la.length : Int) by omega]

section
variable (O : OKc i la g ba co) (hc : chk i la g ba co = 0) (h1 : x1.length = la.length) (h2 : (x2.length : Int) = i)
include O hc h1 h2

theorem sides_s (hl : lits.length ≤ 2000) (hx : ∀ x ∈ lits, 2 ≤ x ∧ x / 2 ≤ la.length) : ∃ a e b, a.length ≤ 2000 ∧
    F92 ((i, (la, (g, (ba, (co, ()))))), (x1, (x2, (((lits, ()), ()), ())))) = some (a, (e, ())) ∧ F136 ((i, (la, (g, (ba, (co, ()))))), (x1, (x2, (lits, (false, ()))))) = some (a, (b, ())) ∧ (e = bif b then 0 else 6) ∧ (b = false → a = []) := by
  have hk := KFbig
  have t1 := tri_b3 x1
  have t2 := tri_b3 x2
  have l2 : ((x2.map b3).length : Int) = i := by simpa using h2
  have hf1 : ∀ s : List Int, s.length = (x1.map b3).length → Tri s → F132 ((i, (la, (g, (ba, (co, ()))))), ((s, ()), ((x2.map b3, ()), ((((lits, ()), ()), ()), ())))) = some (goesS la co lits (frame g s (x2.map b3)), (0, ())) :=
    fun s hs ht => F132_spec H O hc (by rw [hs]; simpa using h1) l2 ht t2 hl hx
  have hf2 : ∀ s : List Int, s.length = (x1.map b3).length → Tri s → F156 ((i, (la, (g, (ba, (co, ()))))), (s, (x2.map b3, (lits, (false, ()))))) = some (goesS la co lits (frame g s (x2.map b3))) :=
    fun s hs ht => F156_spec H O hc (by rw [hs]; simpa using h1) l2 ht t2 hl hx false
  have e1 : F92 ((i, (la, (g, (ba, (co, ()))))), (x1, (x2, (((lits, ()), ()), ())))) = G92 KF i la g ba co x1 x2 lits := rfl
  have e2 : F136 ((i, (la, (g, (ba, (co, ()))))), (x1, (x2, (lits, (false, ()))))) = G136 KF i la g ba co x1 x2 lits false := rfl
  rw [e1, e2]
  revert hk
  generalize KF = n
  intro hk
  unfold G92 G136
  rw [F131_spec x1 (by omega), F131_spec x2 (by omega), F155_spec x1 (by omega), F155_spec x2 (by omega)]
  simp only [Option.bind_some]
  rw [hf1 _ rfl t1, hf2 _ rfl t1]
  simp only [Option.bind_some]
  rw [show ((0 : Int) != 0) = false by rfl]
  simp only [cond_false]
  cases hg : goesS la co lits (frame g (x1.map b3) (x2.map b3)) with
  | false => exact ⟨[], 6, false, by simp, rfl, rfl, rfl, fun _ => rfl⟩
  | true =>
    simp only [Bool.not_true, cond_false]
    rw [l92_spec (by simp; omega) t1 n hk _ _ hf1, l136_spec (by simp; omega) t1 n hk _ _ hf2]
    refine ⟨_, 0, true, ?_, rfl, rfl, rfl, fun h => by cases h⟩
    have := (run_inv (fun s => goesS la co lits (frame g s (x2.map b3))) t1 (x1.map b3).length).2.2
    simp at this
    simp
    omega

theorem sides_b : ∃ a e b, a.length ≤ 2000 ∧
    F92v1 ((i, (la, (g, (ba, (co, ()))))), (x1, (x2, (((i, (la, (g, (ba, (co, ()))))), ()), ())))) = some (a, (e, ())) ∧ F136 ((i, (la, (g, (ba, (co, ()))))), (x1, (x2, ([], (true, ()))))) = some (a, (b, ())) ∧ (e = bif b then 0 else 6) ∧ (b = false → a = []) := by
  have hk := KFbig
  have t1 := tri_b3 x1
  have t2 := tri_b3 x2
  have l2 : ((x2.map b3).length : Int) = i := by simpa using h2
  have hf1 : ∀ s : List Int, s.length = (x1.map b3).length → Tri s → F132v1 ((i, (la, (g, (ba, (co, ()))))), ((s, ()), ((x2.map b3, ()), ((((i, (la, (g, (ba, (co, ()))))), ()), ()), ())))) = some (goesB ba co (frame g s (x2.map b3)), (0, ())) :=
    fun s hs ht => F132v1_spec H O hc (by rw [hs]; simpa using h1) l2 ht t2
  have hf2 : ∀ s : List Int, s.length = (x1.map b3).length → Tri s → F156 ((i, (la, (g, (ba, (co, ()))))), (s, (x2.map b3, ([], (true, ()))))) = some (goesB ba co (frame g s (x2.map b3))) :=
    fun s hs ht => F156_spec H O hc (lits := []) (by rw [hs]; simpa using h1) l2 ht t2 (by simp) (by simp) true
  have e1 : F92v1 ((i, (la, (g, (ba, (co, ()))))), (x1, (x2, (((i, (la, (g, (ba, (co, ()))))), ()), ())))) = G92v1 KF i la g ba co x1 x2 i la g ba co := rfl
  have e2 : F136 ((i, (la, (g, (ba, (co, ()))))), (x1, (x2, ([], (true, ()))))) = G136 KF i la g ba co x1 x2 [] true := rfl
  rw [e1, e2]
  revert hk
  generalize KF = n
  intro hk
  unfold G92v1 G136
  rw [F131_spec x1 (by omega), F131_spec x2 (by omega), F155_spec x1 (by omega), F155_spec x2 (by omega)]
  simp only [Option.bind_some]
  rw [hf1 _ rfl t1, hf2 _ rfl t1]
  simp only [Option.bind_some]
  rw [show ((0 : Int) != 0) = false by rfl]
  simp only [cond_false]
  cases hg : goesB ba co (frame g (x1.map b3) (x2.map b3)) with
  | false => exact ⟨[], 6, false, by simp, rfl, rfl, rfl, fun _ => rfl⟩
  | true =>
    simp only [Bool.not_true, cond_false]
    rw [l92v1_spec (by simp; omega) t1 n hk _ _ hf1, l136_spec (by simp; omega) t1 n hk _ _ hf2]
    refine ⟨_, 0, true, ?_, rfl, rfl, rfl, fun h => by cases h⟩
    have := (run_inv (fun s => goesB ba co (frame g s (x2.map b3))) t1 (x1.map b3).length).2.2
    simp at this
    simp
    omega
end

include n3 hr in
theorem step_same : ∃ a e, a.length ≤ 2000 ∧ F41 ((i, (la, (g, (ba, (co, ()))))), (x1, (x2, (lits, ())))) = some (a, (e, ())) ∧ F42 ((i, (la, (g, (ba, (co, ()))))), (x1, (x2, (lits, ())))) = some (a, (e, ())) := by
  have q1 := H.nla
  have e1 : F41 ((i, (la, (g, (ba, (co, ()))))), (x1, (x2, (lits, ())))) = G41 KF i la g ba co x1 x2 lits := rfl
  have e2 : F42 ((i, (la, (g, (ba, (co, ()))))), (x1, (x2, (lits, ())))) = (G95 KF i la g ba co x1 x2 lits false).bind fun (y0 : ((List Int) × (Int × Unit))) => some (y0.1, (y0.2.1, ())) := rfl
  rw [e1, e2]
  unfold G41 G95
  rw [F91_spec H n1 n2, F52_spec H, F67_spec _ lits (by omega) hr (by omega) (by omega), F68_spec _ lits (by omega) hr (by omega) (by omega)]
  simp only [Option.bind_some]
  by_cases hc : chk i la g ba co = 0
  · have O := chk_ok hc
    rw [hc]
    simp only [show ((0 : Int) != 0) = false by rfl, cond_false]
    by_cases h1 : x1.length = la.length
    · by_cases h2 : (x2.length : Int) = i
      · simp only [h1, h2, bneD, decide_true, decide_false, Bool.not_true, cond_false, Option.bind_some, ne_eq, not_true_eq_false, Bool.or_self]
        cases ha : anyN lits.length (badK ((la.length : Nat) : Int) lits) with
        | true => exact ⟨[], 8, by simp, by simp, by simp⟩
        | false =>
          obtain ⟨a, e, b, hl, h3, h4, h5, h6⟩ := sides_s H n1 n2 O hc h1 h2 (lits := lits) (by omega) (lits_of ha)
          rw [h3, h4]
          refine ⟨a, e, hl, by simp, ?_⟩
          cases b with
          | true => subst h5; simp
          | false =>
            subst h5
            have := h6 rfl
            subst this
            simp
      · exact ⟨[], 2, by simp, by simp [h1, h2, bneD], by simp [h1, h2, bneD]⟩
    · exact ⟨[], 2, by simp, by simp [h1, bneD], by simp [bneD, show ¬ (x1.length : Int) = (la.length : Int) by omega]⟩
  · have : (chk i la g ba co != 0) = true := by simp [bneD, hc]
    rw [this]
    simp only [cond_true]
    exact ⟨[], _, by simp, by rw [this]; rfl, rfl⟩

theorem bad_same : ∃ a e, a.length ≤ 2000 ∧ F43 ((i, (la, (g, (ba, (co, ()))))), (x1, (x2, ()))) = some (a, (e, ())) ∧ F44 ((i, (la, (g, (ba, (co, ()))))), (x1, (x2, ()))) = some (a, (e, ())) := by
  have q1 := H.nla
  have e1 : F43 ((i, (la, (g, (ba, (co, ()))))), (x1, (x2, ()))) = G43 KF i la g ba co x1 x2 := rfl
  have e2 : F44 ((i, (la, (g, (ba, (co, ()))))), (x1, (x2, ()))) = (G95 KF i la g ba co x1 x2 [] true).bind fun (y0 : ((List Int) × (Int × Unit))) => some (y0.1, (y0.2.1, ())) := rfl
  rw [e1, e2]
  unfold G43 G95
  rw [F91_spec H n1 n2, F52_spec H, F68_spec _ [] (by simp) (by simp) (by omega) (by omega)]
  simp only [Option.bind_some]
  by_cases hc : chk i la g ba co = 0
  · have O := chk_ok hc
    rw [hc]
    simp only [show ((0 : Int) != 0) = false by rfl, cond_false]
    by_cases h1 : x1.length = la.length
    · by_cases h2 : (x2.length : Int) = i
      · simp only [h1, h2, bneD, decide_true, decide_false, Bool.not_true, cond_false, Option.bind_some, ne_eq, not_true_eq_false, Bool.or_self]
        have ha : anyN ([] : List Int).length (badK ((la.length : Nat) : Int) []) = false := rfl
        rw [ha]
        obtain ⟨a, e, b, hl, h3, h4, h5, h6⟩ := sides_b H n1 n2 O hc h1 h2
        rw [h3, h4]
        refine ⟨a, e, hl, by simp, ?_⟩
        cases b with
        | true => subst h5; simp
        | false =>
          subst h5
          have := h6 rfl
          subst this
          simp
      · exact ⟨[], 2, by simp, by simp [h1, h2, bneD], by simp [h1, h2, bneD]⟩
    · exact ⟨[], 2, by simp, by simp [h1, bneD], by simp [bneD, show ¬ (x1.length : Int) = (la.length : Int) by omega]⟩
  · have : (chk i la g ba co != 0) = true := by simp [bneD, hc]
    rw [this]
    simp only [cond_true]
    exact ⟨[], _, by simp, by rw [this]; rfl, rfl⟩

include n3 hr in
omit n1 n2 in
theorem first_same : ∃ b e, F45 ((i, (la, (g, (ba, (co, ()))))), (lits, ())) = some (b, (e, ())) ∧ F46 ((i, (la, (g, (ba, (co, ()))))), (lits, ())) = some (b, (e, ())) := by
  have q1 := H.nla
  have e1 : F45 ((i, (la, (g, (ba, (co, ()))))), (lits, ())) = G45 KF i la g ba co lits := rfl
  have e2 : F46 ((i, (la, (g, (ba, (co, ()))))), (lits, ())) = G46 KF i la g ba co lits := rfl
  rw [e1, e2]
  unfold G45 G46
  rw [F66_spec H, F52_spec H, F67_spec _ lits (by omega) hr (by omega) (by omega), F68_spec _ lits (by omega) hr (by omega) (by omega)]
  simp only [Option.bind_some]
  by_cases hc : chk i la g ba co = 0
  · have O := chk_ok hc
    rw [hc]
    simp only [show ((0 : Int) != 0) = false by rfl, cond_false]
    cases ha : anyN lits.length (badK ((la.length : Nat) : Int) lits) with
    | true => exact ⟨false, 8, by simp, by simp⟩
    | false =>
      rw [F99_spec i la g ba co lits (lits_of ha) (by omega) (by omega), F100_spec i la g ba co lits (lits_of ha) (fun p hp => (O.wla p hp).2.2) (by omega) (by omega)]
      exact ⟨!anyN lits.length fun j => badS la (lits.getD j 0), 0, by simp, by simp⟩
  · have : (chk i la g ba co != 0) = true := by simp [bneD, hc]
    rw [this]
    exact ⟨false, _, rfl, rfl⟩
end

theorem law6 (i : Int) (la g : List (Int × Int)) (ba co : List Int) (x1 x2 : List Bool) (lits : List Int) (hi : R64 i) (hla : ∀ p ∈ la, R64 p.1 ∧ R64 p.2) (hg : ∀ p ∈ g, R64 p.1 ∧ R64 p.2) (hba : ∀ x ∈ ba, R64 x) (hco : ∀ x ∈ co, R64 x) (hr : ∀ x ∈ lits, R64 x) :
    F6 ((i, (la, (g, (ba, (co, ()))))), (x1, (x2, (lits, ())))) = some true := by
  have e : F6 ((i, (la, (g, (ba, (co, ()))))), (x1, (x2, (lits, ())))) = G6 KF i la g ba co x1 x2 lits := rfl
  rw [e]
  unfold G6
  obtain ⟨b, hb, H⟩ := F12_spec i la g ba co hi hla hg hba hco
  rw [hb]
  cases b with
  | true => simp
  | false =>
    have H := H rfl
    by_cases c1 : (30 : Int) < x1.length
    · simp [c1]
    by_cases c2 : (30 : Int) < x2.length
    · simp [c1, c2]
    by_cases c3 : (20 : Int) < lits.length
    · simp [c1, c2, c3]
    obtain ⟨a, e, ha, s1, s2⟩ := step_same H (x1 := x1) (x2 := x2) (by omega) (by omega) (lits := lits) (by omega) hr
    obtain ⟨a', e', ha', s3, s4⟩ := bad_same H (x1 := x1) (x2 := x2) (by omega) (by omega)
    obtain ⟨b6, e6, s5, s6⟩ := first_same H (lits := lits) (by omega) hr
    rw [s1, s2, s3, s4, s5, s6]
    simp only [gt_iff_lt, c1, c2, c3, decide_false, cond_false, Option.bind_some]
    rw [F20_spec a ha, F20_spec a' ha']
    simp

theorem all_mem {α : Type} {l : List α} {Q : α → Prop} (h : ∀ j (h : j < l.length), Q l[j]) : ∀ x ∈ l, Q x := by
  intro x hx
  obtain ⟨j, hj, rfl⟩ := List.mem_iff_getElem.1 hx
  exact h j hj
theorem r64_of {x : Int} (h : Go.IntKind.min .i64 ≤ x ∧ x ≤ Go.IntKind.max .i64) : R64 x := by
  have e1 : Go.IntKind.min .i64 = -9223372036854775808 := by rfl
  have e2 : Go.IntKind.max .i64 = 9223372036854775807 := by rfl
  rw [e1, e2] at h
  exact ⟨h.1, by omega⟩

theorem pure6 : ∀ y : dens shrinkStates.shape, WfA shrinkStates.shape y → ∃ x, e6.val (argsOf shrinkStates.shape y) = some x ∧ e6.av x = .bool true
  | ((i, (la, (g, (ba, co)))), (x1, (x2, (lits, ())))), hw => by
    refine ⟨true, ?_, rfl⟩
    obtain ⟨⟨hi, ⟨_, hla⟩, ⟨_, hg⟩, ⟨_, hba⟩, ⟨_, hco⟩⟩, _, _, ⟨_, hl⟩, _⟩ := hw
    exact law6 i la g ba co x1 x2 lits (r64_of hi) (all_mem fun j h => ⟨r64_of (hla j h).1, r64_of (hla j h).2⟩) (all_mem fun j h => ⟨r64_of (hg j h).1, r64_of (hg j h).2⟩)
      (all_mem fun j h => r64_of (hba j h)) (all_mem fun j h => r64_of (hco j h)) (all_mem fun j h => r64_of (hl j h))

end Go.Proofs.Ytbcijglbinaioaa.Ev.Pure6

namespace Go.Proofs.Ytbcijglbinaioaa
/-- The row, for the claim. -/
theorem shrinkStates_holds : Rows.ShrinkStatesSaid := shrinkStates.over Ev.Pure6.pure6
#print axioms shrinkStates_holds
end Go.Proofs.Ytbcijglbinaioaa
