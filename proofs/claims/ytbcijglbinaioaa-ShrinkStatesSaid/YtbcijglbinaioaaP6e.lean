/- ShrinkStates: what is asked of a state; the smallest states. -/
import Derived.Test.YtbcijglbinaioaaP6d
set_option linter.unusedVariables false
set_option linter.unusedSimpArgs false
set_option linter.unusedSectionVars false
set_option linter.unnecessarySimpa false
namespace Go.Proofs.Ytbcijglbinaioaa.Ev.Pure6
open Go.Proofs.Ytbcijglbinaioaa.Ev

def badC (co u : List Int) : Bool := anyN co.length fun j => !decide (val u (co.getD j 0) = 1)
def anyB (ba u : List Int) : Bool := anyN ba.length fun j => decide (val u (ba.getD j 0) = 1)
def badL (la : List (Int × Int)) (u lits : List Int) (j : Nat) : Bool := !decide (val u (la.getD (lits.getD j 0 / 2 - 1).toNat (0, 0)).1 = 1 - lits.getD j 0 % 2)
def goesS (la : List (Int × Int)) (co lits u : List Int) : Bool := bif badC co u then false else !anyN lits.length (badL la u lits)
def goesB (ba co u : List Int) : Bool := bif badC co u then false else anyB ba u

theorem at_of {α : Type} {l : List α} {d : α} {Q : α → Prop} (h : ∀ x ∈ l, Q x) {j : Nat} (hj : j < l.length) : Q (l.getD j d) := by
  rw [List.getD_eq_getElem?_getD, List.getElem?_eq_getElem hj]
  exact h _ (List.getElem_mem hj)

theorem F82v1_spec {u l : List Int} (hu : Tri u) (hl : l.length ≤ 2000) (hx : ∀ x ∈ l, 0 ≤ x ∧ x / 2 < u.length) (hr : ∀ x ∈ l, R64 x) : F82v1 (l, (((u, ()), ()), ())) = some (badC l u) := by
  show (G125v1 KF l u).bind _ = _
  have hk := KFbig
  revert hk
  generalize KF = n
  intro hk
  unfold G125v1
  have hst : ∀ k i, i < l.length → (∀ j, j < i → (!decide (val u (l.getD j 0) = 1)) = false) → l125v1_0 n (fun v2 => some v2) (some (@Neg.neg Int Int.instNegInt (1 : Int))) (k + 1) l u (((l.length : Nat) : Int)) ((i : Nat) : Int) = bif (!decide (val u (l.getD i 0) = 1)) then some (i : Int) else l125v1_0 n (fun v2 => some v2) (some (@Neg.neg Int Int.instNegInt (1 : Int))) k l u (((l.length : Nat) : Int)) ((i + 1 : Nat) : Int) := by
    intro k i hi _
    have hxi := at_of (d := 0) hx hi
    have hri := at_of (d := 0) hr hi
    show F125v1_0 n _ _ _ l u _ _ = _
    unfold F125v1_0
    rw [ltT hi, idx_nat l i 0 hi, wS hi hl]
    simp only [cond_true, Option.bind_some]
    have e : F135 (l.getD i 0, ((u, ()), ())) = some (!decide (val u (l.getD i 0) = 1)) := by
      show (F98 (u, (l.getD i 0, ()))).bind _ = _
      rw [F98_spec hu hxi.1 hri hxi.2]
      simp only [Option.bind_some, bneD]
    rw [e]
    rfl
  unfold badC
  rcases scan l.length (fun k i => l125v1_0 n (fun v2 => some v2) (some (@Neg.neg Int Int.instNegInt (1 : Int))) k l u (((l.length : Nat) : Int)) ((i : Nat) : Int)) _ (fun j => some (j : Int)) (some (-1)) hst
    (fun k => by show F125v1_0 n _ _ _ l u _ _ = _; unfold F125v1_0; rw [ltF]; rfl) l.length n 0 (by omega) (by omega) (fun j hj => absurd hj (by omega)) with ⟨h1, j, h2⟩ | ⟨h1, h2⟩
  · rw [h1]
    refine (congrArg (fun o : Option Int => o.bind _) h2).trans ?_
    simp
  · rw [h1]
    exact congrArg (fun o : Option Int => o.bind _) h2

theorem F82v3_spec {u l : List Int} (hu : Tri u) (hl : l.length ≤ 2000) (hx : ∀ x ∈ l, 0 ≤ x ∧ x / 2 < u.length) (hr : ∀ x ∈ l, R64 x) : F82v3 (l, (((u, ()), ()), ())) = some (anyB l u) := by
  show (G125v3 KF l u).bind _ = _
  have hk := KFbig
  revert hk
  generalize KF = n
  intro hk
  unfold G125v3
  have hst : ∀ k i, i < l.length → (∀ j, j < i → decide (val u (l.getD j 0) = 1) = false) → l125v3_0 n (fun v2 => some v2) (some (@Neg.neg Int Int.instNegInt (1 : Int))) (k + 1) l u (((l.length : Nat) : Int)) ((i : Nat) : Int) = bif decide (val u (l.getD i 0) = 1) then some (i : Int) else l125v3_0 n (fun v2 => some v2) (some (@Neg.neg Int Int.instNegInt (1 : Int))) k l u (((l.length : Nat) : Int)) ((i + 1 : Nat) : Int) := by
    intro k i hi _
    have hxi := at_of (d := 0) hx hi
    have hri := at_of (d := 0) hr hi
    show F125v3_0 n _ _ _ l u _ _ = _
    unfold F125v3_0
    rw [ltT hi, idx_nat l i 0 hi, wS hi hl]
    simp only [cond_true, Option.bind_some]
    have e : F97 (l.getD i 0, ((u, ()), ())) = some (decide (val u (l.getD i 0) = 1)) := by
      show (F98 (u, (l.getD i 0, ()))).bind _ = _
      rw [F98_spec hu hxi.1 hri hxi.2]
      simp only [Option.bind_some, beqD]
    rw [e]
    rfl
  unfold anyB
  rcases scan l.length (fun k i => l125v3_0 n (fun v2 => some v2) (some (@Neg.neg Int Int.instNegInt (1 : Int))) k l u (((l.length : Nat) : Int)) ((i : Nat) : Int)) _ (fun j => some (j : Int)) (some (-1)) hst
    (fun k => by show F125v3_0 n _ _ _ l u _ _ = _; unfold F125v3_0; rw [ltF]; rfl) l.length n 0 (by omega) (by omega) (fun j hj => absurd hj (by omega)) with ⟨h1, j, h2⟩ | ⟨h1, h2⟩
  · rw [h1]
    refine (congrArg (fun o : Option Int => o.bind _) h2).trans ?_
    simp
  · rw [h1]
    exact congrArg (fun o : Option Int => o.bind _) h2

theorem T3_R {x : Int} (h : T3 x) : -9223372036854775808 ≤ x ∧ x < 9223372036854775808 := by rcases h with rfl | rfl | rfl <;> omega

theorem F93_spec {la : List (Int × Int)} {u w l : List Int} (hu : Tri u) (hl : l.length ≤ 2000) (hla : la.length ≤ 2000) (hx : ∀ x ∈ l, 2 ≤ x ∧ x / 2 ≤ la.length) :
    F93 (w, (la.map (fun p => val u p.1), ((l, ()), ()))) = some (!anyN l.length (badL la u l)) := by
  show ((G125v2 KF l (la.map (fun p => val u p.1))).bind _).bind _ = _
  have hk := KFbig
  revert hk
  generalize KF = n
  intro hk
  unfold G125v2
  have hst : ∀ k i, i < l.length → (∀ j, j < i → badL la u l j = false) → l125v2_0 n (fun v2 => some v2) (some (@Neg.neg Int Int.instNegInt (1 : Int))) (k + 1) l (la.map (fun p => val u p.1)) (((l.length : Nat) : Int)) ((i : Nat) : Int) = bif badL la u l i then some (i : Int) else l125v2_0 n (fun v2 => some v2) (some (@Neg.neg Int Int.instNegInt (1 : Int))) k l (la.map (fun p => val u p.1)) (((l.length : Nat) : Int)) ((i + 1 : Nat) : Int) := by
    intro k i hi _
    have hxi := at_of (d := 0) hx hi
    show F125v2_0 n _ _ _ l _ _ _ = _
    unfold F125v2_0
    rw [ltT hi, idx_nat l i 0 hi, wS hi hl]
    simp only [cond_true, Option.bind_some]
    have e : F94 (l.getD i 0, ((la.map (fun p => val u p.1), ()), ())) = some (badL la u l i) := by
      unfold badL
      revert hxi
      generalize l.getD i 0 = x
      intro hxi
      show G94 KF x _ = _
      unfold G94
      rw [td2 (by omega), w64 (n := x / 2) (by omega) (by omega), w64 (n := x / 2 - 1) (by omega) (by omega), idx_int _ (x / 2 - 1) 0 (by omega) (by rw [List.length_map]; omega), tm2 (by omega), w64 (n := 1 - x % 2) (by omega) (by omega)]
      have e2 : (la.map (fun p => val u p.1)).getD (x / 2 - 1).toNat 0 = val u (la.getD (x / 2 - 1).toNat (0, 0)).1 := by
        rw [List.getD_eq_getElem?_getD, List.getD_eq_getElem?_getD, List.getElem?_map, List.getElem?_eq_getElem (by omega)]
        rfl
      rw [e2]
      simp only [Option.bind_some]
      have ht := T3_R (val_T hu (la.getD (x / 2 - 1).toNat (0, 0)).1)
      rw [w64 ht.1 ht.2, bneD]
    rw [e]
    rfl
  rcases scan l.length (fun k i => l125v2_0 n (fun v2 => some v2) (some (@Neg.neg Int Int.instNegInt (1 : Int))) k l (la.map (fun p => val u p.1)) (((l.length : Nat) : Int)) ((i : Nat) : Int)) _ (fun j => some (j : Int)) (some (-1)) hst
    (fun k => by show F125v2_0 n _ _ _ l _ _ _ = _; unfold F125v2_0; rw [ltF]; rfl) l.length n 0 (by omega) (by omega) (fun j hj => absurd hj (by omega)) with ⟨h1, j, h2⟩ | ⟨h1, h2⟩
  · rw [h1]
    refine (congrArg (fun o : Option Int => (o.bind _).bind _) h2).trans ?_
    simp
  · rw [h1]
    exact congrArg (fun o : Option Int => (o.bind _).bind _) h2

section
variable {i : Int} {la g : List (Int × Int)} {ba co : List Int} (H : Rng i la g ba co) (O : OKc i la g ba co) (hc : chk i la g ba co = 0) {x1 x2 lits : List Int} (h1 : x1.length = la.length) (h2 : (x2.length : Int) = i) (t1 : Tri x1) (t2 : Tri x2) (hl : lits.length ≤ 2000) (hx : ∀ x ∈ lits, 2 ≤ x ∧ x / 2 ≤ la.length)
include H O hc h1 h2 t1 t2

theorem co_in : ∀ x ∈ co, 0 ≤ x ∧ x / 2 < (frame g x1 x2).length := by
  intro x hx
  have := O.wco x hx
  have := frame_len H O h1 h2 t1 t2
  omega
theorem ba_in : ∀ x ∈ ba, 0 ≤ x ∧ x / 2 < (frame g x1 x2).length := by
  intro x hx
  have := O.wba x hx
  have := frame_len H O h1 h2 t1 t2
  omega

include hl hx in
theorem F132_spec : F132 ((i, (la, (g, (ba, (co, ()))))), ((x1, ()), ((x2, ()), ((((lits, ()), ()), ()), ())))) = some (goesS la co lits (frame g x1 x2), (0, ())) := by
  show G132 KF i la g ba co x1 x2 lits = _
  unfold G132
  have ht := frame_tri H O h1 h2 t1 t2
  have n1 := H.nla
  have n4 := H.nco
  rw [F133_spec H O h1 h2 t1 t2 hc, F134_spec H O h1 h2 t1 t2 hc]
  simp only [Option.bind_some]
  rw [show ((0 : Int) != 0) = false by rfl]
  simp only [cond_false]
  rw [F82v1_spec ht (by omega) (co_in H O hc h1 h2 t1 t2) H.hco, F93_spec ht hl (by omega) hx]
  unfold goesS
  cases badC co (frame g x1 x2) <;> simp

theorem F132v1_spec : F132v1 ((i, (la, (g, (ba, (co, ()))))), ((x1, ()), ((x2, ()), ((((i, (la, (g, (ba, (co, ()))))), ()), ()), ())))) = some (goesB ba co (frame g x1 x2), (0, ())) := by
  show G132v1 KF i la g ba co x1 x2 i la g ba co = _
  unfold G132v1
  have ht := frame_tri H O h1 h2 t1 t2
  have n1 := H.nla
  have n3 := H.nba
  have n4 := H.nco
  rw [F133_spec H O h1 h2 t1 t2 hc, F134_spec H O h1 h2 t1 t2 hc]
  simp only [Option.bind_some]
  rw [show ((0 : Int) != 0) = false by rfl]
  simp only [cond_false]
  rw [F82v1_spec ht (by omega) (co_in H O hc h1 h2 t1 t2) H.hco]
  have e : F96 (frame g x1 x2, (la.map fun p => val (frame g x1 x2) p.1, ((i, (la, (g, (ba, (co, ()))))), ()))) = some (anyB ba (frame g x1 x2)) := by
    show (F82v3 (ba, (((frame g x1 x2, ()), ()), ()))).bind _ = _
    rw [F82v3_spec ht (by omega) (ba_in H O hc h1 h2 t1 t2) H.hba]
    rfl
  rw [e]
  unfold goesB
  cases badC co (frame g x1 x2) <;> simp

include hl hx in
theorem F156_spec (b : Bool) : F156 ((i, (la, (g, (ba, (co, ()))))), (x1, (x2, (lits, (b, ()))))) = some (bif b then goesB ba co (frame g x1 x2) else goesS la co lits (frame g x1 x2)) := by
  show G156 KF i la g ba co x1 x2 lits b = _
  have hk := KFbig
  revert hk
  generalize KF = n
  intro hk
  unfold G156
  have n1 := H.nla
  have n3 := H.nba
  have n4 := H.nco
  have i1 := O.i1
  have s1 := O.s1
  have ht := frame_tri H O h1 h2 t1 t2
  have hcin := co_in H O hc h1 h2 t1 t2
  have hbin := ba_in H O hc h1 h2 t1 t2
  have hlen := frame_len H O h1 h2 t1 t2
  rw [F166_spec H O h1 h2 t1 t2]
  simp only [Option.bind_some]
  revert ht hcin hbin hlen
  generalize frame g x1 x2 = u
  intro ht hcin hbin hlen
  have a1 : ∀ {R : Type} (k1 : (List Int) → Bool → Bool → (List Int) → Int → (List (Int × Int)) → (List (Int × Int)) → (List Int) → (List Int) → Option R) (k2 : (List Int) → Bool → (List Int) → Int → (List (Int × Int)) → (List (Int × Int)) → (List Int) → (List Int) → Option R),
      l156_0 n k1 k2 n lits b u ((0 : Nat) : Int) i la g ba co = bif badC co u then k1 lits b false u i la g ba co else k2 lits b u i la g ba co := by
    intro R k1 k2
    have hst : ∀ k j, j < co.length → (∀ j', j' < j → (!decide (val u (co.getD j' 0) = 1)) = false) → l156_0 n k1 k2 (k + 1) lits b u ((j : Nat) : Int) i la g ba co = bif (!decide (val u (co.getD j 0) = 1)) then k1 lits b false u i la g ba co else l156_0 n k1 k2 k lits b u ((j + 1 : Nat) : Int) i la g ba co := by
      intro k j hj _
      have hxj := at_of (d := 0) hcin hj
      show F156_0 n _ _ _ lits b u _ i la g ba co = _
      unfold F156_0
      rw [ltT hj, idx_nat co j 0 hj, wS hj (by omega)]
      simp only [cond_true, Option.bind_some]
      rw [F167_spec ht hxj.1 (at_of (d := 0) H.hco hj) hxj.2]
      simp only [Option.bind_some, bneD]
    unfold badC
    rcases scan co.length (fun k j => l156_0 n k1 k2 k lits b u ((j : Nat) : Int) i la g ba co) _ (fun _ => k1 lits b false u i la g ba co) (k2 lits b u i la g ba co) hst
      (fun k => by show F156_0 n _ _ _ lits b u _ i la g ba co = _; unfold F156_0; rw [ltF]; rfl) co.length n 0 (by omega) (by omega) (fun j hj => absurd hj (by omega)) with ⟨h1, j, h2⟩ | ⟨h1, h2⟩
    · rw [h1]; exact h2
    · rw [h1]; exact h2
  have a2 : ∀ {R : Type} (k1 : Bool → Option R) (k2 : Option R), l156_2 n k1 k2 n u ((0 : Nat) : Int) i la g ba co = bif anyB ba u then k1 true else k2 := by
    intro R k1 k2
    have hst : ∀ k j, j < ba.length → (∀ j', j' < j → decide (val u (ba.getD j' 0) = 1) = false) → l156_2 n k1 k2 (k + 1) u ((j : Nat) : Int) i la g ba co = bif decide (val u (ba.getD j 0) = 1) then k1 true else l156_2 n k1 k2 k u ((j + 1 : Nat) : Int) i la g ba co := by
      intro k j hj _
      have hxj := at_of (d := 0) hbin hj
      show F156_2 n _ _ _ u _ i la g ba co = _
      unfold F156_2
      rw [ltT hj, idx_nat ba j 0 hj, wS hj (by omega)]
      simp only [cond_true, Option.bind_some]
      rw [F167_spec ht hxj.1 (at_of (d := 0) H.hba hj) hxj.2]
      simp only [Option.bind_some, beqD]
    unfold anyB
    rcases scan ba.length (fun k j => l156_2 n k1 k2 k u ((j : Nat) : Int) i la g ba co) _ (fun _ => k1 true) k2 hst
      (fun k => by show F156_2 n _ _ _ u _ i la g ba co = _; unfold F156_2; rw [ltF]; rfl) ba.length n 0 (by omega) (by omega) (fun j hj => absurd hj (by omega)) with ⟨h1, j, h2⟩ | ⟨h1, h2⟩
    · rw [h1]; exact h2
    · rw [h1]; exact h2
  have a3 : ∀ {R : Type} (k1 : Bool → Option R) (k2 : Option R), l156_4 n k1 k2 n lits u ((0 : Nat) : Int) i la g ba co = bif anyN lits.length (badL la u lits) then k1 false else k2 := by
    intro R k1 k2
    have hst : ∀ k j, j < lits.length → (∀ j', j' < j → badL la u lits j' = false) → l156_4 n k1 k2 (k + 1) lits u ((j : Nat) : Int) i la g ba co = bif badL la u lits j then k1 false else l156_4 n k1 k2 k lits u ((j + 1 : Nat) : Int) i la g ba co := by
      intro k j hj _
      have hxj := at_of (d := 0) hx hj
      show F156_4 n _ _ _ lits u _ i la g ba co = _
      unfold F156_4
      rw [ltT hj, idx_nat lits j 0 hj, wS hj (by omega)]
      simp only [cond_true, Option.bind_some]
      unfold badL
      revert hxj
      generalize lits.getD j 0 = x
      intro hxj
      have hin : (x / 2 - 1).toNat < la.length := by omega
      have hw := at_of (d := ((0 : Int), (0 : Int))) O.wla hin
      have hrr := at_of (d := ((0 : Int), (0 : Int))) H.hla hin
      rw [tm2 (x := x) (by omega), td2 (x := x) (by omega), w64 (n := x / 2) (by omega) (by omega), w64 (n := x / 2 - 1) (by omega) (by omega), idx_int la (x / 2 - 1) (0, 0) (by omega) hin]
      revert hw hrr
      generalize la.getD (x / 2 - 1).toNat (0, 0) = q
      intro hw hrr
      simp only [Option.bind_some]
      rw [F167_spec ht hw.1 hrr.1 (by omega)]
      simp only [Option.bind_some, bneD, beqD]
      rcases (show x % 2 = 0 ∨ x % 2 = 1 by omega) with h' | h' <;> simp [h']
    rcases scan lits.length (fun k j => l156_4 n k1 k2 k lits u ((j : Nat) : Int) i la g ba co) _ (fun _ => k1 false) k2 hst
      (fun k => by show F156_4 n _ _ _ lits u _ i la g ba co = _; unfold F156_4; rw [ltF]; rfl) lits.length n 0 (by omega) (by omega) (fun j hj => absurd hj (by omega)) with ⟨h1, j, h2⟩ | ⟨h1, h2⟩
    · rw [h1]; exact h2
    · rw [h1]; exact h2
  refine (a1 _ _).trans ?_
  unfold goesB goesS
  cases badC co u with
  | true => cases b <;> rfl
  | false =>
    cases b with
    | true =>
      refine (a2 _ _).trans ?_
      cases anyB ba u <;> rfl
    | false =>
      refine (a3 _ _).trans ?_
      cases anyN lits.length (badL la u lits) <;> rfl

end

/-! ### the smallest -/
def lit3 (j e : Int) : Int := Go.IntKind.wrap .i64 ((Go.IntKind.wrap .i64 ((Go.IntKind.wrap .i64 ((2 : Int) * j)) + (3 : Int))) - (Go.IntKind.wrap .i64 e))
def nextM (f : List Int → Bool) (j : Nat) (s : List Int × List Int) : List Int × List Int :=
  bif !f (s.1.set j 2) then ((s.1.set j 2).set j (s.1.getD j 0), s.2 ++ [lit3 j (s.1.getD j 0)]) else (s.1.set j 2, s.2)
def run (f : List Int → Bool) (s0 : List Int) : Nat → List Int × List Int
  | 0 => (s0, [])
  | j + 1 => nextM f j (run f s0 j)

theorem tri_set {s : List Int} (h : Tri s) (j : Nat) {x : Int} (hx : T3 x) : Tri (s.set j x) := by
  intro y hy
  rcases List.mem_or_eq_of_mem_set hy with h' | rfl
  · exact h y h'
  · exact hx

theorem run_inv (f : List Int → Bool) {s0 : List Int} (h : Tri s0) : ∀ j, (run f s0 j).1.length = s0.length ∧ Tri (run f s0 j).1 ∧ (run f s0 j).2.length ≤ j
  | 0 => ⟨rfl, h, Nat.le_refl _⟩
  | j + 1 => by
    obtain ⟨h1, h2, h3⟩ := run_inv f h j
    have t2 : T3 2 := .inr (.inr rfl)
    show (nextM f j (run f s0 j)).1.length = _ ∧ Tri (nextM f j (run f s0 j)).1 ∧ (nextM f j (run f s0 j)).2.length ≤ _
    unfold nextM
    cases (!f ((run f s0 j).1.set j 2)) with
    | true => exact ⟨by simp [h1], tri_set (tri_set h2 _ t2) _ (getD_mem h2 t0 _), by simp; omega⟩
    | false => exact ⟨by simp [h1], tri_set h2 _ t2, by show (run f s0 j).2.length ≤ _; omega⟩

section
variable {i : Int} {la g : List (Int × Int)} {ba co : List Int} {x2 lits s0 : List Int} {f : List Int → Bool} (hs : s0.length ≤ 2000) (ht : Tri s0)
include hs ht

theorem l92_spec (n : Nat) (hk : 4000 ≤ n) (k0 : Int → List Int → Option ((List Int) × (Int × Unit))) (k1 : List Int → Option ((List Int) × (Int × Unit)))
    (hf : ∀ s : List Int, s.length = s0.length → Tri s → F132 ((i, (la, (g, (ba, (co, ()))))), ((s, ()), ((x2, ()), ((((lits, ()), ()), ()), ())))) = some (f s, (0, ()))) :
    l92_0 n k0 k1 n ((s0.length : Nat) : Int) 0 i la g ba co lits s0 x2 [] = k1 (run f s0 s0.length).2 := by
  have hL := LIMbig
  obtain ⟨s', h1, h2⟩ := iter s0.length (fun k j (s : List Int × List Int) => l92_0 n k0 k1 k ((s0.length : Nat) : Int) ((j : Nat) : Int) i la g ba co lits s.1 x2 s.2) (fun s => k1 s.2) (fun j s => s = run f s0 j)
    (by
      rintro k j s hj rfl
      refine ⟨run f s0 (j + 1), ?_, rfl⟩
      obtain ⟨i1, i2, i3⟩ := run_inv f ht j
      show F92_0 n k0 k1 _ _ _ i la g ba co lits _ x2 _ = l92_0 n k0 k1 k _ _ i la g ba co lits (nextM f j (run f s0 j)).1 x2 (nextM f j (run f s0 j)).2
      unfold nextM
      revert i1 i2 i3
      generalize run f s0 j = s
      intro i1 i2 i3
      unfold F92_0
      rw [ltT hj, wS hj hs, Int.toNat_natCast]
      rw [show (decide ((0 : Int) ≤ (j : Int)) && decide (j < s.1.length)) = true by simp; omega]
      rw [show (decide ((0 : Int) ≤ (j : Int)) && decide (j < (s.1.set j 2).length)) = true by simp; omega]
      rw [show s.1[j]? = some (s.1.getD j 0) by rw [List.getD_eq_getElem?_getD, List.getElem?_eq_getElem (by omega)]; rfl]
      rw [show (s.1.set j 2)[j]? = some 2 by rw [List.getElem?_set]; simp; omega]
      simp only [cond_true, Option.bind_some]
      rw [hf _ (by simp [i1]) (tri_set i2 _ (.inr (.inr rfl)))]
      simp only [Option.bind_some]
      rw [show ((0 : Int) != 0) = false by rfl, cond_false]
      cases f (s.1.set j 2) with
      | true => rfl
      | false =>
        simp only [Bool.not_false, cond_true]
        rw [show decide (s.2.length + ((Go.IntKind.wrap Go.IntKind.i64 ((Go.IntKind.wrap Go.IntKind.i64 ((Go.IntKind.wrap Go.IntKind.i64 ((2 : Int) * (j : Int))) + (3 : Int))) - (Go.IntKind.wrap Go.IntKind.i64 (s.1.getD j 0)))) :: ([] : List Int)).length ≤ LIM) = true by simp only [decide_eq_true_eq, List.length_cons, List.length_nil]; omega]
        rfl)
    (by
      rintro k s _
      show F92_0 n k0 k1 _ _ _ i la g ba co lits _ x2 _ = _
      unfold F92_0
      rw [ltF]
      rfl) s0.length n 0 (s0, []) (by omega) (by omega) rfl
  rw [← h1]
  exact h2

theorem l92v1_spec (n : Nat) (hk : 4000 ≤ n) (k0 : Int → List Int → Option ((List Int) × (Int × Unit))) (k1 : List Int → Option ((List Int) × (Int × Unit)))
    (hf : ∀ s : List Int, s.length = s0.length → Tri s → F132v1 ((i, (la, (g, (ba, (co, ()))))), ((s, ()), ((x2, ()), ((((i, (la, (g, (ba, (co, ()))))), ()), ()), ())))) = some (f s, (0, ()))) :
    l92v1_0 n k0 k1 n ((s0.length : Nat) : Int) 0 i la g ba co i la g ba co s0 x2 [] = k1 (run f s0 s0.length).2 := by
  have hL := LIMbig
  obtain ⟨s', h1, h2⟩ := iter s0.length (fun k j (s : List Int × List Int) => l92v1_0 n k0 k1 k ((s0.length : Nat) : Int) ((j : Nat) : Int) i la g ba co i la g ba co s.1 x2 s.2) (fun s => k1 s.2) (fun j s => s = run f s0 j)
    (by
      rintro k j s hj rfl
      refine ⟨run f s0 (j + 1), ?_, rfl⟩
      obtain ⟨i1, i2, i3⟩ := run_inv f ht j
      show F92v1_0 n k0 k1 _ _ _ i la g ba co i la g ba co _ x2 _ = l92v1_0 n k0 k1 k _ _ i la g ba co i la g ba co (nextM f j (run f s0 j)).1 x2 (nextM f j (run f s0 j)).2
      unfold nextM
      revert i1 i2 i3
      generalize run f s0 j = s
      intro i1 i2 i3
      unfold F92v1_0
      rw [ltT hj, wS hj hs, Int.toNat_natCast]
      rw [show (decide ((0 : Int) ≤ (j : Int)) && decide (j < s.1.length)) = true by simp; omega]
      rw [show (decide ((0 : Int) ≤ (j : Int)) && decide (j < (s.1.set j 2).length)) = true by simp; omega]
      rw [show s.1[j]? = some (s.1.getD j 0) by rw [List.getD_eq_getElem?_getD, List.getElem?_eq_getElem (by omega)]; rfl]
      rw [show (s.1.set j 2)[j]? = some 2 by rw [List.getElem?_set]; simp; omega]
      simp only [cond_true, Option.bind_some]
      rw [hf _ (by simp [i1]) (tri_set i2 _ (.inr (.inr rfl)))]
      simp only [Option.bind_some]
      rw [show ((0 : Int) != 0) = false by rfl, cond_false]
      cases f (s.1.set j 2) with
      | true => rfl
      | false =>
        simp only [Bool.not_false, cond_true]
        rw [show decide (s.2.length + ((Go.IntKind.wrap Go.IntKind.i64 ((Go.IntKind.wrap Go.IntKind.i64 ((Go.IntKind.wrap Go.IntKind.i64 ((2 : Int) * (j : Int))) + (3 : Int))) - (Go.IntKind.wrap Go.IntKind.i64 (s.1.getD j 0)))) :: ([] : List Int)).length ≤ LIM) = true by simp only [decide_eq_true_eq, List.length_cons, List.length_nil]; omega]
        rfl)
    (by
      rintro k s _
      show F92v1_0 n k0 k1 _ _ _ i la g ba co i la g ba co _ x2 _ = _
      unfold F92v1_0
      rw [ltF]
      rfl) s0.length n 0 (s0, []) (by omega) (by omega) rfl
  rw [← h1]
  exact h2

theorem l136_spec (n : Nat) (hk : 4000 ≤ n) {R : Type} (k0 : List Int → Option R) (b : Bool)
    (hf : ∀ s : List Int, s.length = s0.length → Tri s → F156 ((i, (la, (g, (ba, (co, ()))))), (s, (x2, (lits, (b, ()))))) = some (f s)) :
    l136_0 n k0 n lits b 0 i la g ba co s0 x2 [] = k0 (run f s0 s0.length).2 := by
  have hL := LIMbig
  obtain ⟨s', h1, h2⟩ := iter s0.length (fun k j (s : List Int × List Int) => l136_0 n k0 k lits b ((j : Nat) : Int) i la g ba co s.1 x2 s.2) (fun s => k0 s.2) (fun j s => s = run f s0 j)
    (by
      rintro k j s hj rfl
      refine ⟨run f s0 (j + 1), ?_, rfl⟩
      obtain ⟨i1, i2, i3⟩ := run_inv f ht j
      show F136_0 n k0 _ lits b _ i la g ba co _ x2 _ = l136_0 n k0 k lits b _ i la g ba co (nextM f j (run f s0 j)).1 x2 (nextM f j (run f s0 j)).2
      unfold nextM
      revert i1 i2 i3
      generalize run f s0 j = s
      intro i1 i2 i3
      unfold F136_0
      rw [ltT (show j < s.1.length by omega), wS hj hs, Int.toNat_natCast]
      rw [show (decide ((0 : Int) ≤ (j : Int)) && decide (j < s.1.length)) = true by simp; omega]
      rw [show (decide ((0 : Int) ≤ (j : Int)) && decide (j < (s.1.set j 2).length)) = true by simp; omega]
      rw [show s.1[j]? = some (s.1.getD j 0) by rw [List.getD_eq_getElem?_getD, List.getElem?_eq_getElem (by omega)]; rfl]
      rw [show (s.1.set j 2)[j]? = some 2 by rw [List.getElem?_set]; simp; omega]
      simp only [cond_true, Option.bind_some]
      rw [hf _ (by simp [i1]) (tri_set i2 _ (.inr (.inr rfl)))]
      simp only [Option.bind_some]
      cases f (s.1.set j 2) with
      | true => rfl
      | false =>
        simp only [Bool.not_false, cond_true]
        rw [show decide (s.2.length + ((Go.IntKind.wrap Go.IntKind.i64 ((Go.IntKind.wrap Go.IntKind.i64 ((Go.IntKind.wrap Go.IntKind.i64 ((2 : Int) * (j : Int))) + (3 : Int))) - (Go.IntKind.wrap Go.IntKind.i64 (s.1.getD j 0)))) :: ([] : List Int)).length ≤ LIM) = true by simp only [decide_eq_true_eq, List.length_cons, List.length_nil]; omega]
        rfl)
    (by
      rintro k s hs'
      show F136_0 n k0 _ lits b _ i la g ba co _ x2 _ = _
      unfold F136_0
      have : s.1.length = s0.length := by rw [hs']; exact (run_inv f ht _).1
      rw [this, ltF]
      rfl) s0.length n 0 (s0, []) (by omega) (by omega) rfl
  rw [← h1]
  exact h2

end
end Go.Proofs.Ytbcijglbinaioaa.Ev.Pure6
