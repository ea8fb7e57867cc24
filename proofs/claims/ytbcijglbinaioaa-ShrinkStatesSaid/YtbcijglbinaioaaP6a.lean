/- ShrinkStates: plain laws. Arithmetic, scans, the checks. -/
import Derived.Test.YtbcijglbinaioaaF1
set_option linter.unusedVariables false
set_option linter.unusedSimpArgs false
set_option linter.unusedSectionVars false
set_option linter.unnecessarySimpa false
namespace Go.Proofs.Ytbcijglbinaioaa.Ev.Pure6
open Go.Proofs.Ytbcijglbinaioaa.Ev

theorem KFbig : 4000 ≤ KF := by unfold KF; omega

def R64 (x : Int) : Prop := -9223372036854775808 ≤ x ∧ x < 9223372036854775808

theorem w64 {n : Int} (h : -9223372036854775808 ≤ n) (h' : n < 9223372036854775808) : Go.IntKind.wrap .i64 n = n := by
  rw [Go.IntKind.wrap_i64]; omega

theorem fd2 (x : Int) : Int.fdiv x ((2 : Int) ^ (@Min.min Nat instMinNat (Int.toNat (1 : Int)) (Go.IntKind.bits Go.IntKind.i64))) = x / 2 := by
  have : ((2 : Int) ^ (@Min.min Nat instMinNat (Int.toNat (1 : Int)) (Go.IntKind.bits Go.IntKind.i64))) = 2 := by rfl
  rw [this, Int.fdiv_eq_ediv_of_nonneg _ (by omega)]
theorem td2 {x : Int} (h : 0 ≤ x) : Int.tdiv x 2 = x / 2 := Int.tdiv_eq_ediv_of_nonneg h
theorem tm2 {x : Int} (h : 0 ≤ x) : Int.tmod x 2 = x % 2 := Int.tmod_eq_emod_of_nonneg h
theorem and1 {x : Int} (h : 0 ≤ x) (h' : x < 9223372036854775808) : bitI .and .i64 x 1 = x % 2 := by
  obtain ⟨m, rfl⟩ := Int.eq_ofNat_of_zero_le h
  show Go.IntKind.wrap .i64 (((BitVec.ofInt 64 (m : Int) &&& BitVec.ofInt 64 (1 : Int)).toNat : Nat) : Int) = _
  rw [BitVec.toNat_and]
  have e1 : (BitVec.ofInt 64 (1 : Int)).toNat = 1 := by rfl
  have e2 : (BitVec.ofInt 64 (m : Int)).toNat = m := by
    rw [BitVec.toNat_ofInt]; omega
  rw [e1, e2, Nat.and_one_is_mod, w64 (by omega) (by omega)]
  omega

theorem idx_nat {α : Type} (l : List α) (i : Nat) (d : α) (h : i < l.length) : idxL l (i : Int) = some (l.getD i d) := by
  unfold idxL
  rw [if_pos (by omega), Int.toNat_natCast, List.getElem?_eq_getElem h, List.getD_eq_getElem?_getD, List.getElem?_eq_getElem h]
  rfl
theorem idx_int {α : Type} (l : List α) (x : Int) (d : α) (h0 : 0 ≤ x) (h : x.toNat < l.length) : idxL l x = some (l.getD x.toNat d) := by
  obtain ⟨m, rfl⟩ := Int.eq_ofNat_of_zero_le h0
  exact idx_nat l m d (by simpa using h)

theorem getD_mem {α : Type} {Q : α → Prop} {l : List α} {d : α} (h : ∀ x ∈ l, Q x) (hd : Q d) (j : Nat) : Q (l.getD j d) := by
  rw [List.getD_eq_getElem?_getD]
  cases e : l[j]? with
  | none => exact hd
  | some x => exact h x (List.mem_of_getElem? e)

def anyN (n : Nat) (p : Nat → Bool) : Bool := (List.range n).any p
theorem anyN_true {n : Nat} {p : Nat → Bool} : anyN n p = true ↔ ∃ j, j < n ∧ p j = true := by simp [anyN]
theorem anyN_false {n : Nat} {p : Nat → Bool} : anyN n p = false ↔ ∀ j, j < n → p j = false := by simp [anyN]

theorem scan {R : Type} (n : Nat) (L : Nat → Nat → Option R) (p : Nat → Bool) (yes : Nat → Option R) (no : Option R)
    (step : ∀ k i, i < n → (∀ j, j < i → p j = false) → L (k + 1) i = bif p i then yes i else L k (i + 1)) (stop : ∀ k, L (k + 1) n = no) :
    ∀ d k i, n = i + d → d < k → (∀ j, j < i → p j = false) → (anyN n p = true ∧ ∃ j, L k i = yes j) ∨ (anyN n p = false ∧ L k i = no)
  | _, 0, _, _, h, _ => absurd h (by omega)
  | 0, k + 1, i, hn, _, hf => by
    obtain rfl : n = i := by omega
    exact .inr ⟨anyN_false.2 hf, stop k⟩
  | d + 1, k + 1, i, hn, hk, hf => by
    rw [step k i (by omega) hf]
    cases hp : p i with
    | true => exact .inl ⟨anyN_true.2 ⟨i, by omega, hp⟩, i, rfl⟩
    | false =>
      refine scan n L p yes no step stop d k (i + 1) (by omega) (by omega) fun j hj => ?_
      rcases Nat.lt_succ_iff_lt_or_eq.1 hj with h | rfl
      · exact hf j h
      · exact hp

theorem iter {S R : Type} (n : Nat) (L : Nat → Nat → S → Option R) (done : S → Option R) (I : Nat → S → Prop)
    (step : ∀ k i s, i < n → I i s → ∃ s', L (k + 1) i s = L k (i + 1) s' ∧ I (i + 1) s') (stop : ∀ k s, I n s → L (k + 1) n s = done s) :
    ∀ d k i s, n = i + d → d < k → I i s → ∃ s', I n s' ∧ L k i s = done s'
  | _, 0, _, _, _, h, _ => absurd h (by omega)
  | 0, k + 1, i, s, hn, _, hI => by
    obtain rfl : n = i := by omega
    exact ⟨s, hI, stop k s hI⟩
  | d + 1, k + 1, i, s, hn, hk, hI => by
    obtain ⟨s', h1, h2⟩ := step k i s (by omega) hI
    rw [h1]
    exact iter n L done I step stop d k (i + 1) s' (by omega) (by omega) h2

theorem ltT {i n : Nat} (h : i < n) : decide ((i : Int) < ((n : Nat) : Int)) = true := by simpa using h
theorem ltF (n : Nat) : decide ((n : Int) < ((n : Nat) : Int)) = false := by simp
theorem wS {i n : Nat} (h : i < n) (hn : n ≤ 2000) : Go.IntKind.wrap .i64 ((i : Int) + 1) = ((i + 1 : Nat) : Int) := by
  rw [w64 (by omega) (by omega)]; simp

/-- The arguments' ranges. -/
structure Rng (i : Int) (la g : List (Int × Int)) (ba co : List Int) : Prop where
  hi : R64 i
  hla : ∀ p ∈ la, R64 p.1 ∧ R64 p.2
  hg : ∀ p ∈ g, R64 p.1 ∧ R64 p.2
  hba : ∀ x ∈ ba, R64 x
  hco : ∀ x ∈ co, R64 x
  nla : la.length ≤ 200
  ng : g.length ≤ 200
  nba : ba.length ≤ 200
  nco : co.length ≤ 200

def badLit (sz x : Int) : Bool := decide (x < 0) || decide (sz < x / 2)
def badLatch (sz : Int) (p : Int × Int) : Bool := badLit sz p.1 || (decide (p.2 < 0) || decide (2 < p.2))
def badGate (b : Int) (p : Int × Int) : Bool := decide (p.2 < 0) || (decide (p.1 < p.2) || decide (b < p.1 / 2))

theorem r0 : R64 0 := ⟨by omega, by omega⟩

theorem F101_spec (l : List Int) (sz : Int) (hl : l.length ≤ 2000) (hr : ∀ x ∈ l, R64 x) : F101 (l, (sz, ())) = some (!anyN l.length fun j => badLit sz (l.getD j 0)) := by
  show G101 KF l sz = _
  have hk := KFbig
  revert hk
  generalize KF = n
  intro hk
  unfold G101
  have hst : ∀ k i, i < l.length → (∀ j, j < i → badLit sz (l.getD j 0) = false) → l101_0 n (fun v3 => some v3) (some Bool.true) (k + 1) l sz ((i : Nat) : Int) = bif badLit sz (l.getD i 0) then some Bool.false else l101_0 n (fun v3 => some v3) (some Bool.true) k l sz ((i + 1 : Nat) : Int) := by
    intro k i hi _
    have hx := getD_mem (d := 0) hr r0 i
    show F101_0 n _ _ _ l sz _ = _
    unfold F101_0
    rw [ltT hi, idx_nat l i 0 hi, wS hi hl]
    revert hx
    generalize l.getD i 0 = x
    intro hx
    simp only [cond_true, cond_false, Option.bind_some, badLit]
    by_cases h : x < 0
    · simp [h]
    · rw [td2 (by omega), w64 (by omega) (by have := hx.2; omega)]
      simp only [h, decide_false, cond_false, Option.bind_some, Bool.false_or, gt_iff_lt]
  rcases scan l.length (fun k i => l101_0 n (fun v3 => some v3) (some Bool.true) k l sz ((i : Nat) : Int)) _ (fun _ => some Bool.false) (some Bool.true) hst
    (fun k => by show F101_0 n _ _ _ l sz _ = _; unfold F101_0; rw [ltF]; rfl) l.length n 0 (by omega) (by omega) (fun j hj => absurd hj (by omega)) with ⟨h1, j, h2⟩ | ⟨h1, h2⟩
  · rw [h1]; exact h2
  · rw [h1]; exact h2

end Go.Proofs.Ytbcijglbinaioaa.Ev.Pure6
