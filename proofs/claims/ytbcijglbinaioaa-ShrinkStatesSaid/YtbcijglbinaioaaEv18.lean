/- The evaluator: the types' table, checked. -/
import Derived.Test.YtbcijglbinaioaaEv17
set_option linter.unusedVariables false
set_option linter.unusedSimpArgs false
set_option linter.unusedSectionVars false
set_option linter.unnecessarySimpa false
namespace Go.Proofs.Ytbcijglbinaioaa.Ev
open Go.RowKit Go.Shelf
section
variable {P : Program}

def zmV : List Value → List Value → Bool
  | [], [] => true
  | .int k n :: l, .int k' m :: vs => decide (k = k') && (decide (n = m) && zmV l vs)
  | .bool a :: l, .bool b :: vs => (a == b) && zmV l vs
  | .slice none a b :: l, .slice none n c :: vs => decide (n = a) && (decide (c = b) && zmV l vs)
  | _, _ => false

theorem zmV_ok : ∀ {l vs : List Value}, zmV l vs = true → vs = l
  | [], [], _ => rfl
  | .int k n :: l, .int k' m :: vs, h => by
    simp only [zmV, Bool.and_eq_true, decide_eq_true_eq] at h
    obtain ⟨rfl, rfl, h⟩ := h
    rw [zmV_ok h]
  | .bool a :: l, .bool b :: vs, h => by
    simp only [zmV, Bool.and_eq_true, beq_iff_eq] at h
    obtain ⟨rfl, h⟩ := h
    rw [zmV_ok h]
  | .slice none a b :: l, .slice none n c :: vs, h => by
    simp only [zmV, Bool.and_eq_true, decide_eq_true_eq] at h
    obtain ⟨rfl, rfl, h⟩ := h
    rw [zmV_ok h]

def shB (P : Program) (t : Nat) : Sh → Bool
  | .plain => true
  | .bool => match P.underlying t with
    | some .bool => true
    | _ => false
  | .int k => match P.underlying t with
    | some (.int k') => decide (k' = k)
    | _ => false
  | .sl e ty => match P.underlying t with
    | some (.slice e') => decide (e' = e) && (match P.info? e with
      | some i => decide (i.size = ty.sz) && (decide (i.bytes ≤ 128) && (match i.zero with
        | some z => zmV (zc ty) z.cells.toList
        | none => false))
      | none => false)
    | _ => false
  | .st fs => match P.underlying t with
    | some (.struct flds) => decide (flds.size = fs.length) && (List.range fs.length).all fun j => match fs[j]?, flds[j]? with
      | some (off, n, ft), some fl => decide (fl.offset = off) && (decide (fl.type = ft) && (decide (0 < n) && (match P.info? ft with
        | some i => decide (i.size = n)
        | none => false)))
      | _, _ => false
    | _ => false
  | .ar n e esz => match P.underlying t with
    | some (.array n' e') => decide (n' = n) && (decide (e' = e) && ((match P.info? e with
      | some i => decide (i.size = esz)
      | none => false) && (decide (esz ≠ 1) || (match P.underlying e with
      | some u => !aggT u
      | none => false))))
    | _ => false

theorem shB_ok {t : Nat} {sh : Sh} (h : shB P t sh = true) : ShOk P t sh := by
  unfold shB at h
  cases sh with
  | plain => trivial
  | bool =>
    simp only [] at h
    split at h <;> try contradiction
    assumption
  | int k =>
    simp only [] at h
    split at h <;> try contradiction
    rename_i hu
    simp only [decide_eq_true_eq] at h
    subst h
    exact hu
  | sl e ty =>
    simp only [] at h
    split at h <;> try contradiction
    rename_i e' hu
    simp only [Bool.and_eq_true, decide_eq_true_eq] at h
    obtain ⟨rfl, h⟩ := h
    split at h <;> try contradiction
    rename_i i hi
    simp only [Bool.and_eq_true, decide_eq_true_eq] at h
    obtain ⟨h1, h2, h3⟩ := h
    split at h3 <;> try contradiction
    rename_i z hz
    exact ⟨hu, i, z, hi, h1, hz, zmV_ok h3, h2⟩
  | st fs =>
    simp only [] at h
    split at h <;> try contradiction
    rename_i flds hu
    simp only [Bool.and_eq_true, decide_eq_true_eq, List.all_eq_true, List.mem_range] at h
    obtain ⟨h1, h2⟩ := h
    refine ⟨flds, hu, h1, fun j off n ft hj => ?_⟩
    have := h2 j (List.getElem?_eq_some_iff.1 hj).1
    rw [hj] at this
    try dsimp only at this
    split at this <;> try contradiction
    rename_i x1 x2 off' n' ft' fl hq hfl
    simp only [Option.some.injEq, Prod.mk.injEq] at hq
    obtain ⟨rfl, rfl, rfl⟩ := hq
    simp only [Bool.and_eq_true, decide_eq_true_eq] at this
    obtain ⟨e1, e2, e3, e4⟩ := this
    split at e4 <;> try contradiction
    rename_i i hi
    simp only [decide_eq_true_eq] at e4
    exact ⟨fl, i, hfl, e1, e2, hi, e4, e3⟩
  | ar n e esz =>
    simp only [] at h
    split at h <;> try contradiction
    rename_i n' e' hu
    simp only [Bool.and_eq_true, decide_eq_true_eq] at h
    obtain ⟨rfl, rfl, h3, h4⟩ := h
    split at h3 <;> try contradiction
    rename_i i hi
    simp only [decide_eq_true_eq] at h3
    refine ⟨hu, i, hi, h3, fun h1 => ?_⟩
    rw [h1] at h4
    simp only [ne_eq, not_true_eq_false, decide_false, Bool.false_or] at h4
    split at h4 <;> try contradiction
    rename_i u hu'
    exact ⟨u, hu', by simpa using h4⟩

def eqB (P : Program) (t n : Nat) : Bool :=
  !P.eqGuardType P.depth t && (!P.stoodInHeld t && (match P.underlying t with
    | some (.struct flds) => decide (flds.size = n) && (List.range flds.size).all fun j => match flds[j]? with
      | some fl => decide (fl.name ≠ "_") && (decide (fl.offset = j) && (match P.underlying fl.type with
        | some (.int _) => true
        | _ => false))
      | none => false
    | _ => false))

theorem eqB_ok {t n : Nat} (h : eqB P t n = true) : EqOk P t n := by
  simp only [eqB, Bool.and_eq_true, Bool.not_eq_true'] at h
  obtain ⟨h1, h2, h3⟩ := h
  split at h3 <;> try contradiction
  rename_i flds hu
  simp only [Bool.and_eq_true, decide_eq_true_eq, List.all_eq_true, List.mem_range] at h3
  obtain ⟨h3, h4⟩ := h3
  refine ⟨h1, h2, flds, hu, h3, fun j fl hj => ?_⟩
  have := h4 j (Array.getElem?_eq_some_iff.1 hj).1
  rw [hj] at this
  simp only [Bool.and_eq_true, decide_eq_true_eq] at this
  obtain ⟨e1, e2, e3⟩ := this
  split at e3 <;> try contradiction
  rename_i k hk
  exact ⟨e1, e2, k, hk⟩

def tB (P : Program) (t : Nat) (d : TD) : Bool :=
  (match P.info? t with
    | some i => decide (i.size = d.size) && (match i.zero with
      | some z => zm d.zero z.cells.toList
      | none => false)
    | none => false) &&
  ((match P.underlying t with
    | some u => aggT u == d.agg
    | none => false) &&
  ((d.agg || decide (d.size = 1)) && ((!d.eq || eqB P t d.size) && shB P t d.sh)))

theorem tB_ok {t : Nat} {d : TD} (h : tB P t d = true) : TOk P t d := by
  simp only [tB, Bool.and_eq_true, Bool.or_eq_true, Bool.not_eq_true', decide_eq_true_eq] at h
  obtain ⟨h1, h2, h3, h4, h5⟩ := h
  split at h1 <;> try contradiction
  rename_i i hi
  simp only [Bool.and_eq_true, decide_eq_true_eq] at h1
  obtain ⟨h1, h6⟩ := h1
  split at h6 <;> try contradiction
  rename_i z hz
  split at h2 <;> try contradiction
  rename_i u hu
  exact ⟨⟨i, z, hi, h1, hz, h6⟩, ⟨u, hu, by simpa using h2⟩, fun e => h3.resolve_left (by rw [e]; simp), fun e => eqB_ok (h4.resolve_left (by rw [e]; simp)), shB_ok h5⟩

def dB (P : Program) (D : List (Nat × TD)) : Bool := D.all fun p => tB P p.1 p.2

theorem dB_ok {D : List (Nat × TD)} (h : dB P D = true) : DOk P D := by
  intro t d hf
  simp only [dB, List.all_eq_true] at h
  refine tB_ok (?_ : tB P t d = true)
  induction D with
  | nil => simp [findD] at hf
  | cons p D ih =>
    simp only [findD] at hf
    split at hf
    · rename_i e
      subst e
      simp only [Option.some.injEq] at hf
      subst hf
      exact h p (by simp)
    · exact ih hf fun q hq => h q (by simp [hq])

end
end Go.Proofs.Ytbcijglbinaioaa.Ev
