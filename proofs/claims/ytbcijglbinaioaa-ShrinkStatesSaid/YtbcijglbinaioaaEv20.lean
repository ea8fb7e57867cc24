/- The evaluator: the arguments of a law, read. -/
import Derived.Test.YtbcijglbinaioaaEv19
import Derived.ChangeArms
set_option linter.unusedVariables false
set_option linter.unusedSimpArgs false
set_option linter.unusedSectionVars false
set_option linter.unnecessarySimpa false
namespace Go.Proofs.Ytbcijglbinaioaa.Ev
open Go.RowKit Go.Shelf
section
variable {P : Program} {w : World} {H : Type} {enc : TypeId × Value → H} {spare : Nat → Bool} {held : Bool}

def fsB (P : Program) (chk : Nat → Ty → Bool) : List Field → Nat → Ty → Bool
  | [f], off, ty => decide (f.offset = off) && (decide (P.cellsOf f.type = ty.sz) && chk f.type ty)
  | f :: r, off, .pair a b => decide (f.offset = off) && (decide (P.cellsOf f.type = a.sz) && (chk f.type a && fsB P chk r (off + a.sz) b))
  | _, _, _ => false

/-- Whole numbers in their kinds' ranges; lengths. -/
def WfT : (t : Ty) → t.den → Prop
  | .int k, n => k.min ≤ n ∧ n ≤ k.max
  | .bool, _ => True
  | .slice t, l => l.length ≤ maxLen ∧ ∀ j (h : j < l.length), WfT t l[j]
  | .pair a b, x => WfT a x.1 ∧ WfT b x.2

/-- Type t is read as ty. -/
def tyB (P : Program) : Nat → Nat → Ty → Bool
  | 0, _, _ => false
  | n + 1, t, ty => match P.underlying t with
    | some (.int k) => match ty with
      | .int k' => decide (k' = k)
      | _ => false
    | some .bool => match ty with
      | .bool => true
      | _ => false
    | some (.slice e) => match ty with
      | .slice te => decide (P.cellsOf e = te.sz) && tyB P n e te
      | _ => false
    | some (.struct fs) => decide (P.cellsOf t = ty.sz) && fsB P (tyB P n) fs.toList 0 ty
    | _ => false

theorem add_zero' (a : Addr) : a.add 0 = a := by unfold Addr.add; simp

theorem cell_spot {a : Addr} {u : Value} (h : w.cell? a = some u) : a.spot = none := by
  unfold World.cell? at h
  split at h
  · split at h
    · contradiction
    · rename_i hs; simpa using hs
  · contradiction

theorem choose_list {α : Type} {R : Nat → α → Prop} : ∀ (n : Nat), (∀ i, i < n → ∃ y, R i y) → ∃ l : List α, l.length = n ∧ ∀ j (h : j < l.length), R j l[j]
  | 0, _ => ⟨[], rfl, fun j h => absurd h (by simp)⟩
  | n + 1, h => by
    obtain ⟨l, hl, hR⟩ := choose_list n fun i hi => h i (by omega)
    obtain ⟨y, hy⟩ := h n (by omega)
    refine ⟨l ++ [y], by simp [hl], fun j hj => ?_⟩
    by_cases hjl : j < l.length
    · rw [List.getElem_append_left hjl]; exact hR j hjl
    · have : j = n := by simp at hj; omega
      subst this
      rw [List.getElem_append_right (by omega)]
      simpa using hy

theorem cells_get {a : Addr} {n : Nat} {es : List Value} (h : w.cells? 0 a n = some es) : es.length = n ∧ ∀ i (hi : i < es.length), w.cell? (a.add i) = some es[i] := by
  unfold World.cells? at h
  rw [if_pos (Nat.zero_le _)] at h
  have key : ∀ (l : List Nat) (es : List Value), l.mapM (fun i => w.cell? (a.add i)) = some es → es.length = l.length ∧ ∀ i (hi : i < l.length) (hi' : i < es.length), w.cell? (a.add l[i]) = some es[i] := by
    intro l
    induction l with
    | nil => intro es h; simp at h; subst h; exact ⟨rfl, fun i hi => absurd hi (by simp)⟩
    | cons x l ih =>
      intro es h
      rw [List.mapM_cons] at h
      cases hx : w.cell? (a.add x) with
      | none => simp [hx] at h
      | some u =>
        cases hr : l.mapM (fun i => w.cell? (a.add i)) with
        | none => simp [hx, hr] at h
        | some us =>
          simp [hx, hr] at h
          subst h
          obtain ⟨h1, h2⟩ := ih us hr
          refine ⟨by simp [h1], fun i hi hi' => ?_⟩
          cases i with
          | zero => exact hx
          | succ i => exact h2 i (by simpa using hi) (by simpa using hi')
  obtain ⟨h1, h2⟩ := key _ es h
  refine ⟨by simpa using h1, fun i hi => ?_⟩
  have := h2 i (by simp at h1 ⊢; omega) hi
  simpa using this

theorem trod_RT : ∀ (n t : Nat) (ty : Ty), tyB P n t ty = true → ∀ (fuel : Nat) (cs : List Value) (x : DataW H × List MemPlace), DataW.trod enc P w 0 spare held fuel t cs = some x → ∃ y, RT w (fun g _ => g < w.heap.size) ty y cs ∧ WfT ty y
  | 0, t, ty, hb, _, _, _, _ => by simp [tyB] at hb
  | n + 1, t, ty, hb, 0, cs, x, h => by simp [DataW.trod] at h
  | n + 1, t, ty, hb, fuel + 1, cs, x, h => by
    unfold tyB at hb
    split at hb
    · rename_i k hu
      split at hb <;> try contradiction
      rename_i k'
      simp only [decide_eq_true_eq] at hb
      subst hb
      unfold DataW.trod at h
      rw [hu] at h
      split at h <;> first
        | contradiction
        | (simp_all; done)
        | skip
      rename_i k2 k3 m hq
      split at h <;> try contradiction
      rename_i hk
      simp only [Option.some.injEq, TypeDesc.int.injEq] at hq
      exact ⟨m, by simp only [RT]; rw [hk.1, ← hq], by
        have := hk.2
        simp only [Lit.wf, Bool.and_eq_true, decide_eq_true_eq] at this
        rw [← hq] at this
        exact this⟩
    · rename_i hu
      split at hb <;> try contradiction
      unfold DataW.trod at h
      rw [hu] at h
      split at h <;> first
        | contradiction
        | (simp_all; done)
        | skip
      rename_i b hq
      exact ⟨b, rfl, trivial⟩
    · rename_i e hu
      split at hb <;> try contradiction
      rename_i te
      simp only [Bool.and_eq_true, decide_eq_true_eq] at hb
      obtain ⟨hsz, hb⟩ := hb
      rcases DataW.trod_slice hu h with ⟨rfl, _⟩ | ⟨a, len, cap, elems, rest, m, _, rfl, rfl, _, hl, hm, hlen, hel, _⟩
      · exact ⟨[], ⟨none, 0, 0, rfl, Nat.le_refl _, rfl, Nat.zero_le _, fun j hj => absurd hj (by simp)⟩, Nat.zero_le _, fun j hj => absurd hj (by simp)⟩
      · have each : ∀ i, i < len → ∃ es y, w.cells? 0 (a.add (i * te.sz)) te.sz = some es ∧ RT w (fun g _ => g < w.heap.size) te y es ∧ WfT te y := by
          intro i hi
          have := hel i hi
          rw [List.getElem?_eq_getElem (by omega), hsz] at this
          obtain ⟨es, h1, h2⟩ := Option.bind_eq_some_iff.1 this
          obtain ⟨y, hy⟩ := trod_RT n e te hb m es _ h2
          exact ⟨es, y, h1, hy⟩
        obtain ⟨l, hll, hR⟩ := choose_list (R := fun i (y : te.den) => ∃ es, w.cells? 0 (a.add (i * te.sz)) te.sz = some es ∧ RT w (fun g _ => g < w.heap.size) te y es ∧ WfT te y) len fun i hi => by
          obtain ⟨es, y, h1, h2⟩ := each i hi
          exact ⟨y, es, h1, h2⟩
        have hspot : 0 < len → a.spot = none := fun h0 => by
          obtain ⟨es, y, h1, h2⟩ := each 0 h0
          obtain ⟨h3, h4⟩ := cells_get h1
          have hp := te.sz_pos
          have := h4 0 (by omega)
          rw [Nat.zero_mul, add_zero', add_zero'] at this
          exact cell_spot this
        refine ⟨l, ⟨some a, len, cap, rfl, hl, hll, Nat.le_trans hl hm, fun j hj => ?_⟩, by rw [hll]; exact Nat.le_trans hl hm, fun j hj => (hR j hj).choose_spec.2.2⟩
        obtain ⟨es, h1, h2, _⟩ := hR j hj
        obtain ⟨h3, h4⟩ := cells_get h1
        have hs := hspot (by omega)
        obtain ⟨b, o, sp⟩ := a
        simp only at hs
        subst hs
        refine ⟨b, o, es, rfl, h3, h2, fun i hi => ?_⟩
        have := h4 i hi
        rw [add_at, add_at] at this
        exact ⟨this, cell_lt this⟩
    · rename_i fs hu
      simp only [Bool.and_eq_true, decide_eq_true_eq] at hb
      obtain ⟨hsz, hb⟩ := hb
      unfold DataW.trod at h
      rw [hu] at h
      simp only at h
      split at h <;> try contradiction
      rename_i hlen
      cases hmm : (fs.toList.mapM fun f => DataW.trod enc P w 0 spare held fuel f.type ((cs.drop f.offset).take (P.cellsOf f.type))) with
      | none => rw [hmm] at h; simp at h
      | some xs =>
        have key : ∀ (l : List Field) (xs : List (DataW H × List MemPlace)) (off : Nat) (ty : Ty), (l.mapM fun f => DataW.trod enc P w 0 spare held fuel f.type ((cs.drop f.offset).take (P.cellsOf f.type))) = some xs →
            fsB P (tyB P n) l off ty = true → off + ty.sz = cs.length → ∃ y, RT w (fun g _ => g < w.heap.size) ty y (cs.drop off) ∧ WfT ty y := by
          intro l
          induction l with
          | nil => intro xs off ty _ hf _; simp [fsB] at hf
          | cons f r ih =>
            intro xs off ty hm hf ho
            rw [List.mapM_cons] at hm
            obtain ⟨x1, hx1, hm⟩ := Option.bind_eq_some_iff.1 hm
            obtain ⟨xr, hxr, _⟩ := Option.bind_eq_some_iff.1 hm
            cases r with
            | nil =>
              simp only [fsB, Bool.and_eq_true, decide_eq_true_eq] at hf
              obtain ⟨e1, e2, e3⟩ := hf
              obtain ⟨y, hy⟩ := trod_RT n f.type ty e3 fuel _ _ hx1
              refine ⟨y, ?_, hy.2⟩
              have hy := hy.1
              rwa [e1, e2, List.take_of_length_le (by rw [List.length_drop]; omega)] at hy
            | cons f' r =>
              cases ty with
              | pair ta tb =>
                simp only [fsB, Bool.and_eq_true, decide_eq_true_eq] at hf
                obtain ⟨e1, e2, e3, e4⟩ := hf
                obtain ⟨y, hy⟩ := trod_RT n f.type ta e3 fuel _ _ hx1
                simp only [Ty.sz] at ho
                obtain ⟨z, hz⟩ := ih xr (off + ta.sz) tb hxr e4 (by omega)
                refine ⟨(y, z), ⟨_, _, ?_, hy.1, hz.1⟩, hy.2, hz.2⟩
                rw [e1, e2, ← List.drop_drop, List.take_append_drop]
              | _ => simp [fsB] at hf
        obtain ⟨y, hy⟩ := key fs.toList xs 0 ty hmm hb (by omega)
        exact ⟨y, by simpa using hy⟩
    · contradiction

end
end Go.Proofs.Ytbcijglbinaioaa.Ev
