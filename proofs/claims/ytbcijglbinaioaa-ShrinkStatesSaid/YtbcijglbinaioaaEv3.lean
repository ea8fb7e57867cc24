/- The evaluator: the types' table; operations that turn nothing. -/
import Derived.Test.YtbcijglbinaioaaEv2
set_option linter.unusedVariables false
set_option linter.unusedSimpArgs false
set_option linter.unusedSectionVars false
set_option linter.unnecessarySimpa false
namespace Go.Proofs.Ytbcijglbinaioaa.Ev
open Go.RowKit

def zm : List AV → List Value → Bool
  | [], [] => true
  | .int k n :: l, .int k' m :: vs => decide (k = k') && (decide (n = m) && zm l vs)
  | .bool a :: l, .bool b :: vs => (a == b) && zm l vs
  | .nil _ _ :: l, .slice none n c :: vs => decide (n = 0) && (decide (c = 0) && zm l vs)
  | .top :: l, _ :: vs => zm l vs
  | _, _ => false

theorem zm_ok {w : World} {f : Fr} {φ : Nat → Bd} : ∀ {l : List AV} {vs : List Value}, zm l vs = true → VRs w f φ l vs
  | [], [], _ => .nil
  | .int k n :: l, .int k' m :: vs, h => by
    simp only [zm, Bool.and_eq_true, decide_eq_true_eq] at h
    obtain ⟨rfl, rfl, h⟩ := h
    exact .cons _ _ _ _ (.int k n) (zm_ok h)
  | .bool a :: l, .bool b :: vs, h => by
    simp only [zm, Bool.and_eq_true, beq_iff_eq] at h
    obtain ⟨rfl, h⟩ := h
    exact .cons _ _ _ _ (.bool a) (zm_ok h)
  | .nil _ _ :: l, .slice none n c :: vs, h => by
    simp only [zm, Bool.and_eq_true, decide_eq_true_eq] at h
    obtain ⟨rfl, rfl, h⟩ := h
    exact .cons _ _ _ _ (.nil _ _) (zm_ok h)
  | .top :: l, v :: vs, h => .cons _ _ _ _ (.top v) (zm_ok (by simpa [zm] using h))

/-- The cells of an element's zero. -/
def zc : Ty → List Value
  | .int k => [.int k 0]
  | .bool => [.bool false]
  | .slice _ => [.slice none 0 0]
  | .pair a b => zc a ++ zc b

theorem zc_ok (w : World) (p : Nat → Nat → Prop) : ∀ t : Ty, RT w p t t.zero (zc t)
  | .int _ => rfl
  | .bool => rfl
  | .slice _ => ⟨none, 0, 0, rfl, Nat.le_refl _, rfl, Nat.zero_le _, fun j hj => absurd hj (by simp [Ty.zero])⟩
  | .pair a b => ⟨zc a, zc b, rfl, zc_ok w p a, zc_ok w p b⟩

def aggT : TypeDesc → Bool
  | .struct _ | .array _ _ => true
  | _ => false

def ShOk (P : Program) (t : Nat) : Sh → Prop
  | .plain => True
  | .bool => P.underlying t = some .bool
  | .int k => P.underlying t = some (.int k)
  | .sl e ty => P.underlying t = some (.slice e) ∧ ∃ i z, P.info? e = some i ∧ i.size = ty.sz ∧ i.zero = some z ∧ z.cells.toList = zc ty ∧ i.bytes ≤ 128
  | .st fs => ∃ flds, P.underlying t = some (.struct flds) ∧ flds.size = fs.length ∧ ∀ (j off n ft : Nat), fs[j]? = some (off, n, ft) → ∃ (fl : Field) (i : TypeInfo), flds[j]? = some fl ∧ fl.offset = off ∧ fl.type = ft ∧ P.info? ft = some i ∧ i.size = n ∧ 0 < n
  | .ar n e esz => P.underlying t = some (.array n e) ∧ ∃ i, P.info? e = some i ∧ i.size = esz ∧ (esz = 1 → ∃ u, P.underlying e = some u ∧ aggT u = false)

/-- Structs of whole numbers. -/
def EqOk (P : Program) (t n : Nat) : Prop :=
  P.eqGuardType P.depth t = false ∧ P.stoodInHeld t = false ∧ ∃ flds, P.underlying t = some (.struct flds) ∧ flds.size = n ∧
    ∀ (j : Nat) (fl : Field), flds[j]? = some fl → fl.name ≠ "_" ∧ fl.offset = j ∧ ∃ k, P.underlying fl.type = some (.int k)

structure TOk (P : Program) (t : Nat) (d : TD) : Prop where
  info : ∃ i z, P.info? t = some i ∧ i.size = d.size ∧ i.zero = some z ∧ zm d.zero z.cells.toList = true
  agg : ∃ u, P.underlying t = some u ∧ aggT u = d.agg
  one : d.agg = false → d.size = 1
  eq : d.eq = true → EqOk P t d.size
  sh : ShOk P t d.sh

def DOk (P : Program) (D : List (Nat × TD)) : Prop := ∀ t d, findD D t = some d → TOk P t d

section
variable {P : Program} {w0 : Bs} {F0 : Nat → Nat → Prop} {N : Nat} {s : St} {a : Act} {w : World} {f : Fr} {φ : Nat → Bd}

theorem add_at (g o i : Nat) : (⟨g, o, none⟩ : Addr).add i = ⟨g, o + i, none⟩ := by
  unfold Addr.add
  split
  · subst_vars; rfl
  · rfl

theorem run_isAgg {t : Nat} {d : TD} (h : TOk P t d) : (isAgg t).run P w = .ok d.agg w := by
  obtain ⟨u, hu, hg⟩ := h.agg
  unfold isAgg
  rw [Sem.run_bind, run_underlying hu w, ← hg]
  cases u <;> rfl

theorem run_sizeOf {t : Nat} {d : TD} (h : TOk P t d) : (sizeOf t).run P w = .ok d.size w := by
  obtain ⟨i, z, hi, hs, _⟩ := h.info
  simp [sizeOf, typeInfo, hi, hs]

theorem run_zero {t : Nat} {d : TD} (h : TOk P t d) (w : World) : ∃ z, (zeroValue t).run P w = .ok z w ∧ z.cells.size = d.zero.length ∧ VRs w f φ d.zero z.cells.toList := by
  obtain ⟨i, z, hi, hs, hz, hm⟩ := h.info
  refine ⟨z, ?_, ?_, zm_ok hm⟩
  · simp [zeroValue, typeInfo, hi, hz]
  · have := (zm_ok (w := w) (f := f) (φ := φ) hm).len
    simpa using this.symm

/-- A variable's value, out of its cells. -/
theorem load_ok {t : Nat} {d : TD} (h : TOk P t d) {cs : List AV} {us : List Value} (hv : VRs w f φ cs us) {g o off : Nat} (hc : ∀ i (hi : i < us.length), w.cell? ⟨g, o + i, none⟩ = some us[i]) (hoff : off + d.size ≤ cs.length) :
    ∃ x, (loadVar t ⟨g, o + off, none⟩).run P w = .ok x w ∧ VR w f φ (cellsAt cs off d.size d.agg) x := by
  have hl := hv.len
  unfold loadVar cellsAt
  rw [Sem.run_bind, run_isAgg h]
  cases hg : d.agg with
  | true =>
    have hlen : ((us.drop off).take d.size).length = d.size := by simp; omega
    have hrun := run_loadCells_list (P := P) w ⟨g, o + off, none⟩ ((us.drop off).take d.size) (fun j v hj => by
      rw [add_at]
      have hj' : j < d.size := by
        rcases Nat.lt_or_ge j d.size with h | h
        · exact h
        · rw [List.getElem?_eq_none (by rw [hlen]; exact h)] at hj; cases hj
      rw [List.getElem?_take, if_pos hj', List.getElem?_drop] at hj
      have hlt : off + j < us.length := by omega
      rw [List.getElem?_eq_getElem hlt] at hj
      rw [← hj, ← hc _ hlt, Nat.add_assoc])
    rw [hlen] at hrun
    refine ⟨_, ?_, .agg _ _ ((hv.drop off).take d.size)⟩
    simp [run_sizeOf h, hrun]
  | false =>
    have h1 := h.one hg
    have hlt : off < us.length := by omega
    refine ⟨us[off], ?_, ?_⟩
    · have := hc off hlt
      simp [load, Sem.run, this]
    · have hlt' : off < cs.length := by omega
      have : (cs.drop off).headD .top = cs[off] := by
        rw [List.headD_eq_head?_getD, List.head?_drop, List.getElem?_eq_getElem hlt']
        rfl
      simp only [Bool.false_eq_true, if_false, this]
      exact hv.get off hlt' hlt

/-- The machine's word for an operation that only tells a value. -/
def Tells (P : Program) (a : Act) (w : World) (f : Fr) (φ : Nat → Bd) (o : Oper) (v : AV) : Prop :=
  ∃ x, (execOp a.eval o).run P w = .ok (.value x) w ∧ VR w f φ v x

theorem tells_move {o : Oper} {x : Operand} (h : Rel w0 F0 N s a w f φ) (ho : o.op = .move x ∨ o.op = .assign x) (D : List (Nat × TD)) : Tells P a w f φ o (retype D o.type (s.ev x)) := by
  refine ⟨a.eval x, ?_, retype_ok (h.ev x)⟩
  rcases ho with ho | ho <;> simp [execOp, ho]

theorem VR.boolv {b : Bool} {x : Value} (h : VR w f φ (.bool b) x) : x = .bool b := by cases h; rfl
theorem VR.intv {k : IntKind} {n : Int} {x : Value} (h : VR w f φ (.int k n) x) : x = .int k n := by cases h; rfl

/-- Continuations: what is told of a value. -/
theorem evQ_pick {R : Type} {E : Env} {o : Oper} {c x y : Operand} (h : Rel w0 F0 N s a w f φ) (ho : o.op = .pick c x y) {K : AV → Option R} {r : R} (hK : evQ E s o K = some r) : ∃ v, Tells P a w f φ o v ∧ K v = some r := by
  unfold evQ at hK
  simp only [ho] at hK
  have hc := h.ev c
  have hx := h.ev x
  have hy := h.ev y
  have run : ∀ p : Bool, a.eval c = .bool p → (execOp a.eval o).run P w = .ok (.value (if p then a.eval x else a.eval y)) w := by
    intro p hp
    simp [execOp, ho, hp, asBool]
  split at hK <;> try contradiction
  rename_i p hp
  rw [hp] at hc
  have hcv := hc.boolv
  split at hK
  · rename_i bx byy hbx hby
    rw [hbx] at hx
    rw [hby] at hy
    refine ⟨_, ⟨_, run p hcv, ?_⟩, hK⟩
    rw [hx.boolv, hy.boolv]
    cases p <;> exact .bool _
  · cases p with
    | true => exact ⟨_, ⟨_, run true hcv, by simpa using hx⟩, by simpa using hK⟩
    | false => exact ⟨_, ⟨_, run false hcv, by simpa using hy⟩, by simpa using hK⟩

theorem binop_int {o : Oper} {op : BinOp} {t t' : Nat} {x y : Operand} (ho : o.op = .binOp op t x y t') {k : IntKind} {m n : Int} (hx : a.eval x = .int k m) (hy : a.eval y = .int k n)
    {v : Value} (hv : ∀ w, (binOp op t (.int k m) (.int k n)).run P w = .ok v w) : (execOp a.eval o).run P w = .ok (.value v) w := by
  have hg : (eqGuard op t x y (.int k m) (.int k n)).run P w = .ok () w := by cases op <;> simp [eqGuard]
  simp [execOp, ho, hx, hy, hg, hv]

theorem arI_ok {R : Type} {op : BinOp} {k : IntKind} {m n : Int} {t : Nat} {K : AV → Option R} {r : R} (hop : op ≠ .shl ∧ op ≠ .shr) (h : arI op k m n K = some r) :
    ∃ v x, (∀ w, (binOp op t (.int k m) (.int k n)).run P w = .ok x w) ∧ VR w f φ v x ∧ K v = some r := by
  have hz : ∀ (b : Bool) (v : AV), (bif n == 0 then none else K v) = some r → n ≠ 0 ∧ K v = some r := by
    intro _ v hh
    by_cases hz : n = 0
    · subst hz; simp at hh
    · rw [show (n == 0) = false from beq_eq_false_iff_ne.2 hz] at hh
      exact ⟨hz, hh⟩
  cases op <;> simp only [arI] at h
  · exact ⟨_, .int k (k.wrap (m + n)), fun w => by simp [binOp, Op.intArith], .int _ _, h⟩
  · exact ⟨_, .int k (k.wrap (m - n)), fun w => by simp [binOp, Op.intArith], .int _ _, h⟩
  · exact ⟨_, .int k (k.wrap (m * n)), fun w => by simp [binOp, Op.intArith], .int _ _, h⟩
  · obtain ⟨h0, h⟩ := hz true _ h
    exact ⟨_, .int k (k.wrap (m.tdiv n)), fun w => by simp [binOp, Op.intDiv, h0], .int _ _, h⟩
  · obtain ⟨h0, h⟩ := hz true _ h
    exact ⟨_, .int k (m.tmod n), fun w => by simp [binOp, Op.intDiv, h0], .int _ _, h⟩
  · exact ⟨_, .int k (bitI .and k m n), fun w => by simp [binOp, Op.intBits, bitI], .int _ _, h⟩
  · exact ⟨_, .int k (bitI .or k m n), fun w => by simp [binOp, Op.intBits, bitI], .int _ _, h⟩
  · exact ⟨_, .int k (bitI .xor k m n), fun w => by simp [binOp, Op.intBits, bitI], .int _ _, h⟩
  · exact absurd rfl hop.1
  · exact absurd rfl hop.2
  · exact ⟨_, .int k (bitI .andNot k m n), fun w => by simp [binOp, Op.intBits, bitI], .int _ _, h⟩
  · exact ⟨_, .bool (m == n), fun w => by simp [binOp, Op.intCmp], .bool _, h⟩
  · exact ⟨_, .bool (m != n), fun w => by simp [binOp, Op.intCmp], .bool _, h⟩
  · exact ⟨_, .bool (decide (m < n)), fun w => by simp [binOp, Op.intCmp], .bool _, h⟩
  · exact ⟨_, .bool (decide (m ≤ n)), fun w => by simp [binOp, Op.intCmp], .bool _, h⟩
  · exact ⟨_, .bool (decide (m > n)), fun w => by simp [binOp, Op.intCmp], .bool _, h⟩
  · exact ⟨_, .bool (decide (m ≥ n)), fun w => by simp [binOp, Op.intCmp], .bool _, h⟩

theorem eqFields_ok {xs ys : Array Value} (d : Nat) : ∀ (flds : List Field) (i : Nat) (l l' : List AV) (b : Bool),
    (∀ (j : Nat) (fl : Field), flds[j]? = some fl → fl.name ≠ "_" ∧ fl.offset = i + j ∧ ∃ k, P.underlying fl.type = some (.int k)) →
    VRs w f φ l (xs.toList.drop i) → VRs w f φ l' (ys.toList.drop i) → l.length = flds.length → eqL l l' = some b → (Op.eqFields (d + 1) xs ys flds).run P w = .ok b w := by
  intro flds
  induction flds with
  | nil =>
    intro i l l' b _ hl hl' hlen he
    have : l = [] := List.eq_nil_of_length_eq_zero (by simpa using hlen)
    subst this
    cases l' with
    | nil => simp [eqL] at he; subst he; simp [Op.eqFields]
    | cons v l' => simp [eqL] at he
  | cons fl flds ih =>
    intro i l l' b hf hl hl' hlen he
    obtain ⟨hn, hoff, k1, hu⟩ := hf 0 fl rfl
    have hf' : ∀ (j : Nat) (fl' : Field), flds[j]? = some fl' → fl'.name ≠ "_" ∧ fl'.offset = (i + 1) + j ∧ ∃ k, P.underlying fl'.type = some (.int k) := fun j fl' hj => by
      obtain ⟨h1, h2, h3⟩ := hf (j + 1) fl' (by simpa using hj)
      exact ⟨h1, by omega, h3⟩
    have hagg : (isAgg fl.type).run P w = .ok false w := by
      unfold isAgg
      rw [Sem.run_bind, run_underlying hu w]
      rfl
    cases l with
    | nil => simp at hlen
    | cons v l =>
    cases l' with
    | nil => cases v <;> simp [eqL] at he
    | cons v' l' =>
    have part1 : ∀ (zs : Array Value) (q : AV) (ql : List AV), VRs w f φ (q :: ql) (zs.toList.drop i) → ∃ z, (part fl.type zs fl.offset).run P w = .ok z w ∧ VR w f φ q z ∧ VRs w f φ ql (zs.toList.drop (i + 1)) := by
      intro zs q ql hq
      rw [Nat.add_zero] at hoff
      cases hz : zs.toList.drop i with
      | nil => rw [hz] at hq; cases hq
      | cons z zr =>
        rw [hz] at hq
        cases hq with
        | cons _ _ _ _ h1 h2 =>
          have hget : zs[i]? = some z := by
            have := List.head?_drop (l := zs.toList) (i := i)
            rw [hz] at this
            simpa using this.symm
          refine ⟨z, ?_, h1, ?_⟩
          · simp [part, hagg, hoff, hget]
          · have : zs.toList.drop (i + 1) = zr := by rw [← List.tail_drop, hz]; rfl
            rw [this]; exact h2
    obtain ⟨z, r1, v1, t1⟩ := part1 xs v l hl
    obtain ⟨z', r2, v2, t2⟩ := part1 ys v' l' hl'
    have main : ∀ c : Bool, (Op.equalIn (d + 1) fl.type z z').run P w = .ok c w → (∀ b', eqL l l' = some b' → (b = (c && b'))) → (eqL l l' = none → l = [] ∧ l' = [] ∧ b = c) → (Op.eqFields (d + 1) xs ys (fl :: flds)).run P w = .ok b w := by
      intro c hc h1 h2
      simp only [Op.eqFields, if_pos hn, Sem.run_bind, r1, Result.andThen_ok, r2, hc]
      cases c with
      | false =>
        simp only [Bool.not_false, if_true, Sem.run_pure]
        cases hq : eqL l l' with
        | some b' => rw [h1 b' hq]; rfl
        | none => rw [(h2 hq).2.2]
      | true =>
        simp only [Bool.not_true, Bool.false_eq_true, if_false]
        cases hq : eqL l l' with
        | some b' =>
          rw [h1 b' hq, Bool.true_and]
          exact ih (i + 1) l l' b' hf' t1 t2 (by simpa using hlen) hq
        | none =>
          obtain ⟨rfl, rfl, rfl⟩ := h2 hq
          simp [eqL] at hq
    have close : ∀ c : Bool, eqTail c l l' (eqL l l') = some b → (∀ b', eqL l l' = some b' → (b = (c && b'))) ∧ (eqL l l' = none → l = [] ∧ l' = [] ∧ b = c) := by
      intro c hc
      unfold eqTail at hc
      split at hc
      · simp only [Option.some.injEq] at hc
        subst hc
        exact ⟨fun b' hb => by simp [eqL] at hb; simp [← hb], fun _ => ⟨rfl, rfl, rfl⟩⟩
      · cases hq : eqL l l' with
        | none => simp [hq] at hc
        | some b' => rw [hq] at hc; simp at hc; exact ⟨fun b'' hb => by cases hb; exact hc.symm, fun h => by cases h⟩
    cases v <;> try (simp [eqL] at he; done)
    · rename_i k m
      cases v' <;> try (simp [eqL] at he; done)
      rename_i k' m'
      simp only [eqL] at he
      split at he <;> try contradiction
      rename_i hkk
      subst hkk
      obtain ⟨c1, c2⟩ := close _ he
      rw [v1.intv, v2.intv] at main
      exact main _ (run_equalIn_int w d fl.type k k1 m m' hu) c1 c2
end
end Go.Proofs.Ytbcijglbinaioaa.Ev
