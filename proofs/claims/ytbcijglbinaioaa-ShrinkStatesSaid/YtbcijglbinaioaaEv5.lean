/- The evaluator: 'evQ' is told rightly. -/
import Derived.Test.YtbcijglbinaioaaEv4
set_option linter.unusedVariables false
set_option linter.unusedSimpArgs false
set_option linter.unusedSectionVars false
set_option linter.unnecessarySimpa false
namespace Go.Proofs.Ytbcijglbinaioaa.Ev
open Go.RowKit
section
variable {P : Program} {w0 : Bs} {F0 : Nat → Nat → Prop} {N : Nat} {s : St} {a : Act} {w : World} {f : Fr} {φ : Nat → Bd} {R : Type} {E : Env} {o : Oper} {K : AV → Option R} {r : R}

theorem run_equalIn_some (w : World) (d : Nat) (t e : TypeId) (A : Addr) (n c : Nat) (hu : P.underlying t = some (.slice e)) : (Op.equalIn (d + 1) t (.slice (some A) n c) (.slice none 0 0)).run P w = .ok false w := by
  unfold Op.equalIn
  simp [run_underlying hu]
theorem run_equalIn_none' (w : World) (d : Nat) (t e : TypeId) (n c : Nat) (hu : P.underlying t = some (.slice e)) : (Op.equalIn (d + 1) t (.slice none n c) (.slice none 0 0)).run P w = .ok true w := by
  unfold Op.equalIn
  simp [run_underlying hu]
theorem run_equalIn_none (w : World) (d : Nat) (t e : TypeId) (hu : P.underlying t = some (.slice e)) : (Op.equalIn (d + 1) t (.slice none 0 0) (.slice none 0 0)).run P w = .ok true w := by
  unfold Op.equalIn
  simp [run_underlying hu]

theorem q_binOp (hD : DOk P E.D) (h : Rel w0 F0 N s a w f φ) {op : BinOp} {t t' : Nat} {x y : Operand} (ho : o.op = .binOp op t x y t') (hK : evQ E s o K = some r) : ∃ v, Tells P a w f φ o v ∧ K v = some r := by
  unfold evQ at hK
  simp only [ho] at hK
  have hx := h.ev x
  have hy := h.ev y
  generalize hX : s.ev x = X at hK hx
  generalize hY : s.ev y = Y at hK hy
  unfold binV at hK
  split at hK
  · rename_i k m k' n
    have hxv := hx.intv
    have hyv := hy.intv
    have shc : ∀ (op' : BinOp) (hop : op' = .shl ∨ op' = .shr), op = op' → shI op' k m n K = some r → ∃ v, Tells P a w f φ o v ∧ K v = some r := by
      intro op' hop hoo hs
      subst hoo
      have hg : (eqGuard op t x y (.int k m) (.int k' n)).run P w = .ok () w := by rcases hop with rfl | rfl <;> simp [eqGuard]
      unfold shI at hs
      by_cases hn : n < 0
      · simp [hn] at hs
      · simp only [hn, decide_false, cond_false] at hs
        rcases hop with rfl | rfl
        · exact ⟨_, ⟨.int k (k.wrap (m * 2 ^ min n.toNat k.bits)), by simp [execOp, ho, hxv, hyv, hg, binOp, Op.shift, hn], .int _ _⟩, hs⟩
        · exact ⟨_, ⟨.int k (m.fdiv (2 ^ min n.toNat k.bits)), by simp [execOp, ho, hxv, hyv, hg, binOp, Op.shift, hn], .int _ _⟩, hs⟩
    split at hK
    · exact shc _ (.inl rfl) rfl hK
    · exact shc _ (.inr rfl) rfl hK
    · rename_i h1 h2
      split at hK <;> try contradiction
      rename_i hkk
      subst hkk
      obtain ⟨v, xv, hrun, hv, hKv⟩ := arI_ok (P := P) (w := w) (f := f) (φ := φ) (t := t) ⟨fun e => h1 e, fun e => h2 e⟩ hK
      exact ⟨v, ⟨xv, binop_int ho hxv hyv hrun, hv⟩, hKv⟩
  · rename_i b1 b2
    have hxv := hx.boolv
    have hyv := hy.boolv
    split at hK <;> try contradiction
    rename_i hb
    have hu : P.underlying t = some .bool := by
      cases hd : findD E.D t with
      | none => simp [hd, TD.isB] at hb
      | some d =>
        obtain ⟨sz, ag, eq, z, sh⟩ := d
        cases sh <;> simp [hd, TD.isB] at hb
        exact hD.sh hd
    have hg : (eqGuard op t x y (.bool b1) (.bool b2)).run P w = .ok () w := by cases op <;> simp [eqGuard]
    have he := run_equalIn_bool' (P := P) w 9999 t b1 b2 hu
    split at hK <;> try contradiction
    · exact ⟨_, ⟨.bool (b1 == b2), by simp [execOp, ho, hxv, hyv, hg, binOp, Op.equal, Op.maxDepth, he], .bool _⟩, hK⟩
    · exact ⟨_, ⟨.bool (b1 != b2), by simp [execOp, ho, hxv, hyv, hg, binOp, Op.equal, Op.maxDepth, he, bne], .bool _⟩, hK⟩
  · rename_i l l'
    obtain ⟨vs, hxv, hvs⟩ := hx.aggv
    obtain ⟨vs', hyv, hvs'⟩ := hy.aggv
    split at hK <;> try contradiction
    rename_i heq
    have heq' : ∃ d, findD E.D t = some d ∧ d.eq = true ∧ l.length = d.size := by
      cases hd : findD E.D t with
      | none => simp [hd, TD.eqOf] at heq
      | some d => exact ⟨d, rfl, by simpa [hd, TD.eqOf] using heq⟩
    obtain ⟨d, hd, hde, hlen⟩ := heq'
    obtain ⟨hg, hst, flds, hu, hsz, hfl⟩ := (hD t d hd).eq hde
    have hgr : (eqGuard op t x y (.agg vs.toArray) (.agg vs'.toArray)).run P w = .ok () w := run_eqGuard_agg w op t x y _ _ hg
    have hfo : P.fieldsOf t = flds := by simp [Program.fieldsOf, hu]
    have run : ∀ b, eqL l l' = some b → (Op.equalIn 10000 t (.agg vs.toArray) (.agg vs'.toArray)).run P w = .ok b w := by
      intro b hb
      rw [run_equalIn_struct w 9999 t _ _ (by rw [hfo]; exact hu) hst, hfo]
      exact eqFields_ok 9998 flds.toList 0 l l' b (fun j fl hj => by
        obtain ⟨q1, q2, q3⟩ := hfl j fl (by simpa using hj)
        exact ⟨q1, by omega, q3⟩) (by simpa using hvs) (by simpa using hvs') (by simp; omega) hb
    split at hK <;> try contradiction
    · split at hK <;> try contradiction
      rename_i b hb
      exact ⟨_, ⟨.bool b, by simp [execOp, ho, hxv, hyv, hgr, run_eql_struct, run b hb], .bool _⟩, hK⟩
    · split at hK <;> try contradiction
      rename_i b hb
      exact ⟨_, ⟨.bool (!b), by simp [execOp, ho, hxv, hyv, hgr, run_neq_struct, run b hb], .bool _⟩, hK⟩
  · rename_i b ty l e ty'
    have hyv := hy.nilv
    obtain ⟨A, n, c, hxv, hnc, hr⟩ := hx.slv
    split at hK <;> try contradiction
    rename_i hS
    have hu : ∃ e, P.underlying t = some (.slice e) := by
      cases hd : findD E.D t with
      | none => simp [hd, TD.isS] at hS
      | some d =>
        obtain ⟨sz, ag, eq, z, sh⟩ := d
        cases sh <;> simp [hd, TD.isS] at hS
        exact ⟨_, (hD.sh hd).1⟩
    obtain ⟨e', hu⟩ := hu
    have hg : (eqGuard op t x y (.slice A n c) (.slice none 0 0)).run P w = .ok () w := by cases op <;> simp [eqGuard]
    cases l with
    | nil => split at hK <;> first | contradiction | (simp [isEmptyL] at hK)
    | cons z l =>
      obtain ⟨g, o', es, hA, _⟩ := hr.2.2 0 (by simp)
      subst hA
      have he := run_equalIn_some (P := P) w 9999 t e' ⟨g, o', none⟩ n c hu
      split at hK <;> try contradiction
      · exact ⟨_, ⟨.bool false, by simp [execOp, ho, hxv, hyv, hg, binOp, Op.equal, Op.maxDepth, he], .bool _⟩, by simpa [isEmptyL] using hK⟩
      · exact ⟨_, ⟨.bool true, by simp [execOp, ho, hxv, hyv, hg, binOp, Op.equal, Op.maxDepth, he], .bool _⟩, by simpa [isEmptyL] using hK⟩
  · rename_i z ty e ty'
    have hyv := hy.nilv
    obtain ⟨A, c, hxv, hz⟩ : ∃ A c, a.eval x = .slice A 0 c ∧ A.isNone = z := by
      generalize a.eval x = xv at hx
      cases hx
      exact ⟨_, _, rfl, by assumption⟩
    split at hK <;> try contradiction
    rename_i hS
    have hu : ∃ e, P.underlying t = some (.slice e) := by
      cases hd : findD E.D t with
      | none => simp [hd, TD.isS] at hS
      | some d =>
        obtain ⟨sz, ag, eq, z, sh⟩ := d
        cases sh <;> simp [hd, TD.isS] at hS
        exact ⟨_, (hD.sh hd).1⟩
    obtain ⟨e', hu⟩ := hu
    have hg : (eqGuard op t x y (.slice A 0 c) (.slice none 0 0)).run P w = .ok () w := by cases op <;> simp [eqGuard]
    have he : (Op.equalIn (9999 + 1) t (.slice A 0 c) (.slice none 0 0)).run P w = .ok z w := by
      subst hz
      cases A with
      | none => exact run_equalIn_none' w 9999 t e' 0 c hu
      | some A => exact run_equalIn_some w 9999 t e' A 0 c hu
    split at hK <;> try contradiction
    · exact ⟨_, ⟨.bool z, by simp [execOp, ho, hxv, hyv, hg, binOp, Op.equal, Op.maxDepth, he], .bool _⟩, hK⟩
    · exact ⟨_, ⟨.bool (!z), by simp [execOp, ho, hxv, hyv, hg, binOp, Op.equal, Op.maxDepth, he], .bool _⟩, hK⟩
  · rename_i e ty e' ty'
    have hxv := hx.nilv
    have hyv := hy.nilv
    split at hK <;> try contradiction
    rename_i hS
    have hu : ∃ e, P.underlying t = some (.slice e) := by
      cases hd : findD E.D t with
      | none => simp [hd, TD.isS] at hS
      | some d =>
        obtain ⟨sz, ag, eq, z, sh⟩ := d
        cases sh <;> simp [hd, TD.isS] at hS
        exact ⟨_, (hD.sh hd).1⟩
    obtain ⟨e', hu⟩ := hu
    have hg : (eqGuard op t x y (.slice none 0 0) (.slice none 0 0)).run P w = .ok () w := by cases op <;> simp [eqGuard]
    have he := run_equalIn_none (P := P) w 9999 t e' hu
    split at hK <;> try contradiction
    · exact ⟨_, ⟨.bool true, by simp [execOp, ho, hxv, hyv, hg, binOp, Op.equal, Op.maxDepth, he], .bool _⟩, hK⟩
    · exact ⟨_, ⟨.bool false, by simp [execOp, ho, hxv, hyv, hg, binOp, Op.equal, Op.maxDepth, he], .bool _⟩, hK⟩
  · contradiction

theorem q_unOp (h : Rel w0 F0 N s a w f φ) {u : UnOp} {t : Nat} {x : Operand} (ho : o.op = .unOp u t x) (hK : evQ E s o K = some r) : ∃ v, Tells P a w f φ o v ∧ K v = some r := by
  unfold evQ at hK
  simp only [ho] at hK
  have hx := h.ev x
  cases u <;> simp only [] at hK <;> try contradiction
  · split at hK <;> try contradiction
    rename_i k n hX
    rw [hX] at hx
    exact ⟨_, ⟨.int k (k.wrap (0 - n)), by simp [execOp, ho, hx.intv, Op.unary, Op.intArith], .int _ _⟩, hK⟩
  · split at hK <;> try contradiction
    rename_i b hX
    rw [hX] at hx
    exact ⟨_, ⟨.bool (!b), by simp [execOp, ho, hx.boolv, Op.unary], .bool _⟩, hK⟩

theorem q_convert (hD : DOk P E.D) (h : Rel w0 F0 N s a w f φ) {t t' : Nat} {x : Operand} (ho : o.op = .convert t t' x) (hK : evQ E s o K = some r) : ∃ v, Tells P a w f φ o v ∧ K v = some r := by
  unfold evQ at hK
  simp only [ho] at hK
  have hx := h.ev x
  split at hK <;> try contradiction
  rename_i _ n _ _ _ _ k _ hX hd hs
  rw [hX] at hx
  have hu : P.underlying t' = some (.int k) := hD.sh hd
  obtain ⟨u, hu', _⟩ := (hD _ _ hs).agg
  refine ⟨_, ⟨.int k (k.wrap n), ?_, .int _ _⟩, hK⟩
  simp [execOp, ho, hx.intv, convert, run_underlying hu, run_underlying hu', Conv.intToInt]
end
end Go.Proofs.Ytbcijglbinaioaa.Ev
