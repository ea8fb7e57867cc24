/- The evaluator: 'evQ' is told rightly: literals, lengths; all of it. -/
import Derived.Test.YtbcijglbinaioaaEv6
set_option linter.unusedVariables false
set_option linter.unusedSimpArgs false
set_option linter.unusedSectionVars false
set_option linter.unnecessarySimpa false
namespace Go.Proofs.Ytbcijglbinaioaa.Ev
open Go.RowKit
section
variable {P : Program} {w0 : Bs} {F0 : Nat → Nat → Prop} {N : Nat} {s : St} {a : Act} {w : World} {f : Fr} {φ : Nat → Bd} {R : Type} {E : Env} {o : Oper} {K : AV → Option R} {r : R}

theorem VR.oneCell (hφ : ∀ κ, (φ κ).v.oneCell' = true) {v : AV} {x : Value} (h : VR w f φ v x) (hv : v.cellOk = true) : x.oneCell' = true := by
  cases h <;> first
    | rfl
    | (simp [AV.cellOk] at hv; done)
    | exact hφ _

theorem VRs.oneCell (hφ : ∀ κ, (φ κ).v.oneCell' = true) : ∀ {l : List AV} {xs : List Value}, VRs w f φ l xs → l.all AV.cellOk = true → ∀ u ∈ xs, u.oneCell' = true
  | _, _, .nil, _, u, hu => by simp at hu
  | _, _, .cons v l x xs h hs, hc, u, hu => by
    simp only [List.all_cons, Bool.and_eq_true] at hc
    rcases List.mem_cons.1 hu with rfl | hu
    · exact h.oneCell hφ hc.1
    · exact hs.oneCell hφ hc.2 u hu

theorem cells_one {x : Value} (h : x.oneCell' = true) : x.cells = #[x] := by
  cases x <;> first | rfl | (simp [Value.oneCell'] at h)

theorem VR.cells (hφ : ∀ κ, (φ κ).v.oneCell' = true) {v : AV} {x : Value} (h : VR w f φ v x) (hv : v.cells.all AV.cellOk = true) : VRs w f φ v.cells x.cells.toList := by
  by_cases hok : v.cellOk = true
  · have h1 := h.oneCell hφ hok
    rw [cells_one h1]
    have : v.cells = [v] := by cases v <;> first | rfl | (simp [AV.cellOk] at hok)
    rw [this]
    exact .cons _ _ _ _ h .nil
  · cases h <;> first
      | (simp [AV.cellOk] at hok; done)
      | (simp [AV.cells, AV.cellOk] at hv; done)
      | (rename_i vs h; simpa [AV.cells, Value.cells] using h)

/-- Cells laid into cells. -/
theorem splice_toList (vs : List Value) (cs : Array Value) (off : Nat) (h : off + vs.length ≤ cs.size) :
    (((vs.zipIdx).foldl (fun cs (x : Value × Nat) => cs.setIfInBounds (off + x.2) x.1) cs)).toList = cs.toList.take off ++ vs ++ cs.toList.drop (off + vs.length) := by
  obtain ⟨h1, h2⟩ := Great.foldl_set off vs 0 cs
  apply List.ext_getElem?
  intro k
  have h3 := h2 k
  rw [← Array.getElem?_toList] at h3
  rw [h3]
  simp only [Nat.add_zero]
  by_cases hk : k < off
  · rw [if_neg (by omega), List.append_assoc, List.getElem?_append_left (by simp; omega), List.getElem?_take, if_pos hk, Array.getElem?_toList]
  · by_cases hk2 : k < off + vs.length
    · rw [if_pos ⟨by omega, hk2, by omega⟩, List.append_assoc, List.getElem?_append_right (by simp; omega), List.getElem?_append_left (by simp; omega)]
      simp [show min off cs.size = off by omega]
    · rw [if_neg (by omega), List.getElem?_append_right (by simp; omega), List.getElem?_drop, ← Array.getElem?_toList]
      congr 1
      simp
      omega

theorem nilAs_ok {v q : AV} {x : Value} (h : VR w f φ v x) : VR w f φ (evQ.nilAs v q) x := by
  unfold evQ.nilAs
  split
  · rw [h.nilv]; exact .nil _ _
  · exact h

theorem zipNil_ok : ∀ {l : List AV} {xs : List Value} (_ : VRs w f φ l xs) (m : List AV), m.length = l.length → VRs w f φ (l.zipWith evQ.nilAs m) xs
  | _, _, .nil, m, h => by cases m <;> simp at h ⊢; exact .nil
  | _, _, .cons v l x xs hv hs, m, h => by
    cases m with
    | nil => simp at h
    | cons q m => exact .cons _ _ _ _ (nilAs_ok hv) (zipNil_ok hs m (by simpa using h))

theorem fillC_ok (hφ : ∀ κ, (φ κ).v.oneCell' = true) {fs : List (Nat × Nat)} {place : Nat → Option (Nat × Nat)} (hp : ∀ i p, fs[i]? = some p → place i = some p) : ∀ (parts : List (Nat × AV)) (ps : List (Nat × Value)) (cs : List AV) (us : Array Value) (out : List AV),
    ps.length = parts.length → (∀ j (h : j < parts.length) (h' : j < ps.length), parts[j].1 = ps[j].1 ∧ VR w f φ parts[j].2 ps[j].2) → VRs w f φ cs us.toList → evQ.fillC fs cs parts = some out →
    ∃ os, Instr.fill place us ps = some os ∧ VRs w f φ out os.toList
  | [], ps, cs, us, out, hl, _, hv, h => by
    have : ps = [] := List.eq_nil_of_length_eq_zero (by simpa using hl)
    subst this
    simp only [evQ.fillC, Option.some.injEq] at h
    subst h
    exact ⟨us, rfl, hv⟩
  | (i, v) :: parts, ps, cs, us, out, hl, hps, hv, h => by
    cases ps with
    | nil => simp at hl
    | cons q ps =>
      obtain ⟨i', x⟩ := q
      obtain ⟨hi, hx⟩ := hps 0 (by simp) (by simp)
      simp only [List.getElem_cons_zero] at hi hx
      subst hi
      simp only [evQ.fillC] at h
      split at h <;> try contradiction
      rename_i off n hfs
      split at h <;> try contradiction
      rename_i hc
      obtain ⟨h1, h2, h3⟩ := hc
      have hxc := hx.cells hφ h3
      have hlen := hxc.len
      have hcl := hv.len
      simp only [Array.length_toList] at hlen hcl
      have hsp := splice_toList x.cells.toList us off (by simp; omega)
      obtain ⟨os, ho1, ho2⟩ := fillC_ok hφ hp parts ps _ (x.cells.zipIdx.foldl (fun cs (c : Value × Nat) => cs.setIfInBounds (off + c.2) c.1) us) out (by simpa using hl)
        (fun j hj hj' => hps (j + 1) (by simpa using hj) (by simpa using hj')) (by
          rw [← Array.foldl_toList, Array.toList_zipIdx, hsp]
          refine ((hv.take off).append (zipNil_ok hxc _ (by rw [List.length_take, List.length_drop]; omega))).append ?_
          have := hv.drop (off + n)
          rwa [show off + x.cells.toList.length = off + n by simp only [Array.length_toList]; omega]) h
      refine ⟨os, ?_, ho2⟩
      simp only [Instr.fill, hp _ _ hfs]
      split
      · rename_i hbad
        exfalso
        simp at hbad
        omega
      · exact ho1

theorem q_build (hD : DOk P E.D) (h : Rel w0 F0 N s a w f φ) {t : Nat} {parts : Array (Nat × Operand)} (ho : o.op = .build t parts) (hK : evQ E s o K = some r) : ∃ v, Tells P a w f φ o v ∧ K v = some r := by
  unfold evQ at hK
  simp only [ho] at hK
  have hpv : (parts.map fun (x : Nat × Operand) => (x.1, a.eval x.2)).toList = parts.toList.map fun p => (p.1, a.eval p.2) := by simp
  have hps : ∀ j (h1 : j < (parts.toList.map fun p => (p.1, s.ev p.2)).length) (h2 : j < (parts.toList.map fun p => (p.1, a.eval p.2)).length),
      (parts.toList.map fun p => (p.1, s.ev p.2))[j].1 = (parts.toList.map fun p => (p.1, a.eval p.2))[j].1 ∧ VR w f φ (parts.toList.map fun p => (p.1, s.ev p.2))[j].2 (parts.toList.map fun p => (p.1, a.eval p.2))[j].2 := by
    intro j h1 h2
    simp only [List.getElem_map, true_and]
    exact h.ev _
  have fin : ∀ (os : Array Value) (cs : List AV), P.built t (parts.toList.map fun p => (p.1, a.eval p.2)) = some os → VRs w f φ cs os.toList → Tells P a w f φ o (.agg cs) := by
    intro os cs hb h2
    rw [← hpv] at hb
    exact ⟨.agg os, by simp only [execOp, ho, Sem.run_bind, run_build w t _ os hb, Result.andThen_ok, Sem.run_pure], by simpa using VR.agg cs os.toList h2⟩
  split at hK <;> try contradiction
  · rename_i _ _ _ z fs hd
    split at hK <;> try contradiction
    rename_i cs hf
    have ht := hD _ _ hd
    obtain ⟨flds, hu, hsz, hfl⟩ := ht.sh
    obtain ⟨inf, zv, hi, his, hz, hzm⟩ := ht.info
    have hpl : flds.toList.mapM (fun f => (P.info? f.type).map fun i => (f.offset, i.size)) = some (fs.map fun q => (q.1, q.2.1)) := by
      have aux : ∀ (fl : List Field) (fs : List (Nat × Nat × Nat)), fl.length = fs.length → (∀ (j off n ft : Nat), fs[j]? = some (off, n, ft) → ∃ (f : Field) (i : TypeInfo), fl[j]? = some f ∧ f.offset = off ∧ f.type = ft ∧ P.info? ft = some i ∧ i.size = n ∧ 0 < n) →
          fl.mapM (fun f => (P.info? f.type).map fun i => (f.offset, i.size)) = some (fs.map fun q => (q.1, q.2.1)) := by
        intro fl
        induction fl with
        | nil => intro fs hl _; have : fs = [] := List.eq_nil_of_length_eq_zero (by simpa using hl.symm); subst this; rfl
        | cons g fl ih =>
          intro fs hl hq
          cases fs with
          | nil => simp at hl
          | cons q fs =>
            obtain ⟨off, n, ft⟩ := q
            obtain ⟨f', i, h1, h2, h3, h4, h5, _⟩ := hq 0 off n ft rfl
            simp only [List.getElem?_cons_zero, Option.some.injEq] at h1
            subst h1
            have := ih fs (by simpa using hl) (fun j off n ft hj => by simpa using hq (j + 1) off n ft (by simpa using hj))
            rw [List.mapM_cons, this]
            simp [h3, h4, h2, h5]
      exact aux flds.toList fs (by simpa using hsz) (fun j off n ft hj => by simpa using hfl j off n ft hj)
    obtain ⟨os, h1, h2⟩ := fillC_ok h.one (place := fun i => (fs.map fun q => (q.1, q.2.1)).toArray[i]?) (fun i p hp => by simpa using hp) _ (parts.toList.map fun p => (p.1, a.eval p.2)) z zv.cells cs (by simp) hps (zm_ok hzm) hf
    refine ⟨_, fin os cs ?_ h2, hK⟩
    simp only [Program.built, hi, hu, hz, hpl]
    exact h1
  · rename_i _ _ _ z n e esz hd
    split at hK <;> try contradiction
    rename_i cs hf
    have ht := hD _ _ hd
    obtain ⟨hu, ie, hie, hsz, _⟩ := ht.sh
    obtain ⟨inf, zv, hi, his, hz, hzm⟩ := ht.info
    obtain ⟨os, h1, h2⟩ := fillC_ok h.one (place := fun i => some (i * ie.size, ie.size)) (fun i p hp => by
      rw [List.getElem?_map] at hp
      rw [hsz]
      rcases Nat.lt_or_ge i n with hlt | hge
      · rw [List.getElem?_range hlt] at hp
        simp only [Option.map_some, Option.some.injEq] at hp
        rw [← hp]
      · rw [List.getElem?_eq_none (by simpa using hge)] at hp
        simp at hp) _ (parts.toList.map fun p => (p.1, a.eval p.2)) z zv.cells cs (by simp) hps (zm_ok hzm) hf
    refine ⟨_, fin os cs ?_ h2, hK⟩
    simp only [Program.built, hi, hu, hz, hie]
    exact h1

theorem q_len (hD : DOk P E.D) (h : Rel w0 F0 N s a w f φ) {c : Call} (ho : o.op = .call c) (hc : ∀ g, c.callee ≠ .value g) (hK : evQ E s o K = some r) : ∃ v, Tells P a w f φ o v ∧ K v = some r := by
  unfold evQ at hK
  simp only [ho] at hK
  split at hK <;> try contradiction
  · rename_i hcal
    split at hK <;> try contradiction
    rename_i x t hargs htys
    have hx := h.ev x
    split at hK <;> try contradiction
    rename_i _ _ _ _ e ty hd
    obtain ⟨hu, _⟩ := (hD _ _ hd).sh
    have ha : c.args = #[x] := by apply Array.ext'; simpa using hargs
    have ht : c.argTypes = #[t] := by apply Array.ext'; simpa using htys
    have run : ∀ A n cp, a.eval x = .slice A n cp → (execOp a.eval o).run P w = .ok (.value (.int .i64 (n : Int))) w := by
      intro A n cp hxv
      simp [execOp, ho, resolve, hcal, ha, ht, hxv, invoke, builtin, Builtin.len_, run_underlying hu, goInt]
    split at hK <;> try contradiction
    · rename_i b t' l hX
      rw [hX] at hx
      obtain ⟨A, n, cp, hxv, _, hr⟩ := hx.slv
      exact ⟨_, ⟨_, run A n cp hxv, by rw [← hr.1]; exact .int _ _⟩, hK⟩
    · rename_i b t' l hX
      rw [hX] at hx
      obtain ⟨A, n, hxv, hr⟩ := hx.xsv
      exact ⟨_, ⟨_, run A n n hxv, by rw [← hr.1]; exact .int _ _⟩, hK⟩
    · rename_i hX
      rw [hX] at hx
      exact ⟨_, ⟨_, run _ _ _ hx.nilv, .int _ _⟩, hK⟩
    · rename_i hX
      rw [hX] at hx
      obtain ⟨A, c', hxv⟩ : ∃ A c', a.eval x = .slice A 0 c' := by
        generalize a.eval x = xv at hx
        cases hx
        exact ⟨_, _, rfl⟩
      exact ⟨_, ⟨_, run _ _ _ hxv, .int _ _⟩, hK⟩
    · rename_i κ hX
      rw [hX] at hx
      split at hK <;> try contradiction
      rename_i _ t' els sn hob
      obtain ⟨A, cp, hv, _⟩ := slice_len (h.ob κ _ hob)
      exact ⟨_, ⟨_, run A els.length cp (by rw [hx.rowv, hv]), .int _ _⟩, hK⟩
  · rename_i hcal
    split at hK <;> try contradiction
    rename_i x t hargs htys
    have hx := h.ev x
    split at hK <;> try contradiction
    rename_i _ _ _ _ e ty hd
    obtain ⟨hu, _⟩ := (hD _ _ hd).sh
    have ha : c.args = #[x] := by apply Array.ext'; simpa using hargs
    have ht : c.argTypes = #[t] := by apply Array.ext'; simpa using htys
    split at hK <;> try contradiction
    rename_i hX
    rw [hX] at hx
    exact ⟨_, ⟨_, by simp [execOp, ho, resolve, hcal, ha, ht, hx.nilv, invoke, builtin, Builtin.cap_, run_underlying hu, goInt], .int .i64 0⟩, hK⟩
  · rename_i hcal
    split at hK <;> try contradiction
    rename_i x y hargs
    have hx := h.ev x
    have hy := h.ev y
    have ha : c.args = #[x, y] := by apply Array.ext'; simpa using hargs
    split at hK <;> try contradiction
    rename_i k m k' n hX hY
    rw [hX] at hx
    rw [hY] at hy
    split at hK <;> try contradiction
    exact ⟨_, ⟨.int k (if n > m then n else m), by simp [execOp, ho, resolve, hcal, ha, hx.intv, hy.intv, invoke, builtin, Builtin.max_, Builtin.max2], .int _ _⟩, hK⟩
  · rename_i hcal
    split at hK <;> try contradiction
    rename_i x y hargs
    have hx := h.ev x
    have hy := h.ev y
    have ha : c.args = #[x, y] := by apply Array.ext'; simpa using hargs
    split at hK <;> try contradiction
    rename_i k m k' n hX hY
    rw [hX] at hx
    rw [hY] at hy
    split at hK <;> try contradiction
    exact ⟨_, ⟨.int k (if n < m then n else m), by simp [execOp, ho, resolve, hcal, ha, hx.intv, hy.intv, invoke, builtin, Builtin.min_, Builtin.min2], .int _ _⟩, hK⟩

theorem evQ_sound (hD : DOk P E.D) (h : Rel w0 F0 N s a w f φ) (hK : evQ E s o K = some r) : ∃ v, Tells P a w f φ o v ∧ K v = some r := by
  cases ho : o.op with
  | move x => unfold evQ at hK; simp only [ho] at hK; exact ⟨_, tells_move h (.inl ho) _, hK⟩
  | assign x => unfold evQ at hK; simp only [ho] at hK; exact ⟨_, tells_move h (.inr ho) _, hK⟩
  | pick c x y => exact evQ_pick h ho hK
  | binOp op t x y t' => exact q_binOp hD h ho hK
  | unOp u t x => exact q_unOp h ho hK
  | convert t t' x => exact q_convert hD h ho hK
  | load t x => exact q_load hD h ho hK
  | nilCheck x => exact q_nilCheck h ho hK
  | fieldAddr t x i => exact q_fieldAddr hD h ho hK
  | field t x i => exact q_field hD h ho hK
  | indexAddr t x y => exact q_indexAddr hD h ho hK
  | index t x y => exact q_index hD h ho hK
  | extract x i => exact q_extract h ho hK
  | makeFunc fn fi ca => exact q_makeFunc h ho hK
  | slice t x lo hi mx => exact q_slice hD h ho hK
  | build t parts => exact q_build hD h ho hK
  | call c =>
    refine q_len hD h ho (fun g hg => ?_) hK
    unfold evQ at hK
    simp [ho, hg] at hK
  | _ => unfold evQ at hK; simp [ho] at hK
end
end Go.Proofs.Ytbcijglbinaioaa.Ev
