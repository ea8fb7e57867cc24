/- The evaluator: regions, in the text's order and in any. -/
import Derived.Test.YtbcijglbinaioaaEv14
set_option linter.unusedVariables false
set_option linter.unusedSimpArgs false
set_option linter.unusedSectionVars false
set_option linter.unnecessarySimpa false
namespace Go.Proofs.Ytbcijglbinaioaa.Ev
open Go.RowKit Go.Shelf
section
variable {P : Program} {w0 : Bs} {F0 : Nat → Nat → Prop} {N : Nat} {s : St} {a : Act} {w : World} {f : Fr} {φ : Nat → Bd} {R : Type} {E : Env} {r : R}

def dstOk (N : Nat) (l : List Oper) : Prop := ∀ o ∈ l, ∀ d, o.dst = some d → d < N

theorem Rel.congr (h : Rel w0 F0 N s a w f φ) {s' : St} (ht : ∀ t, getT s'.tm t = getT s.tm t) (ho : s'.ob = s.ob) : Rel w0 F0 N s' a w f φ :=
  ⟨fun t => by rw [ht]; exact h.tm t, by rw [ho]; exact h.ob, by rw [ho]; exact h.dis, h.n0, h.F0s, h.Fnew, h.Flt, h.below, h.defers, h.size, h.one, h.hid, by rw [ho]; exact h.hdis, h.hvs, h.bx, h.Nle⟩

theorem evOps_sound (hD : DOk P E.D) (hT : EOk P E) {ops : Array Oper} {Q : Exit → Act → World → Prop} {K : St → Option R} (hQ : ∀ s' a' w' f' φ', Rel w0 F0 N s' a' w' f' φ' → K s' = some r → Q .normal a' w') :
    ∀ (l : List Oper), dstOk N l → ∀ (s : St) (a : Act) (w : World) (f : Fr) (φ : Nat → Bd), Rel w0 F0 N s a w f φ → evOps E ops.toList l s K = some r → wpList P ops Q l a w
  | [], _, s, a, w, f, φ, h, hK => hQ _ _ _ _ _ h hK
  | o :: l, hd, s, a, w, f, φ, h, hK => by
    have ho := hd o (by simp)
    have hl : dstOk N l := fun o' ho' => hd o' (by simp [ho'])
    simp only [evOps, evG] at hK
    obtain ⟨g1, g3, g2⟩ := guard_ok (o := o) h (ops := ops)
    have run : ∀ s1, Rel w0 F0 N s1 a w f φ → evO E s1 o (fun s' => evOps E ops.toList l s' K) = some r → o.wp P a w (wpList P ops Q l) Q := fun s1 h1 hK =>
      evO_sound hD hT h1 ho hK _ _ fun s' a' w' f' φ' hr hk => evOps_sound hD hT hQ l hl s' a' w' f' φ' hr hk
    have skip : ∀ s1, Rel w0 F0 N s1 a w f φ → evOps E ops.toList l (s1.put o.dst (.tup [])) K = some r → wpList P ops Q l (a.put o.dst undef) w := fun s1 h1 hK =>
      evOps_sound hD hT hQ l hl _ _ _ _ _ (h1.put o.dst ho (.tup [] [] .nil)) hK
    unfold wpList
    split at hK
    · rename_i hg
      rw [g1 hg, if_pos rfl]
      exact .inl (run s h hK)
    · rename_i hg
      rw [g3 hg, if_neg (by simp)]
      exact skip s h hK
    · rename_i d b want hg
      rw [g2 d b want hg]
      have hb := guardOf_get hg
      have h1 : Rel w0 F0 N (s.put (some d) (.bool b)) a w f φ := h.congr (getT_again hb) rfl
      cases b <;> cases want <;> simp only [if_true, Bool.false_eq_true, if_false, cond_true, cond_false] at hK
      · rw [if_pos (by rfl)]; exact .inl (run _ h1 hK)
      · rw [if_neg (by simp)]; exact skip _ h1 hK
      · rw [if_neg (by simp)]; exact skip _ h1 hK
      · rw [if_pos (by rfl)]; exact .inl (run _ h1 hK)
    · contradiction

/-! ### quiet regions -/
/-- The guard's temporary, told again. -/
def tellG (ops : List Oper) (s : St) (o : Oper) : St :=
  match guardOf ops s o with
  | some (.word d b _) => s.put (some d) (.bool b)
  | _ => s

theorem getT_tellG (ops : List Oper) (s : St) (o : Oper) (t : Nat) : getT (tellG ops s o).tm t = getT s.tm t := by
  unfold tellG
  split
  · rename_i hg; exact getT_again (guardOf_get hg) t
  · rfl
theorem tellG_ob (ops : List Oper) (s : St) (o : Oper) : (tellG ops s o).ob = s.ob := by
  unfold tellG
  split <;> rfl

def putAll (ops : List Oper) : St → List Oper → List AV → St
  | s, o :: l, u :: us => putAll ops ((tellG ops s o).put o.dst u) l us
  | s, _, _ => s

def StepsV (E : Env) (ops : List Oper) : St → List Oper → List AV → Prop
  | s, o :: l, u :: us => StepV E ops (tellG ops s o) o u ∧ StepsV E ops ((tellG ops s o).put o.dst u) l us
  | _, [], [] => True
  | _, _, _ => False

theorem guardOf_tellG (ops : List Oper) (s : St) (o : Oper) : guardOf ops (tellG ops s o) o = guardOf ops s o := by
  unfold guardOf
  cases o.guard with
  | none => rfl
  | some p =>
    simp only []
    cases ops[p.1]? with
    | none => rfl
    | some oj =>
      simp only []
      cases oj.dst with
      | none => rfl
      | some d => simp only [getT_tellG]

theorem evQs_steps {ops : List Oper} {K : St → Option R} : ∀ (l : List Oper) (s : St), evQs E ops l s K = some r → ∃ us, StepsV E ops s l us ∧ K (putAll ops s l us) = some r
  | [], s, hK => ⟨[], trivial, hK⟩
  | o :: l, s, hK => by
    simp only [evQs, evG] at hK
    have run : ∀ s1, evQC E s1 o (fun v => evQs E ops l (s1.put o.dst v) K) = some r → ∃ u, evQC E s1 o some = some u ∧ evQs E ops l (s1.put o.dst u) K = some r := fun s1 hK => by
      rw [evQC_nat] at hK
      exact Option.bind_eq_some_iff.1 hK
    have step : ∀ u, StepV E ops (tellG ops s o) o u → evQs E ops l ((tellG ops s o).put o.dst u) K = some r → ∃ us, StepsV E ops s (o :: l) us ∧ K (putAll ops s (o :: l) us) = some r := fun u hu hK => by
      obtain ⟨us, h1, h2⟩ := evQs_steps l _ hK
      exact ⟨u :: us, ⟨hu, h1⟩, h2⟩
    split at hK
    · rename_i hg
      have e : tellG ops s o = s := by unfold tellG; rw [hg]
      obtain ⟨u, h1, h2⟩ := run s hK
      exact step u (by rw [e]; unfold StepV; rw [hg]; exact h1) (by rw [e]; exact h2)
    · rename_i hg
      have e : tellG ops s o = s := by unfold tellG; rw [hg]
      exact step (.tup []) (by rw [e]; unfold StepV; rw [hg]) (by rw [e]; exact hK)
    · rename_i d b want hg
      have e : tellG ops s o = s.put (some d) (.bool b) := by unfold tellG; rw [hg]
      have yes : b = want → evQC E (tellG ops s o) o (fun v => evQs E ops l ((tellG ops s o).put o.dst v) K) = some r → ∃ us, StepsV E ops s (o :: l) us ∧ K (putAll ops s (o :: l) us) = some r := fun hb hK => by
        obtain ⟨u, h1, h2⟩ := run _ hK
        exact step u (by unfold StepV; rw [guardOf_tellG, hg]; simp only [hb, if_true]; exact h1) h2
      have no : b ≠ want → evQs E ops l ((tellG ops s o).put o.dst (.tup [])) K = some r → ∃ us, StepsV E ops s (o :: l) us ∧ K (putAll ops s (o :: l) us) = some r := fun hb hK =>
        step (.tup []) (by unfold StepV; rw [guardOf_tellG, hg]; simp only [hb, if_false]) hK
      rw [e] at yes no
      cases b <;> cases want <;> simp only [if_true, Bool.false_eq_true, if_false, cond_true, cond_false] at hK
      · exact yes rfl hK
      · exact no (by simp) hK
      · exact no (by simp) hK
      · exact yes rfl hK
    · contradiction

/-- In the text's order. -/
theorem quiet_text (hD : DOk P E.D) (hT : EOk P E) {ops : Array Oper} {Q : Exit → Act → World → Prop} {sN : St} (hQ : ∀ a' w' f' φ', Rel w0 F0 N sN a' w' f' φ' → Q .normal a' w') :
    ∀ (l : List Oper) (us : List AV), dstOk N l → ∀ (s : St) (a : Act) (w : World) (f : Fr) (φ : Nat → Bd), Rel w0 F0 N s a w f φ → StepsV E ops.toList s l us → putAll ops.toList s l us = sN → wpList P ops Q l a w
  | [], _, _, s, a, w, f, φ, h, _, he => by subst he; exact hQ _ _ _ _ h
  | o :: l, [], _, s, a, w, f, φ, h, hs, he => hs.elim
  | o :: l, u :: us, hd, s, a, w, f, φ, h, hs, he => by
    have hl : dstOk N l := fun o' ho' => hd o' (by simp [ho'])
    unfold wpList
    have := hs.1.goes hD hT (h.congr (getT_tellG ops.toList s o) (tellG_ob ops.toList s o)) (hd o (by simp)) (wpList P ops Q l) Q fun a' w' f' φ' hr => quiet_text hD hT hQ l us hl _ _ _ _ _ hr hs.2 he
    split
    · rename_i hw; rw [if_pos hw] at this; exact .inl this
    · rename_i hw; rw [if_neg hw] at this; exact this

/-- What a region whose order is open must keep: who is looked at has come before. -/
def regOk (ops : Array Oper) : Bool :=
  (List.range ops.size).all fun i => match ops[i]? with
    | some o =>
      ((o.looksAt ops).all fun t => (List.range ops.size).all fun j => match (ops[j]?).bind (·.dst) with
        | some d => d != t || (decide (j < i) && o.after.any fun e => e.on == j && Region.binds .any e)
        | none => true) &&
      (o.after.all fun e => !Region.binds .any e || decide (e.on < i)) &&
      (match o.dst with
        | some t => (List.range ops.size).all fun j => j == i || (ops[j]?).bind (·.dst) != some t
        | none => true)
    | none => true

structure RegOk (ops : Array Oper) : Prop where
  look : ∀ (i j : Nat) (o oj : Oper) (t : Nat), ops[i]? = some o → t ∈ o.looksAt ops → ops[j]? = some oj → oj.dst = some t → j < i ∧ ∃ e ∈ o.after, e.on = j ∧ Region.binds .any e = true
  early : ∀ (i : Nat) (o : Oper) (e : Edge), ops[i]? = some o → e ∈ o.after → Region.binds .any e = true → e.on < i
  one : ∀ (i j : Nat) (o oj : Oper) (t : Nat), ops[i]? = some o → ops[j]? = some oj → o.dst = some t → oj.dst = some t → i = j

theorem regOk_spec {ops : Array Oper} (h : regOk ops = true) : RegOk ops := by
  have key : ∀ (i : Nat) (o : Oper), ops[i]? = some o → i < ops.size := fun i o ho => (Array.getElem?_eq_some_iff.1 ho).1
  simp only [regOk, List.all_eq_true, List.mem_range] at h
  refine ⟨fun i j o oj t hi ht hj hd => ?_, fun i o e hi he hb => ?_, fun i j o oj t hi hj hd hd' => ?_⟩
  · have := h i (key i o hi)
    simp only [hi, Bool.and_eq_true, List.all_eq_true, List.mem_range] at this
    have := this.1.1 t ht j (key j oj hj)
    simp only [hj, Option.bind_some, hd, bne_self_eq_false, Bool.false_or, Bool.and_eq_true, decide_eq_true_eq, Array.any_eq_true', beq_iff_eq] at this
    exact ⟨this.1, this.2⟩
  · have := h i (key i o hi)
    simp only [hi, Bool.and_eq_true] at this
    have := Array.all_eq_true_iff_forall_mem.1 this.1.2 e he
    simpa [hb] using this
  · have := h i (key i o hi)
    simp only [hi, Bool.and_eq_true] at this
    have := this.2
    simp only [hd, List.all_eq_true, List.mem_range] at this
    have := this j (key j oj hj)
    simp only [hj, Option.bind_some, hd', Bool.or_eq_true, beq_iff_eq, bne_self_eq_false, Bool.false_eq_true, or_false] at this
    exact this.symm

structure At (s : St) (ops : Array Oper) (us : List AV) (L : Nat → Bool) (s' : St) : Prop where
  ob : s'.ob = s.ob
  yes : ∀ (j : Nat) (o : Oper) (t : Nat), ops[j]? = some o → o.dst = some t → L j = true → getT s'.tm t = us.getD j .top
  no : ∀ t, (∀ (j : Nat) (o : Oper), ops[j]? = some o → o.dst = some t → L j = false) → getT s'.tm t = getT s.tm t

theorem At.congr {ops : Array Oper} {us : List AV} {L : Nat → Bool} {s' s2 : St} (h : At s ops us L s') (ht : ∀ t, getT s2.tm t = getT s'.tm t) (ho : s2.ob = s'.ob) : At s ops us L s2 :=
  ⟨by rw [ho, h.ob], fun j o t a b c => by rw [ht]; exact h.yes j o t a b c, fun t q => by rw [ht]; exact h.no t q⟩

theorem At.put {ops : Array Oper} {us : List AV} {L : Nat → Bool} {s' : St} (hR : RegOk ops) (h : At s ops us L s') {i : Nat} {o : Oper} (hi : ops[i]? = some o) {L' : Nat → Bool} (hL : ∀ j, L' j = (L j || j == i)) :
    At s ops us L' (s'.put o.dst (us.getD i .top)) := by
  cases hd : o.dst with
  | none =>
    refine ⟨h.ob, fun j oj t hj hdj hl => ?_, fun t hn => ?_⟩
    · rw [hL] at hl
      by_cases e : j = i
      · subst e; rw [hi] at hj; simp only [Option.some.injEq] at hj; subst hj; rw [hd] at hdj; simp at hdj
      · exact h.yes j oj t hj hdj (by simpa [e] using hl)
    · exact h.no t fun j oj hj hdj => by have := hn j oj hj hdj; rw [hL] at this; simp at this; exact this.1
  | some d =>
    refine ⟨h.ob, fun j oj t hj hdj hl => ?_, fun t hn => ?_⟩
    · simp only [St.put, getT]
      split
      · rename_i e
        subst e
        rw [hR.one i j o oj d hi hj hd hdj]
      · rename_i e
        rw [hL] at hl
        by_cases e' : j = i
        · subst e'; rw [hi] at hj; simp only [Option.some.injEq] at hj; subst hj; rw [hd] at hdj; simp at hdj; exact absurd hdj e
        · exact h.yes j oj t hj hdj (by simpa [e'] using hl)
    · simp only [St.put, getT]
      split
      · rename_i e
        subst e
        have := hn i o hi hd
        rw [hL] at this
        simp at this
      · exact h.no t fun j oj hj hdj => by have := hn j oj hj hdj; rw [hL] at this; simp at this; exact this.1

/-- The text's order: the state before each operation. -/
theorem steps_at {ops : Array Oper} {us0 : List AV} (hR : RegOk ops) : ∀ (l : List Oper) (us : List AV) (k : Nat) (s' : St), (∀ j, l[j]? = ops[k + j]?) → (∀ j, us[j]? = us0[k + j]?) → At s ops us0 (fun j => decide (j < k)) s' → StepsV E ops.toList s' l us →
    (∀ (i : Nat) (o : Oper), k ≤ i → ops[i]? = some o → ∃ si, At s ops us0 (fun j => decide (j < i)) si ∧ StepV E ops.toList si o (us0.getD i .top)) ∧ At s ops us0 (fun j => decide (j < ops.size)) (putAll ops.toList s' l us)
  | [], us, k, s', hl, hus, hA, _ => by
    have hk : ops.size ≤ k := by
      have := (hl 0).symm
      simp only [Nat.add_zero, List.getElem?_nil] at this
      exact Array.getElem?_eq_none_iff.1 this
    refine ⟨fun i o hi ho => absurd (Array.getElem?_eq_some_iff.1 ho).1 (by omega), ?_⟩
    have hp : putAll ops.toList s' [] us = s' := rfl
    rw [hp]
    refine ⟨hA.ob, fun j o t hj hd hlt => hA.yes j o t hj hd (by simp at hlt ⊢; omega), fun t hn => hA.no t fun j o hj hd => ?_⟩
    have := hn j o hj hd
    have h2 := (Array.getElem?_eq_some_iff.1 hj).1
    simp at this
    omega
  | o :: l, [], k, s', hl, hus, hA, hs => hs.elim
  | o :: l, u :: us, k, s', hl, hus, hA, hs => by
    have hk : ops[k]? = some o := by simpa using (hl 0).symm
    have hu : us0.getD k .top = u := by
      have := (hus 0).symm
      simp only [Nat.add_zero, List.getElem?_cons_zero] at this
      simp [List.getD_eq_getElem?_getD, this]
    have hA := hA.congr (getT_tellG ops.toList s' o) (tellG_ob ops.toList s' o)
    have hA' := hA.put hR hk (L' := fun j => decide (j < k + 1)) (fun j => by
      by_cases h1 : j < k
      · simp [h1]; omega
      · by_cases h2 : j = k
        · subst h2; simp
        · have : ¬ j < k + 1 := by omega
          simp [h1, h2, this])
    rw [hu] at hA'
    obtain ⟨h1, h2⟩ := steps_at hR l us (k + 1) _ (fun j => by have := hl (j + 1); simpa [Nat.add_assoc, Nat.add_comm 1 j] using this) (fun j => by have := hus (j + 1); simpa [Nat.add_assoc, Nat.add_comm 1 j] using this) hA' hs.2
    refine ⟨fun i oi hi ho => ?_, h2⟩
    by_cases e : i = k
    · subst e
      rw [hk] at ho
      simp only [Option.some.injEq] at ho
      subst ho
      exact ⟨_, hA, by rw [hu]; exact hs.1⟩
    · exact h1 i oi (by omega) ho

def cnt (listed : Array Bool) : Nat → Nat
  | 0 => 0
  | k + 1 => cnt listed k + if listed.getD k true then 0 else 1

theorem cnt_set {listed : Array Bool} {i : Nat} (hi : listed.getD i true = false) : ∀ k, cnt (listed.setIfInBounds i true) k + (if i < k then 1 else 0) = cnt listed k
  | 0 => rfl
  | k + 1 => by
    have ih := cnt_set hi k
    simp only [cnt]
    by_cases e : i = k
    · subst e
      have hlt : i < listed.size := by
        rcases Nat.lt_or_ge i listed.size with h | h
        · exact h
        · simp [Array.getElem?_eq_none h] at hi
      rw [if_neg (Nat.lt_irrefl _)] at ih
      rw [hi]
      have : (listed.setIfInBounds i true).getD i true = true := by simp [hlt]
      rw [this, if_pos (show i < i + 1 by omega)]
      simp
      omega
    · rw [getD_set_ne true e]
      by_cases h1 : i < k
      · rw [if_pos h1] at ih; rw [if_pos (show i < k + 1 by omega)]; omega
      · rw [if_neg h1] at ih; rw [if_neg (show ¬ i < k + 1 by omega)]; omega

theorem cnt_zero {listed : Array Bool} : ∀ k, cnt listed k = 0 → ∀ j, j < k → listed.getD j true = true
  | 0, _, j, hj => by omega
  | k + 1, h, j, hj => by
    simp only [cnt] at h
    by_cases e : j = k
    · subst e
      cases hq : listed.getD j true with
      | true => rfl
      | false => rw [hq] at h; simp at h
    · exact cnt_zero k (by omega) j (by omega)

theorem quiet_any (hD : DOk P E.D) (hT : EOk P E) {ops : Array Oper} (hR : RegOk ops) (hd : dstOk N ops.toList) {us : List AV} {Q : Exit → Act → World → Prop} {sN : St}
    (hN : At s ops us (fun j => decide (j < ops.size)) sN) (hS : ∀ (i : Nat) (o : Oper), ops[i]? = some o → ∃ si, At s ops us (fun j => decide (j < i)) si ∧ StepV E ops.toList si o (us.getD i .top))
    (hQ : ∀ a' w' f' φ', Rel w0 F0 N sN a' w' f' φ' → Q .normal a' w') :
    ∀ (fuel : Nat) (listed : Array Bool) (s' : St) (a : Act) (w : World) (f : Fr) (φ : Nat → Bd), listed.size = ops.size → cnt listed ops.size ≤ fuel → At s ops us (fun j => listed.getD j false) s' → Rel w0 F0 N s' a w f φ → wpAny P .any ops Q fuel listed a w := by
  have gd : ∀ (listed : Array Bool) (j : Nat), listed.size = ops.size → j < ops.size → listed.getD j true = listed.getD j false := fun listed j hl hj => by
    simp [Array.getD_eq_getD_getElem?, Array.getElem?_eq_getElem (show j < listed.size by omega)]
  have fin : ∀ (listed : Array Bool) (s' : St) (a : Act) (w : World) (f : Fr) (φ : Nat → Bd), listed.size = ops.size → (∀ j, j < ops.size → listed.getD j true = true) → At s ops us (fun j => listed.getD j false) s' → Rel w0 F0 N s' a w f φ → Q .normal a w := by
    intro listed s' a w f φ hl hall hA h
    refine hQ _ _ _ _ (h.congr (fun t => ?_) (by rw [hN.ob, hA.ob]))
    by_cases hex : ∃ (j : Nat) (o : Oper), ops[j]? = some o ∧ o.dst = some t
    · obtain ⟨j, o, hj, hdj⟩ := hex
      have hlt := (Array.getElem?_eq_some_iff.1 hj).1
      rw [hN.yes j o t hj hdj (by simpa using hlt), hA.yes j o t hj hdj (by rw [← gd listed j hl hlt]; exact hall j hlt)]
    · have hno : ∀ (j : Nat) (o : Oper), ops[j]? = some o → o.dst = some t → False := fun j o h1 h2 => hex ⟨j, o, h1, h2⟩
      rw [hN.no t fun j o h1 h2 => (hno j o h1 h2).elim, hA.no t fun j o h1 h2 => (hno j o h1 h2).elim]
  have ready0 : ∀ (listed : Array Bool), listed.size = ops.size → Region.ready .any ops listed = [] → ∀ j, j < ops.size → listed.getD j true = true := by
    intro listed hl h0 j
    induction j using Nat.strongRecOn with
    | _ j ih =>
      intro hj
      cases hq : listed.getD j true with
      | true => rfl
      | false =>
        exfalso
        obtain ⟨o, ho⟩ : ∃ o, ops[j]? = some o := ⟨_, Array.getElem?_eq_getElem hj⟩
        have : j ∈ Region.ready .any ops listed := mem_ready.2 ⟨hq, o, ho, fun e he hb => by
          have h1 := hR.early j o e ho he hb
          rw [← gd listed e.on hl (by omega)]
          exact ih e.on h1 (by omega)⟩
        rw [h0] at this
        cases this
  intro fuel
  induction fuel with
  | zero =>
    intro listed s' a w f φ hl hc hA h
    have hall := cnt_zero ops.size (by omega) (listed := listed)
    refine ⟨?_, fin listed s' a w f φ hl hall hA h⟩
    apply List.eq_nil_iff_forall_not_mem.2
    intro j hj
    obtain ⟨h1, o, ho, _⟩ := mem_ready.1 hj
    rw [hall j (Array.getElem?_eq_some_iff.1 ho).1] at h1
    cases h1
  | succ fuel ih =>
    intro listed s' a w f φ hl hc hA h
    refine ⟨fun h0 => fin listed s' a w f φ hl (ready0 listed hl h0) hA h, fun i hi => ?_⟩
    obtain ⟨h1, o, ho, hall⟩ := mem_ready.1 hi
    have hlt := (Array.getElem?_eq_some_iff.1 ho).1
    obtain ⟨si, hAi, hst⟩ := hS i o ho
    have hst' : StepV E ops.toList s' o (us.getD i .top) := by
      refine hst.congr (fun t ht => ?_) (fun _ _ _ _ => by rw [hA.ob, hAi.ob])
      have ht : t ∈ o.looksAt ops := by simpa using ht
      by_cases hex : ∃ (j : Nat) (oj : Oper), ops[j]? = some oj ∧ oj.dst = some t
      · obtain ⟨j, oj, hj, hdj⟩ := hex
        obtain ⟨hji, e, he, hon, hb⟩ := hR.look i j o oj t ho ht hj hdj
        rw [hAi.yes j oj t hj hdj (by simpa using hji), hA.yes j oj t hj hdj (by rw [← hon]; exact hall e he hb)]
      · have hno : ∀ (j : Nat) (o : Oper), ops[j]? = some o → o.dst = some t → False := fun j o h1 h2 => hex ⟨j, o, h1, h2⟩
        rw [hAi.no t fun j o h1 h2 => (hno j o h1 h2).elim, hA.no t fun j o h1 h2 => (hno j o h1 h2).elim]
    have := hst'.goes hD hT h (hd o (by
      have := Array.mem_of_getElem? ho
      simpa using this)) (wpAny P .any ops Q fuel (listed.setIfInBounds i true)) Q fun a' w' f' φ' hr => by
        refine ih (listed.setIfInBounds i true) _ a' w' f' φ' (by simpa using hl) ?_ (hA.put hR ho fun j => ?_) hr
        · have := cnt_set h1 ops.size
          rw [if_pos hlt] at this
          omega
        · by_cases e : i = j
          · subst e
            have : i < listed.size := by omega
            simp [this]
          · rw [getD_set_ne false e]
            have : (j == i) = false := by simpa using fun q => e q.symm
            rw [this, Bool.or_false]
    unfold wpOp
    simp only [ho]
    split
    · rename_i hw; rw [if_pos hw] at this; exact .inl this
    · rename_i hw; rw [if_neg hw] at this; exact this

theorem Rel.drew (h : Rel w0 F0 N s a w f φ) (n : Nat) : Rel w0 F0 N s a { w with drawn := n } f φ := by
  have hc : ∀ ad : Addr, ({ w with drawn := n } : World).cell? ad = w.cell? ad := fun _ => rfl
  have hk : FKeeps w { w with drawn := n } f f := ⟨rfl, fun _ _ q => q, fun _ _ _ _ q => q⟩
  refine ⟨fun t => (h.tm t).keeps hk, fun κ o ho => ?_, h.dis, h.n0, h.F0s, h.Fnew, h.Flt, h.below.trans ⟨rfl, rfl, rfl, Nat.le_refl _, fun _ _ => rfl⟩, h.defers, h.size, h.one, fun ψ κ o ho => (h.hid ψ κ o ho).stays hk (fun _ _ => rfl) (fun _ _ _ q => q), h.hdis, fun ψ v x hx => (h.hvs ψ v x hx).keeps hk, h.bx, h.Nle⟩
  exact (h.ob κ o ho).stays hk (fun _ _ => rfl) (fun _ _ _ q => q)

/-- A quiet region. -/
theorem quiet_region (hm : P.follows .mixedOrders = true) (hD : DOk P E.D) (hT : EOk P E) {id : Nat} {ops : Array Oper} {draw : Bool} (hR : draw = true → regOk ops = true) (hd : dstOk N ops.toList) {Q : Exit → Act → World → Prop} {K : St → Option R}
    (h : Rel w0 F0 N s a w f φ) (hK : evQs E ops.toList ops.toList s K = some r) (hQ : ∀ us a' w' f' φ', Rel w0 F0 N (putAll ops.toList s ops.toList us) a' w' f' φ' → K (putAll ops.toList s ops.toList us) = some r → Q .normal a' w') : (Code.region id ops draw).wp P Q a w := by
  obtain ⟨us, hs, hk⟩ := evQs_steps _ _ hK
  cases draw with
  | false => exact wp_region_list (quiet_text hD hT (fun a' w' f' φ' hr => hQ _ _ _ _ _ hr hk) _ us hd s a w f φ h hs rfl)
  | true =>
    have hR := regOk_spec (hR rfl)
    obtain ⟨h1, h2⟩ := steps_at (s := s) (E := E) (us0 := us) hR ops.toList us 0 s (by simp) (by simp) ⟨rfl, fun j o t _ _ hl => by simp at hl, fun t _ => rfl⟩ hs
    refine wp_region_any hm (quiet_any hD hT hR hd h2 (fun i o ho => h1 i o (Nat.zero_le _) ho) (fun a' w' f' φ' hr => hQ _ _ _ _ _ hr hk) _ _ s a _ f φ (by simp) ?_ ⟨rfl, fun j o t _ _ hl => ?_, fun t _ => rfl⟩ (h.drew _))
    · have : ∀ k, cnt (Array.replicate ops.size false) k ≤ k := by
        intro k
        induction k with
        | zero => exact Nat.le_refl _
        | succ k ih => simp only [cnt]; split <;> omega
      exact this _
    · simp only [Array.getD_eq_getD_getElem?, Array.getElem?_replicate] at hl
      split at hl <;> simp at hl

end
end Go.Proofs.Ytbcijglbinaioaa.Ev
