/- The evaluator: regions whose order is open, in which something is turned: any order does the same. -/
import Derived.Test.YtbcijglbinaioaaEv15b
set_option linter.unusedVariables false
set_option linter.unusedSimpArgs false
set_option linter.unusedSectionVars false
set_option linter.unnecessarySimpa false
namespace Go.Proofs.Ytbcijglbinaioaa.Ev
open Go.RowKit Go.Shelf
section
variable {P : Program} {w0 : Bs} {F0 : Nat → Nat → Prop} {N : Nat} {a : Act} {w : World} {f : Fr} {φ : Nat → Bd} {R : Type} {E : Env} {r : R}
variable {rs : List Rec} {effs : List Nat} {ops : Array Oper} {s0 : St}

theorem runs_prefix : ∀ {l : List Oper} {i : Nat} {s : St} {prev : List Rec} {sf : St} {all : List Rec}, RunsA effs E ops s0 l i s prev sf all → ∃ new, all = prev ++ new ∧ new.length = l.length
  | [], i, s, prev, sf, all, h => ⟨[], by rw [h.2]; simp, rfl⟩
  | o :: l, i, s, prev, sf, all, h => by
    obtain ⟨rc, s1, _, h⟩ := h
    obtain ⟨new, h1, h2⟩ := runs_prefix h
    exact ⟨rc :: new, by rw [h1]; simp, by simp [h2]⟩

theorem ev_of_get {s s' : St} {o : Oper} (h : ∀ t ∈ o.looksAt ops, getT s.tm t = getT s'.tm t) : ∀ x ∈ o.op.operands, s.ev x = s'.ev x := fun x hx => by
  cases x with
  | tmp t => exact h t (List.mem_append_left _ (List.mem_filterMap.2 ⟨.tmp t, by simpa using hx, rfl⟩))
  | const v => rfl
  | func g => rfl
  | global g => rfl

theorem getT_effS {kl : List Nat} {u : AV} {δ : List OE} {s : St} {d : Option Nat} (t : Nat) : getT (effS kl u δ s d).tm t = if d = some t then u else killsV kl (getT s.tm t) := by
  cases d with
  | none => simp only [effS, St.put, getT_kills]; rfl
  | some d =>
    simp only [effS, St.put, getT, getT_kills, Option.some.injEq]

theorem getT_put' {u : AV} {s : St} {d : Option Nat} (t : Nat) : getT (s.put d u).tm t = if d = some t then u else getT s.tm t := by
  cases d with
  | none => rfl
  | some d => simp only [St.put, getT, Option.some.injEq]
theorem put_ob {u : AV} {s : St} {d : Option Nat} : (s.put d u).ob = s.ob := by cases d <;> rfl
theorem effS_ob {kl : List Nat} {u : AV} {δ : List OE} {s : St} {d : Option Nat} : (effS kl u δ s d).ob = δ ++ s.ob := by cases d <;> rfl

/-- A step in the text's order. -/
theorem AtU.text (hS : AnyStat ops) {i : Nat} {s s1 : St} {o : Oper} {prev : List Rec} (hi : ops[i]? = some o) (hA : AtU rs effs s0 ops (fun j => decide (j < i)) i s) (hs : StepA effs E ops s0 i s prev o (rcd rs i) s1) :
    AtU rs effs s0 ops (fun j => decide (j < i + 1)) (i + 1) s1 := by
  obtain ⟨hbef, hs⟩ := hs
  by_cases he : memN i effs = true
  · rw [if_pos he] at hs
    obtain ⟨_, _, rfl⟩ := hs
    refine ⟨by rw [effS_ob, hA.ob, obU, if_pos he], fun j oj t hj hd hl => ?_, fun t hn => ?_⟩
    · rw [getT_effS]
      simp only [decide_eq_true_eq] at hl
      by_cases hji : j = i
      · subst hji
        rw [hi] at hj
        simp only [Option.some.injEq] at hj
        subst hj
        rw [if_pos hd, FK_low _ _ (by omega)]
      · rw [if_neg (fun e => hji (hS.one j i oj o t hj hi hd e)), hA.yes j oj t hj hd (by simp; omega), FK, if_pos ⟨he, by omega⟩]
    · have hne : o.dst ≠ some t := fun e => by have := hn i o hi e; simp at this
      rw [getT_effS, if_neg hne, hA.no t fun j oj hj hd => by have := hn j oj hj hd; simp at this ⊢; omega]
      rw [FK, if_pos ⟨he, Nat.zero_le _⟩]
  · rw [if_neg he] at hs
    obtain ⟨⟨u, hu, huu, rfl⟩, _, _⟩ := hs
    refine ⟨by rw [put_ob, tellG_ob, hA.ob, obU, if_neg he], fun j oj t hj hd hl => ?_, fun t hn => ?_⟩
    · rw [getT_put', getT_tellG]
      simp only [decide_eq_true_eq] at hl
      by_cases hji : j = i
      · subst hji
        rw [hi] at hj
        simp only [Option.some.injEq] at hj
        subst hj
        rw [if_pos hd, FK_low _ _ (by omega), huu t hd]
      · rw [if_neg (fun e => hji (hS.one j i oj o t hj hi hd e)), hA.yes j oj t hj hd (by simp; omega), FK, if_neg (fun q => he q.1)]
    · have hne : o.dst ≠ some t := fun e => by have := hn i o hi e; simp at this
      rw [getT_put', getT_tellG, if_neg hne, hA.no t fun j oj hj hd => by have := hn j oj hj hd; simp at this ⊢; omega]
      rw [FK, if_neg (fun q => he q.1)]

theorem runs_at (hS : AnyStat ops) {sf : St} : ∀ (l : List Oper) (i : Nat) (s : St) (prev : List Rec), (∀ k, l[k]? = ops[i + k]?) → prev.length = i → RunsA effs E ops s0 l i s prev sf rs → AtU rs effs s0 ops (fun j => decide (j < i)) i s →
    (∀ (i' : Nat) (o : Oper), i ≤ i' → ops[i']? = some o → ∃ si s1, AtU rs effs s0 ops (fun j => decide (j < i')) i' si ∧ StepA effs E ops s0 i' si (rs.take i') o (rcd rs i') s1) ∧ AtU rs effs s0 ops (fun j => decide (j < i + l.length)) (i + l.length) sf
  | [], i, s, prev, hl, hp, h, hA => by
    obtain ⟨rfl, _⟩ := h
    refine ⟨fun i' o hi ho => ?_, by simpa using hA⟩
    have := (hl 0).symm
    simp only [List.getElem?_nil, Nat.add_zero] at this
    have h1 := Array.getElem?_eq_none_iff.1 this
    have h2 := (Array.getElem?_eq_some_iff.1 ho).1
    omega
  | o :: l, i, s, prev, hl, hp, h, hA => by
    obtain ⟨rc, s1, hs, h⟩ := h
    have ho : ops[i]? = some o := by simpa using (hl 0).symm
    obtain ⟨new, h1, h2⟩ := runs_prefix h
    have hrc : rcd rs i = rc := by
      rw [h1]
      simp [rcd, List.getD_eq_getElem?_getD, hp]
    have hpre : rs.take i = prev := by rw [h1, List.append_assoc, ← hp]; simp
    rw [← hrc] at hs
    have hA' := hA.text hS ho hs
    obtain ⟨h3, h4⟩ := runs_at hS l (i + 1) s1 (prev ++ [rc]) (fun k => by
      have := hl (k + 1)
      simp only [List.getElem?_cons_succ] at this
      rw [this]; congr 1; omega) (by simp [hp]) h hA'
    refine ⟨fun i' oi hi hoi => ?_, ?_⟩
    · by_cases e : i' = i
      · subst e
        rw [ho] at hoi
        simp only [Option.some.injEq] at hoi
        subst hoi
        exact ⟨s, s1, hA, by rw [hpre]; exact hs⟩
      · exact h3 i' oi (by omega) hoi
    · have e : i + (o :: l).length = i + 1 + l.length := by simp; omega
      rw [e]
      exact h4

theorem rawT_hit {t : Nat} : ∀ {l : List Oper} {q : List Rec} {j : Nat} {o : Oper}, l[j]? = some o → o.dst = some t → j < q.length → (∀ (k : Nat) (ok : Oper), k < j → l[k]? = some ok → ok.dst ≠ some t) → rawT s0 t l q = (rcd q j).u
  | [], q, j, o, h, _, _, _ => by simp at h
  | o' :: l, [], j, o, _, _, hq, _ => by simp at hq
  | o' :: l, rc :: q, j, o, h, hd, hq, hn => by
    simp only [rawT]
    cases j with
    | zero =>
      simp only [List.getElem?_cons_zero, Option.some.injEq] at h
      subst h
      rw [if_pos hd]
      rfl
    | succ j =>
      rw [if_neg (hn 0 o' (by omega) (by simp))]
      have := rawT_hit (l := l) (q := q) (j := j) (o := o) (by simpa using h) hd (by simpa using hq) (fun k ok hk hok => hn (k + 1) ok (by omega) (by simpa using hok))
      rw [this]
      simp [rcd, List.getD_eq_getElem?_getD]
theorem rawT_miss {t : Nat} : ∀ {l : List Oper} {q : List Rec}, (∀ (k : Nat) (ok : Oper), k < q.length → l[k]? = some ok → ok.dst ≠ some t) → rawT s0 t l q = getT s0.tm t
  | [], q, _ => by cases q <;> rfl
  | o' :: l, [], _ => rfl
  | o' :: l, rc :: q, hn => by
    simp only [rawT]
    rw [if_neg (hn 0 o' (by simp) (by simp))]
    exact rawT_miss fun k ok hk hok => hn (k + 1) ok (by simpa using hk) (by simpa using hok)

theorem anyOk_spec {tab : List Nat} (h : anyOk tab effs rs = true) : (∀ e, memN e effs = true → e < rs.length) ∧
    ∀ i e, memN e effs = true → i < rs.length → i ≠ e → ordB tab i e = true ∨ apartB effs i (rcd rs i) (rcd rs e) = true := by
  unfold anyOk at h
  rw [List.all_eq_true] at h
  have key : ∀ i, i < rs.length → rs[i]? = some (rcd rs i) := fun i hi => by simp [rcd, List.getD_eq_getElem?_getD, hi]
  have h1 : ∀ e, memN e effs = true → e < rs.length := fun e he => by
    have := h e (memN_iff.1 he)
    rcases Nat.lt_or_ge e rs.length with hlt | hge
    · exact hlt
    · rw [List.getElem?_eq_none hge] at this
      simp at this
  refine ⟨h1, fun i e he hi hne => ?_⟩
  have := h e (memN_iff.1 he)
  rw [key e (h1 e he)] at this
  simp only [List.all_eq_true, List.mem_range] at this
  have := this i hi
  rw [key i hi] at this
  simpa [hne] using this

/-- What is known of the whole. -/
structure AnyD (E : Env) (ops : Array Oper) (s0 : St) (rs : List Rec) (effs : List Nat) (sf : St) : Prop where
  stat : AnyStat ops
  len : rs.length = ops.size
  good : Good ops (ancTab ops.toList [])
  tabl : (ancTab ops.toList []).length = ops.size
  step : ∀ (i : Nat) (o : Oper), ops[i]? = some o → ∃ si s1, AtU rs effs s0 ops (fun j => decide (j < i)) i si ∧ StepA effs E ops s0 i si (rs.take i) o (rcd rs i) s1
  last : AtU rs effs s0 ops (fun j => decide (j < ops.size)) ops.size sf
  effl : ∀ e, memN e effs = true → e < ops.size
  pair : ∀ i e, memN e effs = true → i < ops.size → i ≠ e → ordB (ancTab ops.toList []) i e = true ∨ apartB effs i (rcd rs i) (rcd rs e) = true

/-- Where we are: these are done; of those that turn something, the first m. -/
structure Here (rs : List Rec) (effs : List Nat) (s0 : St) (ops : Array Oper) (L : Nat → Bool) (m : Nat) (s' : St) : Prop where
  closed : Closed ops L
  bound : ∀ e, memN e effs = true → (L e = true ↔ e < m)
  at' : AtU rs effs s0 ops L m s'

section
variable {sf s' : St} {L : Nat → Bool} {m i : Nat} {o : Oper}

theorem AnyD.before (h : AnyD E ops s0 rs effs sf) {i j : Nat} {o : Oper} (hi : ops[i]? = some o) (hj : ((ancTab ops.toList []).getD i 0).testBit j = true) : j < i ∧ ∀ L, Closed ops L → (∀ e ∈ o.after, Region.binds .any e = true → L e.on = true) → L j = true :=
  h.good i o (by rw [h.tabl]; exact (Array.getElem?_eq_some_iff.1 hi).1) hi j hj

/-- An operation that is ready, and one of those that turn something, on the other side of where we are: their order is open. -/
theorem AnyD.open (h : AnyD E ops s0 rs effs sf) (hH : Here rs effs s0 ops L m s') (hi : ops[i]? = some o) (hLi : L i = false) (hr : ∀ e ∈ o.after, Region.binds .any e = true → L e.on = true) {e : Nat} (he : memN e effs = true) (hne : i ≠ e)
    (hside : (i ≤ e ∧ e < m) ∨ (m ≤ e ∧ e < i)) : apartB effs i (rcd rs i) (rcd rs e) = true := by
  have hie := (Array.getElem?_eq_some_iff.1 hi).1
  refine (h.pair i e he hie hne).resolve_left fun ho => ?_
  obtain ⟨oe, hoe⟩ : ∃ oe, ops[e]? = some oe := ⟨_, Array.getElem?_eq_getElem (h.effl e he)⟩
  simp only [ordB, Bool.or_eq_true] at ho
  rcases hside with ⟨h1, h2⟩ | ⟨h1, h2⟩
  · have hLe := (hH.bound e he).2 h2
    rcases ho with ho | ho
    · have := (h.before hoe ho).2 L hH.closed (hH.closed e oe hoe hLe)
      rw [hLi] at this; cases this
    · have := (h.before hi ho).1; omega
  · rcases ho with ho | ho
    · have := (h.before hoe ho).1; omega
    · have := (h.before hi ho).2 L hH.closed hr
      rw [hH.bound e he] at this; omega

theorem AnyD.looked (h : AnyD E ops s0 rs effs sf) (hH : Here rs effs s0 ops L m s') (hi : ops[i]? = some o) (hLi : L i = false) (hr : ∀ e ∈ o.after, Region.binds .any e = true → L e.on = true) {si : St} (hA : AtU rs effs s0 ops (fun j => decide (j < i)) i si) {t : Nat} (ht : t ∈ o.looksAt ops)
    (hfree : ∀ e, memN e effs = true → (i ≤ e ∧ e < m) ∨ (m ≤ e ∧ e < i) → noToks (rcd rs e).kl (rawT s0 t ops.toList (rs.take i)) = true) : getT si.tm t = getT s'.tm t := by
  have hie := (Array.getElem?_eq_some_iff.1 hi).1
  have eqFK : ∀ lo v, v = rawT s0 t ops.toList (rs.take i) → FK rs effs lo i v = FK rs effs lo m v := by
    intro lo v hv
    subst hv
    rcases Nat.le_total i m with hle | hle
    · exact (FK_ext rs effs hle fun e h1 h2 _ he => hfree e he (.inl ⟨h1, h2⟩)).symm
    · exact FK_ext rs effs hle fun e h1 h2 _ he => hfree e he (.inr ⟨h1, h2⟩)
  have htake : (rs.take i).length = i := by rw [List.length_take, h.len]; omega
  by_cases hw : ∃ (j : Nat) (oj : Oper), ops[j]? = some oj ∧ oj.dst = some t
  · obtain ⟨j, oj, hj, hd⟩ := hw
    have hjl := (Array.getElem?_eq_some_iff.1 hj).1
    have look := h.stat.look i j o oj t hi ht hj hd
    by_cases hlt : j < i
    · have hLj : L j = true := by
        rcases look with e | ho
        · omega
        · simp only [ordB, Bool.or_eq_true] at ho
          rcases ho with ho | ho
          · exact (h.before hi ho).2 L hH.closed hr
          · have := (h.before hj ho).1; omega
      rw [hA.yes j oj t hj hd (by simpa using hlt), hH.at'.yes j oj t hj hd hLj]
      refine eqFK (j + 1) _ ?_
      have := rawT_hit (s0 := s0) (t := t) (l := ops.toList) (q := rs.take i) (j := j) (o := oj) (by simpa using hj) hd (by omega) (fun k ok hk hok he => by
        have := h.stat.one k j ok oj t (by simpa using hok) hj he hd
        omega)
      rw [this]
      simp [rcd, List.getD_eq_getElem?_getD, List.getElem?_take, hlt]
    · have hLj : L j = false := by
        rcases look with e | ho
        · rw [e]; exact hLi
        · simp only [ordB, Bool.or_eq_true] at ho
          rcases ho with ho | ho
          · have := (h.before hi ho).1; omega
          · cases hq : L j with
            | false => rfl
            | true =>
              have := (h.before hj ho).2 L hH.closed (hH.closed j oj hj hq)
              rw [hLi] at this; cases this
      have only : ∀ (k : Nat) (ok : Oper), ops[k]? = some ok → ok.dst = some t → k = j := fun k ok hk hdk => h.stat.one k j ok oj t hk hj hdk hd
      rw [hA.no t fun k ok hk hdk => by rw [only k ok hk hdk]; simpa using hlt, hH.at'.no t fun k ok hk hdk => by rw [only k ok hk hdk]; exact hLj]
      refine eqFK 0 _ (rawT_miss fun k ok hk hok he => ?_).symm
      have := only k ok (by simpa using hok) he
      omega
  · have hno : ∀ (j : Nat) (o : Oper), ops[j]? = some o → o.dst = some t → False := fun j o h1 h2 => hw ⟨j, o, h1, h2⟩
    rw [hA.no t fun j o h1 h2 => (hno j o h1 h2).elim, hH.at'.no t fun j o h1 h2 => (hno j o h1 h2).elim]
    exact eqFK 0 _ (rawT_miss fun k ok hk hok he => hno k ok (by simpa using hok) he).symm

theorem AnyD.closed' (hH : Here rs effs s0 ops L m s') (hi : ops[i]? = some o) (hr : ∀ e ∈ o.after, Region.binds .any e = true → L e.on = true) {L' : Nat → Bool} (hL : ∀ j, L' j = (L j || j == i)) : Closed ops L' := by
  intro j oj hj hLj e he hb
  rw [hL] at hLj ⊢
  by_cases e1 : j = i
  · subst e1
    rw [hi] at hj
    simp only [Option.some.injEq] at hj
    subst hj
    rw [hr e he hb]; rfl
  · have : L j = true := by simpa [e1] using hLj
    rw [hH.closed j oj hj this e he hb]; rfl

/-- A quiet one. -/
theorem AnyD.quiet (h : AnyD E ops s0 rs effs sf) (hH : Here rs effs s0 ops L m s') (hi : ops[i]? = some o) (hLi : L i = false) (hr : ∀ e ∈ o.after, Region.binds .any e = true → L e.on = true) (he : memN i effs = false) {L' : Nat → Bool} (hL : ∀ j, L' j = (L j || j == i)) :
    ∃ u, StepV E ops.toList s' o u ∧ Here rs effs s0 ops L' m (s'.put o.dst u) := by
  obtain ⟨si, s1, hA, hbef, hs⟩ := h.step i o hi
  rw [if_neg (by rw [he]; simp)] at hs
  obtain ⟨⟨u, hu, huu, _⟩, hraw, hks⟩ := hs
  have hop : ∀ e, memN e effs = true → (i ≤ e ∧ e < m) ∨ (m ≤ e ∧ e < i) → noToks (rcd rs e).kl (rcd rs i).u = true ∧ (∀ v ∈ (rcd rs i).raw, noToks (rcd rs e).kl v = true) ∧ ∀ κ ∈ (rcd rs i).ks, dOk (rcd rs e).δ κ (getO (obU rs effs s0.ob e) κ) = true := by
    intro e hee hside
    have := h.open hH hi hLi hr hee (fun q => by rw [← q] at hee; rw [he] at hee; cases hee) hside
    unfold apartB at this
    simp only [Bool.and_eq_true, List.all_eq_true] at this
    obtain ⟨oe, hoe⟩ : ∃ oe, ops[e]? = some oe := ⟨_, Array.getElem?_eq_getElem (h.effl e hee)⟩
    obtain ⟨se, _, hAe, hbefe, _⟩ := h.step e oe hoe
    refine ⟨this.2.1, this.2.2.1, fun κ hκ => ?_⟩
    have h2 := this.2.2.2 κ hκ
    rwa [hbefe, hAe.ob] at h2
  have hget : ∀ t ∈ o.looksAt ops, getT si.tm t = getT s'.tm t := fun t ht => h.looked hH hi hLi hr hA ht fun e hee hside => (hop e hee hside).2.1 _ (by rw [hraw]; exact List.mem_map.2 ⟨t, ht, rfl⟩)
  have hob : ∀ κ ∈ (rcd rs i).ks, getO si.ob κ = getO s'.ob κ := by
    intro κ hκ
    rw [hA.ob, hH.at'.ob]
    rcases Nat.le_total i m with hle | hle
    · exact (obU_ext rs effs hle fun e h1 h2 hee => (hop e hee (.inl ⟨h1, h2⟩)).2.2 κ hκ).symm
    · exact obU_ext rs effs hle fun e h1 h2 hee => (hop e hee (.inr ⟨h1, h2⟩)).2.2 κ hκ
  refine ⟨u, hu.congr (fun t ht => ?_) (fun x hx κ hκ => ?_), AnyD.closed' hH hi hr hL, fun e hee => ?_, ⟨by rw [put_ob]; exact hH.at'.ob, fun j oj t hj hd hLj => ?_, fun t hn => ?_⟩⟩
  · rw [getT_tellG]
    exact hget t (by simpa using ht)
  · rw [tellG_ob] at hκ ⊢
    have e : (tellG ops.toList si o).ev x = si.ev x := by cases x <;> first | exact getT_tellG _ _ _ _ | rfl
    rw [e] at hκ
    refine hob κ ?_
    rw [hks, List.mem_flatMap]
    exact ⟨x, by simpa using hx, hκ⟩
  · rw [hL]
    have : (e == i) = false := by
      cases hq : (e == i) with
      | false => rfl
      | true => have : e = i := by simpa using hq
                subst this; rw [he] at hee; cases hee
    rw [this, Bool.or_false]
    exact hH.bound e hee
  · rw [getT_put']
    by_cases hji : j = i
    · subst hji
      rw [hi] at hj
      simp only [Option.some.injEq] at hj
      subst hj
      rw [if_pos hd, ← huu t hd]
      rcases Nat.le_total m (j + 1) with hle | hle
      · rw [FK_low _ _ hle]
      · rw [FK_ext rs effs hle fun e h1 h2 _ hee => (hop e hee (.inl ⟨by omega, h2⟩)).1, FK_low _ _ (Nat.le_refl _)]
    · rw [if_neg (fun e => hji (h.stat.one j i oj o t hj hi hd e))]
      exact hH.at'.yes j oj t hj hd (by rw [hL] at hLj; simpa [hji] using hLj)
  · have hne : o.dst ≠ some t := fun e => by have := hn i o hi e; rw [hL] at this; simp at this
    rw [getT_put', if_neg hne]
    exact hH.at'.no t fun j oj hj hd => by have := hn j oj hj hd; rw [hL] at this; simp at this; exact this.1

/-- One that turns something. -/
theorem AnyD.turns (h : AnyD E ops s0 rs effs sf) (hH : Here rs effs s0 ops L m s') (hi : ops[i]? = some o) (hLi : L i = false) (hr : ∀ e ∈ o.after, Region.binds .any e = true → L e.on = true) (he : memN i effs = true) {L' : Nat → Bool} (hL : ∀ j, L' j = (L j || j == i)) :
    ∃ s2, o.guard = none ∧ evO E s' o some = some s2 ∧ ∃ m', Here rs effs s0 ops L' m' s2 := by
  have hie := (Array.getElem?_eq_some_iff.1 hi).1
  obtain ⟨si, s1, hA, hbef, hs⟩ := h.step i o hi
  rw [if_pos he] at hs
  obtain ⟨hg, hE, _⟩ := hs
  have hmi : m ≤ i := by
    rcases Nat.lt_or_ge i m with hlt | hge
    · have := (hH.bound i he).2 hlt; rw [hLi] at this; cases this
    · exact hge
  have ord : ∀ e, memN e effs = true → i ≠ e → ordB (ancTab ops.toList []) i e = true := fun e hee hne => (h.pair i e hee hie hne).resolve_right fun q => by
    unfold apartB at q
    rw [he] at q
    simp at q
  have hno : ∀ e, m ≤ e → e < i → memN e effs = false := by
    intro e h1 h2
    cases hq : memN e effs with
    | false => rfl
    | true =>
      exfalso
      obtain ⟨oe, hoe⟩ : ∃ oe, ops[e]? = some oe := ⟨_, Array.getElem?_eq_getElem (h.effl e hq)⟩
      have := ord e hq (by omega)
      simp only [ordB, Bool.or_eq_true] at this
      rcases this with ho | ho
      · have := (h.before hoe ho).1; omega
      · have := (h.before hi ho).2 L hH.closed hr
        rw [hH.bound e hq] at this; omega
  have hobi : s'.ob = si.ob := by rw [hH.at'.ob, hA.ob]; exact (obU_eq rs effs hmi hno).symm
  have hFK : ∀ lo v, FK rs effs lo i v = FK rs effs lo m v := fun lo v => FK_ext rs effs hmi fun e h1 h2 _ hee => by rw [hno e h1 h2] at hee; cases hee
  have hget : ∀ t ∈ o.looksAt ops, getT si.tm t = getT s'.tm t := fun t ht => h.looked hH hi hLi hr hA ht fun e hee hside => by
    rcases hside with ⟨h1, h2⟩ | ⟨h1, h2⟩
    · omega
    · rw [hno e h1 h2] at hee; cases hee
  have hev := hE s' hobi (fun x hx => (ev_of_get hget x hx).symm) St some
  refine ⟨_, hg, hev, i + 1, AnyD.closed' hH hi hr hL, fun e hee => ?_, ⟨?_, fun j oj t hj hd hLj => ?_, fun t hn => ?_⟩⟩
  · rw [hL]
    by_cases q : e = i
    · subst q; simp
    · have : (e == i) = false := by simpa using q
      rw [this, Bool.or_false, hH.bound e hee]
      constructor
      · intro h1; omega
      · intro h1
        rcases Nat.lt_or_ge e m with h2 | h2
        · exact h2
        · rw [hno e h2 (by omega)] at hee; cases hee
  · rw [effS_ob, hobi, hA.ob, obU, if_pos he]
  · rw [getT_effS]
    by_cases hji : j = i
    · subst hji
      rw [hi] at hj
      simp only [Option.some.injEq] at hj
      subst hj
      rw [if_pos hd, FK_low _ _ (Nat.le_refl _)]
    · rw [if_neg (fun e => hji (h.stat.one j i oj o t hj hi hd e))]
      have hLj' : L j = true := by rw [hL] at hLj; simpa [hji] using hLj
      rw [hH.at'.yes j oj t hj hd hLj']
      have hjl := (Array.getElem?_eq_some_iff.1 hj).1
      rcases Nat.lt_or_ge j i with hlt | hge
      · rw [FK, if_pos ⟨he, by omega⟩, hFK]
      · rw [FK_low _ _ (by omega), FK_low _ _ (by omega)]
        refine killsV_no ?_
        have := (h.pair j i he hjl hji).resolve_left fun ho => by
          simp only [ordB, Bool.or_eq_true] at ho
          rcases ho with ho | ho
          · have := (h.before hi ho).1; omega
          · have := (h.before hj ho).2 L hH.closed (hH.closed j oj hj hLj')
            rw [hLi] at this; cases this
        unfold apartB at this
        simp only [Bool.and_eq_true] at this
        exact this.2.1
  · have hne : o.dst ≠ some t := fun e => by have := hn i o hi e; rw [hL] at this; simp at this
    rw [getT_effS, if_neg hne, hH.at'.no t fun j oj hj hd => by have := hn j oj hj hd; rw [hL] at this; simp at this; exact this.1]
    rw [FK, if_pos ⟨he, Nat.zero_le _⟩, hFK]
end

theorem any_any (hD : DOk P E.D) (hT : EOk P E) {sf : St} (h : AnyD E ops s0 rs effs sf) (hd : dstOk N ops.toList) {Q : Exit → Act → World → Prop} (hQ : ∀ a' w' f' φ', Rel w0 F0 N sf a' w' f' φ' → Q .normal a' w') :
    ∀ (fuel : Nat) (listed : Array Bool) (s' : St) (a : Act) (w : World) (f : Fr) (φ : Nat → Bd), listed.size = ops.size → cnt listed ops.size ≤ fuel → (∃ m, Here rs effs s0 ops (fun j => listed.getD j false) m s') → Rel w0 F0 N s' a w f φ → wpAny P .any ops Q fuel listed a w := by
  have gd : ∀ (listed : Array Bool) (j : Nat), listed.size = ops.size → j < ops.size → listed.getD j true = listed.getD j false := fun listed j hl hj => by
    simp [Array.getD_eq_getD_getElem?, Array.getElem?_eq_getElem (show j < listed.size by omega)]
  have fin : ∀ (listed : Array Bool) (s' : St) (a : Act) (w : World) (f : Fr) (φ : Nat → Bd), listed.size = ops.size → (∀ j, j < ops.size → listed.getD j true = true) → (∃ m, Here rs effs s0 ops (fun j => listed.getD j false) m s') → Rel w0 F0 N s' a w f φ → Q .normal a w := by
    intro listed s' a w f φ hl hall ⟨m, hH⟩ hR
    have all' : ∀ j, j < ops.size → listed.getD j false = true := fun j hj => by rw [← gd listed j hl hj]; exact hall j hj
    have hno1 : ∀ e, m ≤ e → e < ops.size → memN e effs = false := fun e h1 h2 => by
      cases hq : memN e effs with
      | false => rfl
      | true => have := (hH.bound e hq).1 (all' e h2); omega
    have hno2 : ∀ e, ops.size ≤ e → e < m → memN e effs = false := fun e h1 h2 => by
      cases hq : memN e effs with
      | false => rfl
      | true => have := h.effl e hq; omega
    have hFK : ∀ lo v, FK rs effs lo ops.size v = FK rs effs lo m v := fun lo v => by
      rcases Nat.le_total m ops.size with hle | hle
      · exact FK_ext rs effs hle fun e h1 h2 _ hee => by rw [hno1 e h1 h2] at hee; cases hee
      · exact (FK_ext rs effs hle fun e h1 h2 _ hee => by rw [hno2 e h1 h2] at hee; cases hee).symm
    refine hQ _ _ _ _ (hR.congr (fun t => ?_) ?_)
    · by_cases hex : ∃ (j : Nat) (o : Oper), ops[j]? = some o ∧ o.dst = some t
      · obtain ⟨j, o, hj, hdj⟩ := hex
        have hlt := (Array.getElem?_eq_some_iff.1 hj).1
        rw [h.last.yes j o t hj hdj (by simpa using hlt), hH.at'.yes j o t hj hdj (all' j hlt), hFK]
      · have hno : ∀ (j : Nat) (o : Oper), ops[j]? = some o → o.dst = some t → False := fun j o h1 h2 => hex ⟨j, o, h1, h2⟩
        rw [h.last.no t fun j o h1 h2 => (hno j o h1 h2).elim, hH.at'.no t fun j o h1 h2 => (hno j o h1 h2).elim, hFK]
    · rw [h.last.ob, hH.at'.ob]
      rcases Nat.le_total m ops.size with hle | hle
      · exact obU_eq rs effs hle hno1
      · exact (obU_eq rs effs hle hno2).symm
  have ready0 : ∀ (listed : Array Bool), listed.size = ops.size → Region.ready .any ops listed = [] → ∀ j, j < ops.size → listed.getD j true = true := by
    intro listed hl h0 j
    induction j using Nat.strongRecOn with
    | _ j ih =>
      intro hj
      cases hq : listed.getD j true with
      | true => rfl
      | false =>
        exfalso
        obtain ⟨o, ho⟩ : ∃ o, ops[j]? = some o := ⟨_, Array.getElem?_eq_getElem hj⟩
        have : j ∈ Region.ready .any ops listed := mem_ready.2 ⟨hq, o, ho, fun e he hb => by
          have h1 := h.stat.early j o e ho he hb
          rw [← gd listed e.on hl (by omega)]
          exact ih e.on h1 (by omega)⟩
        rw [h0] at this
        cases this
  intro fuel
  induction fuel with
  | zero =>
    intro listed s' a w f φ hl hc hH hR
    have hall := cnt_zero ops.size (by omega) (listed := listed)
    refine ⟨?_, fin listed s' a w f φ hl hall hH hR⟩
    apply List.eq_nil_iff_forall_not_mem.2
    intro j hj
    obtain ⟨h1, o, ho, _⟩ := mem_ready.1 hj
    rw [hall j (Array.getElem?_eq_some_iff.1 ho).1] at h1
    cases h1
  | succ fuel ih =>
    intro listed s' a w f φ hl hc hH hR
    refine ⟨fun h0 => fin listed s' a w f φ hl (ready0 listed hl h0) hH hR, fun i hi => ?_⟩
    obtain ⟨m, hH⟩ := hH
    obtain ⟨h1, o, ho, hall⟩ := mem_ready.1 hi
    have hlt := (Array.getElem?_eq_some_iff.1 ho).1
    have hLi : (fun j => listed.getD j false) i = false := by
      show listed.getD i false = false
      rw [← gd listed i hl hlt]; exact h1
    have hset : ∀ j, (listed.setIfInBounds i true).getD j false = (listed.getD j false || j == i) := fun j => by
      by_cases e : i = j
      · subst e
        have : i < listed.size := by omega
        simp [this]
      · rw [getD_set_ne false e]
        have : (j == i) = false := by simpa using fun q => e q.symm
        rw [this, Bool.or_false]
    have hcnt : cnt (listed.setIfInBounds i true) ops.size ≤ fuel := by
      have := cnt_set h1 ops.size
      rw [if_pos hlt] at this
      omega
    have hdi := hd o (by
      have := Array.mem_of_getElem? ho
      simpa using this)
    unfold wpOp
    simp only [ho]
    cases he : memN i effs with
    | false =>
      obtain ⟨u, hst, hH'⟩ := h.quiet hH ho hLi (fun e hem hb => hall e hem hb) he hset
      have := hst.goes hD hT hR hdi (wpAny P .any ops Q fuel (listed.setIfInBounds i true)) Q fun a' w' f' φ' hr => ih (listed.setIfInBounds i true) _ a' w' f' φ' (by simpa using hl) hcnt ⟨m, hH'⟩ hr
      split
      · rename_i hw; rw [if_pos hw] at this; exact .inl this
      · rename_i hw; rw [if_neg hw] at this; exact this
    | true =>
      obtain ⟨s2, hg, hev, m', hH'⟩ := h.turns hH ho hLi (fun e hem hb => hall e hem hb) he hset
      rw [if_pos (by simp [Region.wanted, hg])]
      refine .inl (evO_sound hD hT hR hdi hev _ _ fun s3 a' w' f' φ' hr hk => ?_)
      simp only [Option.some.injEq] at hk
      subst hk
      exact ih (listed.setIfInBounds i true) _ a' w' f' φ' (by simpa using hl) hcnt ⟨m', hH'⟩ hr

/-- A region whose order is open, in which something is turned. -/
theorem any_region (hm : P.follows .mixedOrders = true) (hD : DOk P E.D) (hT : EOk P E) {id : Nat} {s : St} {K : St → Option R} (hst : anyStat ops = true) (hd : dstOk N ops.toList) {Q : Exit → Act → World → Prop} (h : Rel w0 F0 N s a w f φ)
    (hK : evD E ops.toList effs s ops.toList 0 s [] (fun s' rs => if anyOk (ancTab ops.toList []) effs rs = true then K s' else none) = some r) (hQ : ∀ s' a' w' f' φ', Rel w0 F0 N s' a' w' f' φ' → K s' = some r → Q .normal a' w') : (Code.region id ops true).wp P Q a w := by
  obtain ⟨sf, all, hruns, hK⟩ := evD_runs effs ops.toList 0 s [] hK
  split at hK <;> try contradiction
  rename_i hok
  obtain ⟨h1, h2⟩ := anyOk_spec hok
  have hS := anyStat_spec hst
  obtain ⟨new, hn1, hn2⟩ := runs_prefix hruns
  simp only [List.nil_append] at hn1
  subst hn1
  have hlen : all.length = ops.size := by rw [hn2, Array.length_toList]
  have h0 : AtU all effs s ops (fun j => decide (j < 0)) 0 s := ⟨rfl, fun j o t _ _ hl => by simp at hl, fun t _ => rfl⟩
  obtain ⟨h3, h4⟩ := runs_at hS ops.toList 0 s [] (fun k => by simp) rfl hruns h0
  obtain ⟨h5, h6⟩ := ancTab_good hS.early ops.toList [] (fun k => by simp) (fun i o hi => by simp at hi)
  have hAD : AnyD E ops s all effs sf := ⟨hS, hlen, h5, by rw [← h6]; simp, fun i o ho => h3 i o (Nat.zero_le _) ho, by simpa using h4, fun e he => by rw [← hlen]; exact h1 e he, fun i e he hi hne => h2 i e he (by rw [hlen]; exact hi) hne⟩
  refine wp_region_any hm (any_any hD hT hAD hd (fun a' w' f' φ' hr => hQ _ _ _ _ _ hr hK) ops.size (Array.replicate ops.size false) s a _ f φ (by simp) ?_ ⟨0, ?_, ?_, ?_⟩ (h.drew _))
  · have : ∀ k, k ≤ ops.size → cnt (Array.replicate ops.size false) k ≤ k := by
      intro k
      induction k with
      | zero => intro _; simp [cnt]
      | succ k ih => intro hk; simp only [cnt]; have := ih (by omega); split <;> omega
    exact this ops.size (Nat.le_refl _)
  · intro i o hi hL
    exfalso
    by_cases q : i < ops.size <;> simp [Array.getD_eq_getD_getElem?, q] at hL
  · intro e he
    by_cases q : e < ops.size <;> simp [Array.getD_eq_getD_getElem?, q]
  · refine ⟨rfl, fun j o t hj hd hL => ?_, fun t _ => rfl⟩
    exfalso
    by_cases q : j < ops.size <;> simp [Array.getD_eq_getD_getElem?, q] at hL

/-- The same in the text's order alone. -/
theorem text_runs (hD : DOk P E.D) (hT : EOk P E) {sf : St} {all : List Rec} {Q : Exit → Act → World → Prop} (hQ : ∀ a' w' f' φ', Rel w0 F0 N sf a' w' f' φ' → Q .normal a' w') :
    ∀ (l : List Oper) (i : Nat) (s : St) (prev : List Rec) (a : Act) (w : World) (f : Fr) (φ : Nat → Bd), dstOk N l → RunsA effs E ops s0 l i s prev sf all → Rel w0 F0 N s a w f φ → wpList P ops Q l a w
  | [], i, s, prev, a, w, f, φ, _, hr, h => by
    obtain ⟨rfl, _⟩ := hr
    exact hQ _ _ _ _ h
  | o :: l, i, s, prev, a, w, f, φ, hd, hr, h => by
    obtain ⟨rc, s1, ⟨_, hs⟩, hr⟩ := hr
    have hdo := hd o (by simp)
    have hdl : dstOk N l := fun o' ho' => hd o' (by simp [ho'])
    unfold wpList
    by_cases he : memN i effs = true
    · rw [if_pos he] at hs
      obtain ⟨hg, hE, rfl⟩ := hs
      rw [if_pos (by simp [Region.wanted, hg])]
      refine .inl (evO_sound hD hT h hdo (hE s rfl (fun _ _ => rfl) St some) _ _ fun s3 a' w' f' φ' hr3 hk => ?_)
      simp only [Option.some.injEq] at hk
      subst hk
      exact text_runs hD hT hQ l (i + 1) _ _ _ _ _ _ hdl hr hr3
    · rw [if_neg he] at hs
      obtain ⟨⟨u, hu, _, rfl⟩, _, _⟩ := hs
      have := hu.goes hD hT (h.congr (getT_tellG ops.toList s o) (tellG_ob ops.toList s o)) hdo (wpList P ops Q l) Q fun a' w' f' φ' hr3 => text_runs hD hT hQ l (i + 1) _ _ _ _ _ _ hdl hr hr3
      split
      · rename_i hw; rw [if_pos hw] at this; exact .inl this
      · rename_i hw; rw [if_neg hw] at this; exact this
end
end Go.Proofs.Ytbcijglbinaioaa.Ev
