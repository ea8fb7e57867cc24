/- The evaluator: regions whose order is open, in which something is turned. -/
import Derived.Test.YtbcijglbinaioaaEv15a
set_option linter.unusedVariables false
set_option linter.unusedSimpArgs false
set_option linter.unusedSectionVars false
set_option linter.unnecessarySimpa false
namespace Go.Proofs.Ytbcijglbinaioaa.Ev
open Go.RowKit Go.Shelf
section
variable {P : Program} {w0 : Bs} {F0 : Nat → Nat → Prop} {N : Nat} {s : St} {a : Act} {w : World} {f : Fr} {φ : Nat → Bd} {R : Type} {E : Env} {r : R}

/-! ### tokens -/
mutual
theorem noTok_kill {κ : Nat} : ∀ {v : AV}, noTok κ v = true → killV κ v = v
  | .row κ', h => by simp [noTok] at h; simp [killV, h]
  | .rp κ' i o, h => by simp [noTok] at h; simp [killV, h]
  | .ptr κ' o, h => by simp [noTok] at h; simp [killV, h]
  | .agg l, h => by simp only [noTok] at h; simp only [killV, noTokL_kill h]
  | .tup l, h => by simp only [noTok] at h; simp only [killV, noTokL_kill h]
  | .fn f l, h => by simp only [noTok] at h; simp only [killV, noTokL_kill h]
  | .ep b l o, h => by simp only [noTok] at h; simp only [killV, noTokL_kill h]
  | .top, _ => rfl
  | .int _ _, _ => rfl
  | .bool _, _ => rfl
  | .sl _ _ _, _ => rfl
  | .xs _ _ _, _ => rfl
  | .nil _ _, _ => rfl
  | .emp _ _, _ => rfl
theorem noTokL_kill {κ : Nat} : ∀ {l : List AV}, noTok.noTokL κ l = true → killV.killL κ l = l
  | [], _ => rfl
  | v :: l, h => by
    simp only [noTok.noTokL, Bool.and_eq_true] at h
    simp only [killV.killL, noTok_kill h.1, noTokL_kill h.2]
end

mutual
theorem noTok_killV {κ κ' : Nat} : ∀ {v : AV}, noTok κ v = true → noTok κ (killV κ' v) = true
  | .row κ2, h => by simp only [killV]; split <;> first | rfl | exact h
  | .rp κ2 i o, h => by simp only [killV]; split <;> first | rfl | exact h
  | .ptr κ2 o, h => by simp only [killV]; split <;> first | rfl | exact h
  | .agg l, h => by simp only [noTok] at h; simp only [killV, noTok, noTokL_killV h]
  | .tup l, h => by simp only [noTok] at h; simp only [killV, noTok, noTokL_killV h]
  | .fn f l, h => by simp only [noTok] at h; simp only [killV, noTok, noTokL_killV h]
  | .ep b l o, h => by simp only [noTok] at h; simp only [killV, noTok, noTokL_killV h]
  | .top, _ => rfl
  | .int _ _, _ => rfl
  | .bool _, _ => rfl
  | .sl _ _ _, _ => rfl
  | .xs _ _ _, _ => rfl
  | .nil _ _, _ => rfl
  | .emp _ _, _ => rfl
theorem noTokL_killV {κ κ' : Nat} : ∀ {l : List AV}, noTok.noTokL κ l = true → noTok.noTokL κ (killV.killL κ' l) = true
  | [], _ => rfl
  | v :: l, h => by
    simp only [noTok.noTokL, Bool.and_eq_true] at h
    simp only [killV.killL, noTok.noTokL, noTok_killV h.1, noTokL_killV h.2, Bool.and_self]
end

theorem noTok_kills {κ : Nat} : ∀ {kl : List Nat} {v : AV}, noTok κ v = true → noTok κ (killsV kl v) = true
  | [], _, h => h
  | k :: kl, v, h => by
    have : killsV (k :: kl) v = killV k (killsV kl v) := rfl
    rw [this]
    exact noTok_killV (noTok_kills h)
theorem noToks_kills {kl' : List Nat} : ∀ {kl : List Nat} {v : AV}, noToks kl v = true → noToks kl (killsV kl' v) = true
  | [], _, _ => rfl
  | k :: kl, v, h => by
    simp only [noToks, Bool.and_eq_true] at h ⊢
    exact ⟨noTok_kills h.1, noToks_kills h.2⟩
theorem killsV_no : ∀ {kl : List Nat} {v : AV}, noToks kl v = true → killsV kl v = v
  | [], _, _ => rfl
  | k :: kl, v, h => by
    simp only [noToks, Bool.and_eq_true] at h
    have : killsV (k :: kl) v = killV k (killsV kl v) := rfl
    rw [this, killsV_no h.2, noTok_kill h.1]

theorem dOk_get {κ : Nat} {ob : List OE} : ∀ {δ : List OE}, dOk δ κ (getO ob κ) = true → getO (δ ++ ob) κ = getO ob κ
  | [], _ => rfl
  | .set κ' o :: r, h => by
    simp only [dOk, Bool.and_eq_true, bne_iff_ne, ne_eq] at h
    simp only [List.cons_append, getO, if_neg h.1, dOk_get h.2]
  | .snap κ' :: r, h => by
    simp only [dOk, Bool.and_eq_true, bne_iff_ne, ne_eq] at h
    simp only [List.cons_append, getO, if_neg h.1, dOk_get h.2]
  | .del κ' :: r, h => by
    simp only [dOk, Bool.and_eq_true, bne_iff_ne, ne_eq] at h
    simp only [List.cons_append, getO, if_neg h.1, dOk_get h.2]
  | .kill κ' :: r, h => by
    simp only [dOk, Bool.and_eq_true] at h
    simp only [List.cons_append, getO, dOk_get h.2]
    cases hg : getO ob κ with
    | none => rfl
    | some o =>
      cases o with
      | row => rfl
      | box cs =>
        have h1 := h.1
        rw [hg] at h1
        simp only [List.all_eq_true] at h1
        simp only [Option.map_some, OB.kill]
        congr 2
        have e : cs.map (killV κ') = cs.map id := List.map_congr_left fun x hx => noTok_kill (h1 x hx)
        rw [e, List.map_id]

/-! ### who comes before -/
theorem testBit_mask {tab : List Nat} {j : Nat} : ∀ {es : List Edge}, (maskOf tab es).testBit j = true → ∃ e ∈ es, Region.binds .any e = true ∧ (e.on = j ∨ (tab.getD e.on 0).testBit j = true)
  | [], h => by simp [maskOf] at h
  | e :: r, h => by
    simp only [maskOf] at h
    cases hb : Region.binds .any e with
    | false =>
      rw [hb] at h
      obtain ⟨e', h1, h2⟩ := testBit_mask (es := r) h
      exact ⟨e', List.mem_cons_of_mem _ h1, h2⟩
    | true =>
      rw [hb] at h
      simp only [cond_true, Nat.testBit_or, Bool.or_eq_true, Nat.one_shiftLeft, Nat.testBit_two_pow, decide_eq_true_eq] at h
      rcases h with (h | h) | h
      · exact ⟨e, List.mem_cons_self, hb, .inl h⟩
      · exact ⟨e, List.mem_cons_self, hb, .inr h⟩
      · obtain ⟨e', h1, h2⟩ := testBit_mask (es := r) h
        exact ⟨e', List.mem_cons_of_mem _ h1, h2⟩

def Early (ops : Array Oper) : Prop := ∀ (i : Nat) (o : Oper) (e : Edge), ops[i]? = some o → e ∈ o.after → Region.binds .any e = true → e.on < i
def Closed (ops : Array Oper) (L : Nat → Bool) : Prop := ∀ (i : Nat) (o : Oper), ops[i]? = some o → L i = true → ∀ e ∈ o.after, Region.binds .any e = true → L e.on = true
/-- Those of the table come before. -/
def Good (ops : Array Oper) (tab : List Nat) : Prop := ∀ (i : Nat) (o : Oper), i < tab.length → ops[i]? = some o → ∀ j, (tab.getD i 0).testBit j = true → j < i ∧
  ∀ L, Closed ops L → (∀ e ∈ o.after, Region.binds .any e = true → L e.on = true) → L j = true

theorem ancTab_good {ops : Array Oper} (he : Early ops) : ∀ (l : List Oper) (tab : List Nat), (∀ k, l[k]? = ops[tab.length + k]?) → Good ops tab → Good ops (ancTab l tab) ∧ tab.length + l.length = (ancTab l tab).length
  | [], tab, _, h => ⟨h, by simp [ancTab]⟩
  | o :: l, tab, hl, h => by
    have ho : ops[tab.length]? = some o := by simpa using (hl 0).symm
    have hg : Good ops (tab ++ [maskOf tab o.after.toList]) := by
      intro i oi hi hoi j hj
      by_cases hlt : i < tab.length
      · rw [List.getD_eq_getElem?_getD, List.getElem?_append_left hlt, ← List.getD_eq_getElem?_getD] at hj
        exact h i oi hlt hoi j hj
      · have hie : i = tab.length := by simp at hi; omega
        subst hie
        rw [ho] at hoi
        simp only [Option.some.injEq] at hoi
        subst hoi
        rw [List.getD_eq_getElem?_getD, List.getElem?_append_right (Nat.le_refl _)] at hj
        simp only [Nat.sub_self, List.getElem?_cons_zero, Option.getD_some] at hj
        obtain ⟨e, hem, hb, hcase⟩ := testBit_mask hj
        have hem' : e ∈ o.after := by simpa using hem
        have hlt' := he _ _ _ ho hem' hb
        rcases hcase with rfl | hbit
        · exact ⟨hlt', fun L hL hd => hd e hem' hb⟩
        · have hoe : ∃ oe, ops[e.on]? = some oe := ⟨_, Array.getElem?_eq_getElem (by have := (Array.getElem?_eq_some_iff.1 ho).1; omega)⟩
          obtain ⟨oe, hoe⟩ := hoe
          obtain ⟨h1, h2⟩ := h e.on oe hlt' hoe j hbit
          exact ⟨by omega, fun L hL hd => h2 L hL fun e' he' hb' => hL e.on oe hoe (hd e hem' hb) e' he' hb'⟩
    have := ancTab_good he l (tab ++ [maskOf tab o.after.toList]) (fun k => by
      have := hl (k + 1)
      simp only [List.getElem?_cons_succ, List.length_append, List.length_singleton] at this ⊢
      rw [this]
      congr 1
      omega) hg
    refine ⟨this.1, ?_⟩
    have h2 := this.2
    simp only [List.length_append, List.length_cons, List.length_nil] at h2 ⊢
    simp only [ancTab]
    omega

/-! ### what is checked of the operations -/
def anyStat (ops : Array Oper) : Bool :=
  (List.range ops.size).all fun i => match ops[i]? with
    | some o =>
      (o.after.all fun e => !Region.binds .any e || decide (e.on < i)) &&
      ((match o.dst with
        | some t => (List.range ops.size).all fun j => j == i || (ops[j]?).bind (·.dst) != some t
        | none => true) &&
      ((o.looksAt ops).all fun t => (List.range ops.size).all fun j => match (ops[j]?).bind (·.dst) with
        | some d => d != t || (j == i || ordB (ancTab ops.toList []) j i)
        | none => true))
    | none => true

structure AnyStat (ops : Array Oper) : Prop where
  early : Early ops
  one : ∀ (i j : Nat) (o oj : Oper) (t : Nat), ops[i]? = some o → ops[j]? = some oj → o.dst = some t → oj.dst = some t → i = j
  look : ∀ (i j : Nat) (o oj : Oper) (t : Nat), ops[i]? = some o → t ∈ o.looksAt ops → ops[j]? = some oj → oj.dst = some t → j = i ∨ ordB (ancTab ops.toList []) j i = true

theorem anyStat_spec {ops : Array Oper} (h : anyStat ops = true) : AnyStat ops := by
  have key : ∀ (i : Nat) (o : Oper), ops[i]? = some o → i < ops.size := fun i o ho => (Array.getElem?_eq_some_iff.1 ho).1
  simp only [anyStat, List.all_eq_true, List.mem_range] at h
  refine ⟨fun i o e hi he hb => ?_, fun i j o oj t hi hj hd hd' => ?_, fun i j o oj t hi ht hj hd => ?_⟩
  · have := h i (key i o hi)
    simp only [hi, Bool.and_eq_true] at this
    have := Array.all_eq_true_iff_forall_mem.1 this.1 e he
    simpa [hb] using this
  · have := h i (key i o hi)
    simp only [hi, Bool.and_eq_true] at this
    have := this.2.1
    simp only [hd, List.all_eq_true, List.mem_range] at this
    have := this j (key j oj hj)
    simp only [hj, Option.bind_some, hd', Bool.or_eq_true, beq_iff_eq, bne_self_eq_false, Bool.false_eq_true, or_false] at this
    exact this.symm
  · have := h i (key i o hi)
    simp only [hi, Bool.and_eq_true, List.all_eq_true, List.mem_range] at this
    have := this.2.2 t ht j (key j oj hj)
    simpa [hj, hd] using this

/-! ### the states between -/
def rcd (rs : List Rec) (i : Nat) : Rec := rs.getD i ⟨.top, [], [], [], [], []⟩

variable (rs : List Rec) (effs : List Nat)
def FK (lo : Nat) : Nat → AV → AV
  | 0, v => v
  | m + 1, v => if memN m effs = true ∧ lo ≤ m then killsV (rcd rs m).kl (FK lo m v) else FK lo m v
def obU (ob0 : List OE) : Nat → List OE
  | 0 => ob0
  | m + 1 => if memN m effs = true then (rcd rs m).δ ++ obU ob0 m else obU ob0 m

theorem FK_low {lo : Nat} {v : AV} : ∀ {m : Nat}, m ≤ lo → FK rs effs lo m v = v
  | 0, _ => rfl
  | m + 1, h => by rw [FK, if_neg (by omega), FK_low (by omega)]
theorem FK_no {lo : Nat} {kl : List Nat} {v : AV} (h : noToks kl v = true) : ∀ m : Nat, noToks kl (FK rs effs lo m v) = true
  | 0 => h
  | m + 1 => by
    rw [FK]
    split
    · exact noToks_kills (FK_no h m)
    · exact FK_no h m
theorem FK_ext {lo : Nat} {v : AV} {m1 : Nat} : ∀ {m2 : Nat}, m1 ≤ m2 → (∀ e, m1 ≤ e → e < m2 → lo ≤ e → memN e effs = true → noToks (rcd rs e).kl v = true) → FK rs effs lo m2 v = FK rs effs lo m1 v
  | 0, h, _ => by have : m1 = 0 := by omega
                  subst this; rfl
  | m2 + 1, h, hn => by
    rcases Nat.lt_or_ge m2 m1 with hlt | hge
    · have : m1 = m2 + 1 := by omega
      subst this; rfl
    · rw [FK]
      split
      · rename_i hc
        rw [killsV_no (FK_no rs effs (hn m2 hge (by omega) hc.2 hc.1) m2), FK_ext hge fun e h1 h2 => hn e h1 (by omega)]
      · exact FK_ext hge fun e h1 h2 => hn e h1 (by omega)
theorem obU_ext {ob0 : List OE} {κ m1 : Nat} : ∀ {m2 : Nat}, m1 ≤ m2 → (∀ e, m1 ≤ e → e < m2 → memN e effs = true → dOk (rcd rs e).δ κ (getO (obU rs effs ob0 e) κ) = true) → getO (obU rs effs ob0 m2) κ = getO (obU rs effs ob0 m1) κ
  | 0, h, _ => by have : m1 = 0 := by omega
                  subst this; rfl
  | m2 + 1, h, hn => by
    rcases Nat.lt_or_ge m2 m1 with hlt | hge
    · have : m1 = m2 + 1 := by omega
      subst this; rfl
    · rw [obU]
      split
      · rename_i hc
        rw [dOk_get (hn m2 hge (by omega) hc), obU_ext hge fun e h1 h2 => hn e h1 (by omega)]
      · exact obU_ext hge fun e h1 h2 => hn e h1 (by omega)
theorem obU_eq {ob0 : List OE} {m1 : Nat} : ∀ {m2 : Nat}, m1 ≤ m2 → (∀ e, m1 ≤ e → e < m2 → memN e effs = false) → obU rs effs ob0 m2 = obU rs effs ob0 m1
  | 0, h, _ => by have : m1 = 0 := by omega
                  subst this; rfl
  | m2 + 1, h, hn => by
    rcases Nat.lt_or_ge m2 m1 with hlt | hge
    · have : m1 = m2 + 1 := by omega
      subst this; rfl
    · rw [obU, if_neg (by rw [hn m2 hge (by omega)]; simp), obU_eq hge fun e h1 h2 => hn e h1 (by omega)]

structure AtU (s0 : St) (ops : Array Oper) (L : Nat → Bool) (m : Nat) (s' : St) : Prop where
  ob : s'.ob = obU rs effs s0.ob m
  yes : ∀ (j : Nat) (o : Oper) (t : Nat), ops[j]? = some o → o.dst = some t → L j = true → getT s'.tm t = FK rs effs (j + 1) m (rcd rs j).u
  no : ∀ t, (∀ (j : Nat) (o : Oper), ops[j]? = some o → o.dst = some t → L j = false) → getT s'.tm t = FK rs effs 0 m (getT s0.tm t)

/-- One step in the text's order. -/
def StepA (E : Env) (ops : Array Oper) (s0 : St) (i : Nat) (s : St) (prev : List Rec) (o : Oper) (rc : Rec) (s1 : St) : Prop :=
  rc.before = s.ob ∧
  if memN i effs = true then o.guard = none ∧ EffV E s o rc.kl rc.u rc.δ ∧ s1 = effS rc.kl rc.u rc.δ s o.dst
  else (∃ u, StepV E ops.toList (tellG ops.toList s o) o u ∧ (∀ d, o.dst = some d → rc.u = u) ∧ s1 = (tellG ops.toList s o).put o.dst u) ∧
    rc.raw = ((o.looksAt ops).map fun t => rawT s0 t ops.toList prev) ∧ rc.ks = o.op.operands.toList.flatMap fun x => touch s.ob 7 (s.ev x)

def RunsA (E : Env) (ops : Array Oper) (s0 : St) : List Oper → Nat → St → List Rec → St → List Rec → Prop
  | [], _, s, prev, sf, all => sf = s ∧ all = prev
  | o :: l, i, s, prev, sf, all => ∃ rc s1, StepA effs E ops s0 i s prev o rc s1 ∧ RunsA E ops s0 l (i + 1) s1 (prev ++ [rc]) sf all

theorem killsOf_map (kl : List Nat) : killsOf (kl.map TE.kill) = kl := by
  induction kl with
  | nil => rfl
  | cons k kl ih => simp [killsOf, ih]

theorem evD_runs {ops : Array Oper} {s0 : St} {K : St → List Rec → Option R} : ∀ (l : List Oper) (i : Nat) (s : St) (prev : List Rec), evD E ops.toList effs s0 l i s prev K = some r → ∃ sf all, RunsA effs E ops s0 l i s prev sf all ∧ K sf all = some r
  | [], i, s, prev, hK => ⟨s, prev, ⟨rfl, rfl⟩, hK⟩
  | o :: l, i, s, prev, hK => by
    simp only [evD] at hK
    split at hK
    · rename_i hi
      split at hK <;> try contradiction
      rename_i hgu
      obtain ⟨kl, u, δ, hE, hK⟩ := evO_local hK
      have h1 : killsOf ((effS kl u δ s o.dst).tm.take ((effS kl u δ s o.dst).tm.length - s.tm.length)) = kl := by
        cases hd : o.dst with
        | none =>
          simp only [effS, St.put, List.length_append, Nat.add_sub_cancel, List.take_left]
          exact killsOf_map kl
        | some d =>
          have : (effS kl u δ s (some d)).tm = (.set d u :: kl.map .kill) ++ s.tm := rfl
          rw [this, List.length_append, Nat.add_sub_cancel, List.take_left]
          simp only [killsOf, killsOf_map]
      have h2 : (effS kl u δ s o.dst).ob.take ((effS kl u δ s o.dst).ob.length - s.ob.length) = δ := by
        have : (effS kl u δ s o.dst).ob = δ ++ s.ob := by cases o.dst <;> rfl
        rw [this, List.length_append, Nat.add_sub_cancel, List.take_left]
      dsimp only at hK
      rw [h1, h2] at hK
      obtain ⟨sf, all, h3, h4⟩ := evD_runs l (i + 1) _ _ hK
      refine ⟨sf, all, ⟨_, _, ⟨rfl, ?_⟩, h3⟩, h4⟩
      rw [if_pos hi]
      cases hd : o.dst with
      | none =>
        refine ⟨hgu, fun s2 hob hev R2 K2 => ?_, rfl⟩
        have := hE s2 hob hev R2 K2
        rw [hd] at this ⊢
        exact this
      | some d =>
        have hu : dstV o (effS kl u δ s (some d)) = u := by simp [dstV, hd, effS, St.put, getT]
        rw [hu]
        refine ⟨hgu, fun s2 hob hev R2 K2 => ?_, rfl⟩
        have := hE s2 hob hev R2 K2
        rw [hd] at this ⊢
        exact this
    · rename_i hi
      simp only [evG] at hK
      have fin : ∀ u, StepV E ops.toList (tellG ops.toList s o) o u → (∀ x, (tellG ops.toList s o).ev x = s.ev x) →
          evD E ops.toList effs s0 l (i + 1) ((tellG ops.toList s o).put o.dst u) (prev ++ [⟨dstV o ((tellG ops.toList s o).put o.dst u), [], [], s.ob, (o.looksAt ops.toList.toArray).map fun t => rawT s0 t ops.toList prev, o.op.operands.toList.flatMap fun x => touch s.ob 7 (s.ev x)⟩]) K = some r →
          ∃ sf all, RunsA effs E ops s0 (o :: l) i s prev sf all ∧ K sf all = some r := by
        intro u hu _ hK
        obtain ⟨sf, all, h3, h4⟩ := evD_runs l (i + 1) _ _ hK
        refine ⟨sf, all, ⟨_, _, ⟨rfl, ?_⟩, h3⟩, h4⟩
        rw [if_neg hi]
        exact ⟨⟨u, hu, fun d hd => by simp [dstV, hd, St.put, getT], rfl⟩, rfl, rfl⟩
      have hev : ∀ x, (tellG ops.toList s o).ev x = s.ev x := fun x => by cases x <;> first | exact getT_tellG _ _ _ _ | rfl
      have run : ∀ s1, tellG ops.toList s o = s1 → (∀ u, evQC E s1 o some = some u → StepV E ops.toList s1 o u) → evQC E s1 o (fun v => evD E ops.toList effs s0 l (i + 1) (s1.put o.dst v) (prev ++ [⟨dstV o (s1.put o.dst v), [], [], s.ob, (o.looksAt ops.toList.toArray).map fun t => rawT s0 t ops.toList prev, o.op.operands.toList.flatMap fun x => touch s.ob 7 (s.ev x)⟩]) K) = some r →
          ∃ sf all, RunsA effs E ops s0 (o :: l) i s prev sf all ∧ K sf all = some r := fun s1 he hs hK => by
        subst he
        rw [evQC_nat] at hK
        obtain ⟨u, hu, hK⟩ := Option.bind_eq_some_iff.1 hK
        exact fin u (hs u hu) hev hK
      split at hK
      · rename_i hg
        exact run s (by unfold tellG; rw [hg]) (fun u hu => by unfold StepV; rw [hg]; exact hu) hK
      · rename_i hg
        have e : tellG ops.toList s o = s := by unfold tellG; rw [hg]
        have := fin (.tup []) (by rw [e]; unfold StepV; rw [hg]) hev
        rw [e] at this
        exact this hK
      · rename_i d b want hg
        have e : tellG ops.toList s o = s.put (some d) (.bool b) := by unfold tellG; rw [hg]
        have hg' : guardOf ops.toList (s.put (some d) (.bool b)) o = some (.word d b want) := by rw [← e, guardOf_tellG, hg]
        have yes : b = want → evQC E (s.put (some d) (.bool b)) o _ = some r → _ := fun hb hK => run _ e (fun u hu => by unfold StepV; rw [hg']; simp only [hb, if_true]; rw [← hb]; exact hu) hK
        have no : b ≠ want → _ → _ := fun hb hK => by
          have := fin (.tup []) (by rw [e]; unfold StepV; rw [hg']; simp only [hb, if_false]) hev
          rw [e] at this
          exact this hK
        cases b <;> cases want <;> simp only [if_true, Bool.false_eq_true, if_false, cond_true, cond_false] at hK
        · exact yes rfl hK
        · exact no (by simp) hK
        · exact no (by simp) hK
        · exact yes rfl hK
      · contradiction
end
end Go.Proofs.Ytbcijglbinaioaa.Ev
