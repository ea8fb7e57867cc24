/- The evaluator: code, loops, functions. -/
import Derived.Test.YtbcijglbinaioaaEv15c
import Derived.Scope
set_option linter.unusedVariables false
set_option linter.unusedSimpArgs false
set_option linter.unusedSectionVars false
set_option linter.unnecessarySimpa false
namespace Go.Proofs.Ytbcijglbinaioaa.Ev
open Go.RowKit Go.Shelf
section
variable {P : Program} {w0 : Bs} {F0 : Nat → Nat → Prop} {N : Nat} {s : St} {a : Act} {w : World} {f : Fr} {φ : Nat → Bd} {R : Type} {E : Env} {r : R}

theorem Rel.weaken (h : Rel w0 F0 N s a w f φ) {s' : St} (ht : ∀ t, getT s'.tm t = getT s.tm t ∨ getT s'.tm t = .top) (ho : ∀ κ o, getO s'.ob κ = some o → getO s.ob κ = some o) : Rel w0 F0 N s' a w f φ :=
  ⟨fun t => by rcases ht t with e | e <;> rw [e]; · exact h.tm t
               · exact .top _,
   fun κ o q => h.ob κ o (ho κ o q), fun κ κ' o o' g q q' => h.dis κ κ' o o' g (ho κ o q) (ho κ' o' q'), h.n0, h.F0s, h.Fnew, h.Flt, h.below, h.defers, h.size, h.one, h.hid, fun ψ κ' o' g q q' κ o q'' => h.hdis ψ κ' o' g q q' κ o (ho κ o q''), h.hvs, h.bx, h.Nle⟩

/-- Told otherwise of a temporary. -/
theorem Rel.retell (h : Rel w0 F0 N s a w f φ) (t : Nat) {v : AV} (hv : VR w f φ v (a.tmps.getD t undef)) : Rel w0 F0 N (s.put (some t) v) a w f φ := by
  refine ⟨fun t' => ?_, h.ob, h.dis, h.n0, h.F0s, h.Fnew, h.Flt, h.below, h.defers, h.size, h.one, h.hid, h.hdis, h.hvs, h.bx, h.Nle⟩
  simp only [St.put, getT]
  split
  · rename_i e; subst e; exact hv
  · exact h.tm t'

theorem getT_map (f : Nat → AV) : ∀ (l : List (Nat × CM)) (t : Nat), getT (l.map fun p => .set p.1 (f p.1)) t = f t ∨ getT (l.map fun p => .set p.1 (f p.1)) t = .top
  | [], t => .inr rfl
  | p :: l, t => by
    simp only [List.map_cons, getT]
    split
    · rename_i e; subst e; exact .inl rfl
    · exact getT_map f l t

theorem getO_filter (ob : List OE) : ∀ (l : List Nat) (κ : Nat) (o : OB), getO (l.filterMap fun κ => (getO ob κ).map fun o => .set κ o) κ = some o → getO ob κ = some o
  | [], κ, o, h => by simp [getO] at h
  | k :: l, κ, o, h => by
    simp only [List.filterMap_cons] at h
    cases hk : getO ob k with
    | none => rw [hk] at h; exact getO_filter ob l κ o h
    | some q =>
      rw [hk] at h
      simp only [Option.map_some, getO] at h
      split at h
      · rename_i e; subst e; rw [hk]; exact h
      · exact getO_filter ob l κ o h

theorem Rel.cut (h : Rel w0 F0 N s a w f φ) (L : Live) : Rel w0 F0 N (L.cut s) a w f φ :=
  h.weaken (fun t => getT_map (fun t => getT s.tm t) L.tm t) (fun κ o q => getO_filter s.ob L.ob κ o q)

theorem getT_mapN (f : Nat → AV) : ∀ (l : List Nat) (t : Nat), getT (l.map fun p => .set p (f p)) t = f t ∨ getT (l.map fun p => .set p (f p)) t = .top
  | [], t => .inr rfl
  | p :: l, t => by
    simp only [List.map_cons, getT]
    split
    · rename_i e; subst e; exact .inl rfl
    · exact getT_mapN f l t

theorem Rel.leave (h : Rel w0 F0 N s a w f φ) (L : Live) : Rel w0 F0 N (L.leave s) a w f φ :=
  h.weaken (fun t => getT_mapN (fun t => getT s.tm t) L.xtm t) (fun κ o q => getO_filter s.ob L.xob κ o q)

theorem Rel.turn : ∀ (l : List (Nat × CM)) {s : St} {f : Fr} {φ : Nat → Bd}, Rel w0 F0 N s a w f φ → ∃ f' φ', Rel w0 F0 N (Live.turn s l) a w f' φ'
  | [], s, f, φ, h => ⟨f, φ, h⟩
  | (t, c) :: l, s, f, φ, h => by
    cases c with
    | keep => exact Rel.turn l h
    | own =>
      simp only [Live.turn]
      split
      · rename_i e ty hn
        have hv := h.tm t
        rw [hn] at hv
        have hv := hv.nilv
        have htN : t < N := by
          rcases Nat.lt_or_ge t a.tmps.size with hlt | hge
          · rwa [h.size] at hlt
          · rw [Array.getD_eq_getD_getElem?, Array.getElem?_eq_none hge] at hv
            cases hv
        have h' := h.newRow (w' := w) (9000 + t) e (.inl (by have := h.Nle; omega)) ty [] false (.slice none 0 0) [] (World.ownsRow_nil w f.n0 e ty.sz) .nil (.inl ⟨⟨rfl, rfl, rfl, Nat.le_refl _, fun _ _ _ => rfl⟩, .inl rfl⟩)
        refine Rel.turn l (h'.retell t ?_)
        rw [hv]
        have := VR.row (w := w) (f := f) (φ := upd φ (9000 + t) ⟨.slice none 0 0, ty.sz⟩) (9000 + t)
        rwa [upd_same] at this
      · exact Rel.turn l h
    | snap =>
      simp only [Live.turn]
      exact Rel.turn l (h.snapAll (frzKeys s.ob 3 (getT s.tm t))).1
    | frz =>
      simp only [Live.turn]
      obtain ⟨hrel, hFz⟩ := h.snapAll (frzKeys s.ob 3 (getT s.tm t))
      refine Rel.turn l (hrel.retell t ?_)
      have := frz_ok0 (f := frozenOf f φ s.ob (frzKeys s.ob 3 (getT s.tm t))) (φ := φ) φ f.n0 3 (s.snapAll (frzKeys s.ob 3 (getT s.tm t))).ob hrel.ob (getT s.tm t) _ (hrel.tm t) (by
        intro κ hκ
        rw [frzKeys_ob _ s.ob] at hκ
        exact (hFz κ hκ).snaps)
      rw [St.snapAll] at this
      rw [frz_snaps] at this
      exact this

/-- Told otherwise of a box. -/
theorem Rel.retellO (h : Rel w0 F0 N s a w f φ) {κ : Nat} {cs cs' : List AV} (hκ : getO s.ob κ = some (.box cs)) (hv : ∀ vs, VRs w f φ cs vs → VRs w f φ cs' vs) : Rel w0 F0 N { s with ob := .set κ (.box cs') :: s.ob } a w f φ := by
  have cls : ∀ κ' o', getO (.set κ (.box cs') :: s.ob) κ' = some o' → ∃ q, getO s.ob κ' = some q := by
    intro κ' o' ho'
    simp only [getO] at ho'
    split at ho'
    · rename_i he; subst he; exact ⟨_, hκ⟩
    · exact ⟨_, ho'⟩
  refine ⟨h.tm, fun κ' o' ho' => ?_, fun κ1 κ2 o1 o2 g h1 h2 => ?_, h.n0, h.F0s, h.Fnew, h.Flt, h.below, h.defers, h.size, h.one, h.hid, fun ψ κ' o' g q q' κ1 o1 h1 => ?_, h.hvs, h.bx, h.Nle⟩
  · simp only [getO] at ho'
    split at ho'
    · rename_i he
      subst he
      simp only [Option.some.injEq] at ho'
      subst ho'
      obtain ⟨g, t, vs, hv1, h0, hh, hvs, hF⟩ := h.ob _ _ hκ
      exact ⟨g, t, vs, hv1, h0, hh, hv _ hvs, hF⟩
    · exact h.ob κ' o' ho'
  · obtain ⟨q1, hq1⟩ := cls κ1 o1 h1
    obtain ⟨q2, hq2⟩ := cls κ2 o2 h2
    exact h.dis κ1 κ2 q1 q2 g hq1 hq2
  · obtain ⟨q1, hq1⟩ := cls κ1 o1 h1
    exact h.hdis ψ κ' o' g q q' κ1 q1 hq1

theorem VRs.setV {w : World} {f : Fr} {φ : Nat → Bd} {v' : AV} : ∀ {l : List AV} {xs : List Value} (i : Nat), VRs w f φ l xs → (∀ x, (∃ v, l[i]? = some v ∧ VR w f φ v x) → VR w f φ v' x) → VRs w f φ (l.set i v') xs
  | _, _, _, .nil, _ => .nil
  | _, _, 0, .cons v l x xs hv hs, h => .cons _ _ _ _ (h x ⟨v, rfl, hv⟩) hs
  | _, _, i + 1, .cons v l x xs hv hs, h => .cons _ _ _ _ hv (hs.setV i fun x q => h x (by simpa using q))

theorem Rel.turnO : ∀ (l : List (Nat × Nat × CM)) {s : St} {f : Fr} {φ : Nat → Bd}, Rel w0 F0 N s a w f φ → ∃ f' φ', Rel w0 F0 N (Live.turnO s l) a w f' φ'
  | [], s, f, φ, h => ⟨f, φ, h⟩
  | (κ, i, c) :: l, s, f, φ, h => by
    simp only [Live.turnO]
    split
    · rename_i cs hκ
      cases c with
      | keep => exact Rel.turnO l h
      | own =>
        simp only []
        split
        · rename_i e t hn
          split
          · exact Rel.turnO l h
          · rename_i hck
            simp only [not_or, not_and, Nat.not_lt] at hck
            have h' := h.newRow (w' := w) (cellKey κ i) e (by
              rcases Nat.lt_or_ge (cellKey κ i) 1000000 with h1 | h1
              · exact .inl h1
              · exact .inr (.inl (hck.2 h1))) t [] false (.slice none 0 0) [] (World.ownsRow_nil w f.n0 e t.sz) .nil (.inl ⟨⟨rfl, rfl, rfl, Nat.le_refl _, fun _ _ _ => rfl⟩, .inl rfl⟩)
            have hκ' : getO (s.new (cellKey κ i) (.row e t [] false)).ob κ = some (.box (cs.map (killV (cellKey κ i)))) := by
              rw [getO_new, if_neg hck.1, hκ]
              rfl
            refine Rel.turnO l (h'.retellO hκ' fun vs hvs => hvs.setV i fun x ⟨v, hv1, hv2⟩ => ?_)
            rw [List.getElem?_map, hn] at hv1
            simp only [Option.map_some, killV, Option.some.injEq] at hv1
            subst hv1
            have hx := hv2.nilv
            have := VR.row (w := w) (f := f) (φ := upd φ (cellKey κ i) ⟨.slice none 0 0, t.sz⟩) (cellKey κ i)
            rw [upd_same] at this
            rw [hx]
            exact this
        · exact Rel.turnO l h
      | snap => exact Rel.turnO l (h.snapAll (frzKeys s.ob 3 (cs.getD i .top))).1
      | frz =>
        simp only []
        obtain ⟨hrel, hFz⟩ := h.snapAll (frzKeys s.ob 3 (cs.getD i .top))
        have hκ' : getO (s.snapAll (frzKeys s.ob 3 (cs.getD i .top))).ob κ = some (.box cs) := by
          rw [St.snapAll]
          show getO (_ ++ s.ob) κ = _
          rw [getO_snaps]
          split
          · rw [hκ]; rfl
          · exact hκ
        refine Rel.turnO l (hrel.retellO hκ' fun vs hvs => hvs.setV i fun x ⟨v, hv1, hv2⟩ => ?_)
        have hd : cs.getD i .top = v := by simp [List.getD_eq_getElem?_getD, hv1]
        have := frz_ok0 (f := frozenOf f φ s.ob (frzKeys s.ob 3 (cs.getD i .top))) (φ := φ) φ f.n0 3 (s.snapAll (frzKeys s.ob 3 (cs.getD i .top))).ob hrel.ob v x hv2 (by
          intro κ' hκ'
          rw [frzKeys_ob _ s.ob, ← hd] at hκ'
          exact (hFz κ' hκ').snaps)
        rw [St.snapAll] at this
        rw [frz_snaps, ← hd] at this
        exact this
    · exact Rel.turnO l h

theorem Rel.head (h : Rel w0 F0 N s a w f φ) (L : Live) : ∃ f' φ', Rel w0 F0 N (L.head s) a w f' φ' := by
  obtain ⟨f', φ', h'⟩ := Rel.turn L.tm (h.cut L)
  obtain ⟨f2, φ2, h2⟩ := Rel.turnO L.cells h'
  exact ⟨f2, φ2, h2.cut L⟩

/-! ### what is checked of the code -/
def opsOk (n : Nat) (ops : List Oper) : Bool := ops.all fun o => match o.dst with
  | some d => decide (d < n)
  | none => true

def drawOk (ops : Array Oper) : RM → Bool
  | .any _ => anyStat ops
  | .seq => true
  | _ => regOk ops

def codeOk (C : Cfg) (n : Nat) : Code → Bool
  | .region id ops draw => opsOk n ops.toList && (!draw || drawOk ops (C.mode id))
  | .seq x y => codeOk C n x && codeOk C n y
  | .cond _ x y => codeOk C n x && codeOk C n y
  | .block _ c => codeOk C n c
  | .loop c => codeOk C n c
  | .scope c => codeOk C n c
  | _ => true

theorem opsOk_spec {n : Nat} {l : List Oper} (h : opsOk n l = true) (hN : n ≤ N) : dstOk N l := by
  intro o ho d hd
  simp only [opsOk, List.all_eq_true] at h
  have := h o ho
  rw [hd] at this
  simp only [decide_eq_true_eq] at this
  exact Nat.lt_of_lt_of_le this hN

def Ex.of : Ex → Exit
  | .normal => .normal
  | .exit id => .exit id
  | .ret => .ret

/-- What is to be shown of a piece of code. -/
def GoesC (P : Program) (w0 : Bs) (F0 : Nat → Nat → Prop) (N : Nat) (K : Ex → St → Option R) (r : R) (Q : Exit → Act → World → Prop) : Prop :=
  ∀ e s' a' w' f' φ', Rel w0 F0 N s' a' w' f' φ' → K e s' = some r → Q e.of a' w'

theorem putAll_ob (ops : List Oper) : ∀ (l : List Oper) (us : List AV) (s : St), (putAll ops s l us).ob = s.ob
  | [], us, s => by cases us <;> rfl
  | o :: l, [], s => rfl
  | o :: l, u :: us, s => by rw [putAll, putAll_ob ops l us]; cases o.dst <;> exact tellG_ob ops s o

theorem getT_put_none (s : St) (u : AV) (t : Nat) : getT (s.put none u).tm t = getT s.tm t := rfl

theorem getT_topAll (ops : List Oper) (s : St) : ∀ (l : List Oper) (us : List AV) (s' : St) (t : Nat), (getT s'.tm t = getT s.tm t ∨ getT (topAll s l).tm t = .top) →
    getT (topAll s l).tm t = getT (putAll ops s' l us).tm t ∨ getT (topAll s l).tm t = .top
  | [], us, s', t, h => by
    cases us <;> (rcases h with h | h; · exact .inl h.symm
                  · exact .inr h)
  | o :: l, [], s', t, h => by
    simp only [putAll]
    rcases h with h | h
    · by_cases hm : getT (topAll s (o :: l)).tm t = .top
      · exact .inr hm
      · refine .inl ?_
        rw [h]
        have : ∀ (l : List Oper), getT (topAll s l).tm t = getT s.tm t ∨ getT (topAll s l).tm t = .top := by
          intro l
          induction l with
          | nil => exact .inl rfl
          | cons o l ih =>
            simp only [topAll, List.filterMap_cons]
            cases o.dst with
            | none => exact ih
            | some d =>
              simp only [Option.map_some, List.cons_append, getT]
              split
              · exact .inr rfl
              · exact ih
        exact (this (o :: l)).resolve_right hm
    · exact .inr h
  | o :: l, u :: us, s', t, h => by
    simp only [putAll]
    cases hd : o.dst with
    | none =>
      have e : topAll s (o :: l) = topAll s l := by simp [topAll, hd]
      rw [e] at h ⊢
      exact getT_topAll ops s l us _ t (by rw [getT_put_none, getT_tellG]; exact h)
    | some d =>
      have e : (topAll s (o :: l)).tm = .set d .top :: (topAll s l).tm := by simp [topAll, hd]
      rw [e] at h ⊢
      simp only [getT] at h ⊢
      split
      · exact .inr rfl
      · rename_i hne
        rw [if_neg hne] at h
        refine getT_topAll ops s l us _ t ?_
        simp only [St.put, getT, if_neg hne]
        rw [getT_tellG]
        exact h

theorem evR_sound (hm : P.follows .mixedOrders = true) (hD : DOk P E.D) (hT : EOk P E) {C : Cfg} {id : Nat} {ops : Array Oper} {draw : Bool} {n : Nat} (hN : n ≤ N) (hok : codeOk C n (.region id ops draw) = true) {Q : Exit → Act → World → Prop} {K : St → Option R}
    (h : Rel w0 F0 N s a w f φ) (hK : evR E C id ops.toList draw s K = some r) (hQ : ∀ s' a' w' f' φ', Rel w0 F0 N s' a' w' f' φ' → K s' = some r → Q .normal a' w') : (Code.region id ops draw).wp P Q a w := by
  simp only [codeOk, Bool.and_eq_true, Bool.or_eq_true, Bool.not_eq_true'] at hok
  obtain ⟨h1, h2⟩ := hok
  have hd := opsOk_spec h1 hN
  have hR : draw = true → drawOk ops (C.mode id) = true := fun e => h2.resolve_left (by rw [e]; simp)
  unfold evR at hK
  split at hK
  · split at hK <;> try contradiction
    rename_i hdr
    have : draw = false := by simpa using hdr
    subst this
    exact wp_region_list (evOps_sound hD hT hQ _ hd s a w f φ h hK)
  · rename_i hmode
    exact quiet_region hm hD hT (fun e => by have := hR e; rw [hmode] at this; exact this) hd h hK fun us a' w' f' φ' hr hk => hQ _ _ _ _ _ hr hk
  · rename_i effs hmode
    cases draw with
    | true => exact any_region hm hD hT (by have := hR rfl; rw [hmode] at this; exact this) hd h (by simpa using hK) hQ
    | false =>
      obtain ⟨sf, all, hruns, hK⟩ := evD_runs effs ops.toList 0 s [] hK
      exact wp_region_list (text_runs hD hT (fun a' w' f' φ' hr => hQ _ _ _ _ _ hr (by simpa using hK)) ops.toList 0 s [] a w f φ hd hruns h)
  · rename_i t hmode
    obtain ⟨b, hb, hK⟩ := Option.bind_eq_some_iff.1 hK
    refine quiet_region hm hD hT (fun e => by have := hR e; rw [hmode] at this; exact this) hd h hb fun us a' w' f' φ' hr hk => hQ _ _ _ f' φ' (Rel.retell (f := f') (φ := φ') (s := topAll s ops.toList) ?_ t ?_) hK
    · exact hr.weaken (fun t' => getT_topAll ops.toList s ops.toList us s t' (.inl rfl)) (fun κ o q => by rw [putAll_ob]; exact q)
    · have := hr.tm t
      revert hk
      cases hg : getT (putAll ops.toList s ops.toList us).tm t <;> simp
      rename_i b'
      rintro rfl
      rw [hg, Array.getD_eq_getD_getElem?] at this
      exact this

/-- A loop from its head. -/
def LW (P : Program) (c : Code) (Q : Exit → Act → World → Prop) (a : Act) (w : World) : Prop :=
  ∀ (b : Frame) (k : List Item) (cs : List Frame), ∃ e a' w', Q e a' w' ∧ Arrives P (lone (b.at a (.code c :: .inLoop c :: k)) cs w) b k cs e a' w'

theorem LW.wp {c : Code} {Q : Exit → Act → World → Prop} (h : LW P c Q a w) : (Code.loop c).wp P Q a w := fun b k cs => by
  obtain ⟨e, a', w', hq, harr⟩ := h b k cs
  exact ⟨e, a', w', hq, .of_steps (.one step_loop) harr⟩

theorem LW.step {c : Code} {Q : Exit → Act → World → Prop} (h : c.wp P (Exit.then (LW P c Q) Q) a w) : LW P c Q a w := fun b k cs => by
  obtain ⟨e, a₁, w₁, hq, harr⟩ := h b (.inLoop c :: k) cs
  cases e with
  | normal =>
    obtain ⟨e₂, a₂, w₂, hq₂, harr₂⟩ := hq b k cs
    exact ⟨e₂, a₂, w₂, hq₂, .of_steps (Steps.trans harr (.one step_inLoop)) harr₂⟩
  | exit id => exact ⟨_, a₁, w₁, hq, .pass (x := .inLoop c) rfl (fun _ _ => .inl (by simp)) harr⟩
  | goto l => exact ⟨_, a₁, w₁, hq, .pass (x := .inLoop c) rfl (fun _ _ => .inl (by simp)) harr⟩
  | ret => exact ⟨_, a₁, w₁, hq, .pass (x := .inLoop c) rfl (fun _ _ => .inl (by simp)) harr⟩
  | panic ch => exact ⟨_, a₁, w₁, hq, .pass (x := .inLoop c) rfl (fun _ _ => .inl (by simp)) harr⟩
  | outgrown => exact ⟨_, a₁, w₁, hq, .pass (x := .inLoop c) rfl (fun _ _ => .inl (by simp)) harr⟩

/-- A loop is read rightly: some number of rounds answers the same. -/
def LpGood {R : Type} (E : Env) (C : Cfg) (lp : Lp R) (p : Nat × Code) : Prop :=
  ∀ s K r, lp p.1 (fun s K => evC E C lp p.2 p.1 s K) (C.live p.1).head (C.live p.1).leave s K = some r → ∃ j, evL (fun s K => evC E C lp p.2 p.1 s K) (C.live p.1).head (C.live p.1).leave j s K = some r

theorem evC_sound (hm : P.follows .mixedOrders = true) (hD : DOk P E.D) (hT : EOk P E) {C : Cfg} {lp : Lp R} {m : Nat} (hN : m ≤ N) : ∀ (c : Code), codeOk C m c = true → ∀ (n : Nat), (∀ p ∈ loopsIn c n, LpGood E C lp p) → ∀ (s : St) (a : Act) (w : World) (f : Fr) (φ : Nat → Bd) (K : Ex → St → Option R) (Q : Exit → Act → World → Prop),
    Rel w0 F0 N s a w f φ → evC E C lp c n s K = some r → GoesC P w0 F0 N K r Q → c.wp P Q a w
  | .skip, _, n, _, s, a, w, f, φ, K, Q, h, hK, hQ => wp_skip (hQ .normal _ _ _ _ _ h hK)
  | .label l, _, n, _, s, a, w, f, φ, K, Q, h, hK, hQ => wp_label (hQ .normal _ _ _ _ _ h hK)
  | .region id ops draw, hok, n, _, s, a, w, f, φ, K, Q, h, hK, hQ => evR_sound hm hD hT hN hok h hK fun s' a' w' f' φ' hr hk => hQ .normal _ _ _ _ _ hr hk
  | .seq x y, hok, n, hl, s, a, w, f, φ, K, Q, h, hK, hQ => by
    simp only [codeOk, Bool.and_eq_true] at hok
    refine wp_seq (evC_sound hm hD hT hN x hok.1 n (fun p hp => hl p (List.mem_append_left _ hp)) s a w f φ _ _ h hK fun e s' a' w' f' φ' hr hk => ?_)
    cases e with
    | normal => exact evC_sound hm hD hT hN y hok.2 n (fun p hp => hl p (List.mem_append_right _ hp)) s' a' w' f' φ' K Q hr hk hQ
    | exit id => exact hQ (.exit id) _ _ _ _ _ hr hk
    | ret => exact hQ .ret _ _ _ _ _ hr hk
  | .cond c x y, hok, n, hl, s, a, w, f, φ, K, Q, h, hK, hQ => by
    simp only [codeOk, Bool.and_eq_true] at hok
    simp only [evC] at hK
    split at hK <;> try contradiction
    rename_i p hp
    have hv := h.ev c
    rw [hp] at hv
    cases p with
    | true => exact wp_cond_true hv.boolv (evC_sound hm hD hT hN x hok.1 n (fun p hp => hl p (List.mem_append_left _ hp)) s a w f φ K Q h hK hQ)
    | false => exact wp_cond_false hv.boolv (evC_sound hm hD hT hN y hok.2 n (fun p hp => hl p (List.mem_append_right _ hp)) s a w f φ K Q h hK hQ)
  | .block id c, hok, n, hl, s, a, w, f, φ, K, Q, h, hK, hQ => by
    refine wp_block (evC_sound hm hD hT hN c hok id hl s a w f φ _ _ h hK fun e s' a' w' f' φ' hr hk => ?_)
    cases e with
    | normal => exact hQ .normal _ _ _ _ _ hr hk
    | exit id' =>
      simp only [Ex.of, Exit.inBlock]
      simp only [] at hk
      split at hk
      · rename_i e; rw [if_pos e]; exact hQ .normal _ _ _ _ _ hr hk
      · rename_i e; rw [if_neg e]; exact hQ (.exit id') _ _ _ _ _ hr hk
    | ret => exact hQ .ret _ _ _ _ _ hr hk
  | .loop c, hok, n, hl, s, a, w, f, φ, K, Q, h, hK, hQ => by
    have key : ∀ (j : Nat) (s : St) (a : Act) (w : World) (f : Fr) (φ : Nat → Bd), Rel w0 F0 N s a w f φ → evL (fun s K => evC E C lp c n s K) (C.live n).head (C.live n).leave j s K = some r → LW P c Q a w := by
      intro j
      induction j with
      | zero => intro s a w f φ h hK; simp [evL] at hK
      | succ j ih =>
        intro s a w f φ h hK
        simp only [evL] at hK
        refine LW.step (evC_sound hm hD hT hN c hok n (fun p hp => hl p (List.mem_cons_of_mem _ hp)) s a w f φ _ _ h hK fun e s' a' w' f' φ' hr hk => ?_)
        obtain ⟨f2, φ2, hr2⟩ := hr.head (C.live n)
        cases e with
        | normal => exact ih _ a' w' f2 φ2 hr2 hk
        | exit id => exact hQ (.exit id) _ _ _ _ _ (hr.leave (C.live n)) hk
        | ret => exact hQ .ret _ _ _ _ _ (hr.leave (C.live n)) hk
    obtain ⟨f2, φ2, hr2⟩ := h.head (C.live n)
    obtain ⟨j, hj⟩ := hl (n, c) (by simp [loopsIn]) _ _ _ hK
    exact (key j _ a w f2 φ2 hr2 hj).wp
  | .exit id, _, n, _, s, a, w, f, φ, K, Q, h, hK, hQ => wp_exit (hQ (.exit id) _ _ _ _ _ h hK)
  | .ret, _, n, _, s, a, w, f, φ, K, Q, h, hK, hQ => wp_ret (hQ .ret _ _ _ _ _ h hK)
  | .goto _, _, n, _, s, a, w, f, φ, K, Q, h, hK, hQ => by simp [evC] at hK
  | .scope c, hok, n, hl, s, a, w, f, φ, K, Q, h, hK, hQ => wp_scope_straight (evC_sound hm hD hT hN c hok n hl s a w f φ K _ h hK fun e s' a' w' f' φ' hr hk => by
      have := hQ e s' a' w' f' φ' hr hk
      cases e <;> exact this)
end
end Go.Proofs.Ytbcijglbinaioaa.Ev
