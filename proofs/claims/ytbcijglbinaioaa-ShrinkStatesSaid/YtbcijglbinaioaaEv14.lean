/- The evaluator: operations under guards. -/
import Derived.Test.YtbcijglbinaioaaEv13o
set_option linter.unusedVariables false
set_option linter.unusedSimpArgs false
set_option linter.unusedSectionVars false
set_option linter.unnecessarySimpa false
namespace Go.Proofs.Ytbcijglbinaioaa.Ev
open Go.RowKit Go.Shelf
section
variable {P : Program} {w0 : Bs} {F0 : Nat → Nat → Prop} {N : Nat} {s : St} {a : Act} {w : World} {f : Fr} {φ : Nat → Bd} {R : Type} {E : Env} {o : Oper} {r : R} {ops : Array Oper}

/-! ### the value, whatever follows -/
theorem arI_nat {op : BinOp} {k : IntKind} {a b : Int} {K : AV → Option R} : arI op k a b K = (arI op k a b some).bind K := by
  unfold arI
  cases op <;> first | rfl | (simp only []; cases (b == 0) <;> rfl)
theorem shI_nat {op : BinOp} {k : IntKind} {a b : Int} {K : AV → Option R} : shI op k a b K = (shI op k a b some).bind K := by
  unfold shI
  cases decide (b < 0) <;> cases op <;> rfl
theorem binV_nat {op : BinOp} {d : Option TD} {x y : AV} {K : AV → Option R} : binV op d x y K = (binV op d x y some).bind K := by
  unfold binV
  split
  · split
    · exact shI_nat
    · exact shI_nat
    · split
      · exact arI_nat
      · rfl
  · split
    · rfl
    · split <;> rfl
  · split
    · rfl
    · split <;> first | rfl | (split <;> rfl)
  · split
    · rfl
    · split <;> first | rfl | (generalize isEmptyL _ = c; cases c <;> rfl)
  · split
    · rfl
    · split <;> rfl
  · split
    · rfl
    · split <;> rfl
  · rfl
theorem sliceI_nat {b : Bool} {t : Ty} {l : List t.den} {lo hi mx : Option AV} {K : AV → Option R} : sliceI b t l lo hi mx K = (sliceI b t l lo hi mx some).bind K := by
  unfold sliceI
  split <;> first
    | rfl
    | (generalize (_ && _) = c; cases c <;> rfl)

theorem sliceN_nat {v : AV} {lo hi mx : Option AV} {K : AV → Option R} : sliceN v lo hi mx K = (sliceN v lo hi mx some).bind K := by
  unfold sliceN
  split <;> first
    | rfl
    | (rename_i h; cases (h == (0 : Int)) <;> rfl)
theorem bif_nat {α : Type} {c : Bool} {x : α} {K : α → Option R} : (bif c then K x else none) = (bif c then some x else none).bind K := by cases c <;> rfl
theorem ite_nat {α : Type} {c : Prop} [Decidable c] {x : α} {K : α → Option R} : (if c then K x else none) = (if c then some x else none).bind K := by split <;> rfl
theorem bind_nat {α β : Type} {y : Option β} {g : β → α} {K : α → Option R} : (y.bind fun e => K (g e)) = (y.bind fun e => some (g e)).bind K := by cases y <;> rfl

theorem bif2_nat {α : Type} {c : Bool} {x y : α} {K : α → Option R} : (bif c then K x else K y) = (bif c then some x else some y).bind K := by cases c <;> rfl

theorem pickIdx_nat {m : Int} {g : Nat → AV} {K : AV → Option R} : ∀ (k j : Nat), pickIdx m (fun j => K (g j)) k j = (pickIdx m (fun j => some (g j)) k j).bind K
  | 0, j => rfl
  | k + 1, j => by
    simp only [pickIdx]
    cases (m == (j : Int)) with
    | true => rfl
    | false => exact pickIdx_nat k (j + 1)
theorem atIdx_nat {n : Nat} {m : Int} {g : Nat → AV} {K : AV → Option R} : atIdx n m (fun j => K (g j)) = (atIdx n m fun j => some (g j)).bind K := by
  unfold atIdx
  split
  · exact pickIdx_nat n 0
  · exact bif_nat

theorem evQ_nat {K : AV → Option R} : evQ E s o K = (evQ E s o some).bind K := by
  unfold evQ
  cases o.op
  all_goals (try dsimp only)
  all_goals (repeat' split)
  all_goals first
    | rfl
    | exact binV_nat
    | exact sliceI_nat
    | exact sliceN_nat
    | exact bif_nat
    | exact bif2_nat
    | exact atIdx_nat
    | exact bind_nat
    | exact ite_nat
    | (rw [Option.bind_assoc]; congr 1; funext e; split <;> rfl)

theorem evQC_nat {K : AV → Option R} : evQC E s o K = (evQC E s o some).bind K := by
  unfold evQC
  repeat' split
  all_goals first
    | rfl
    | exact evQ_nat
    | exact bind_nat

/-! ### it looks at its operands alone -/
theorem mem_touch_row {ob : List OE} {n κ : Nat} : κ ∈ touch ob (n + 1) (.row κ) := List.mem_cons_self
theorem mem_touch_rp {ob : List OE} {n κ i off : Nat} : κ ∈ touch ob (n + 1) (.rp κ i off) := List.mem_cons_self
theorem mem_touch_ptr {ob : List OE} {n κ off : Nat} : κ ∈ touch ob (n + 1) (.ptr κ off) := List.mem_cons_self

theorem conv_touch {ob ob' : List OE} : ∀ (n : Nat) (v : AV), (∀ κ ∈ touch ob n v, getO ob κ = getO ob' κ) → conv ob n v = conv ob' n v
  | 0, v, _ => rfl
  | n + 1, v, h => by
    cases v <;> simp only [conv]
    case agg l => congr 1; exact List.map_congr_left fun x hx => conv_touch n x fun κ hκ => h κ (by simp only [touch, List.mem_flatMap]; exact ⟨x, hx, hκ⟩)
    case fn g l => congr 1; exact List.map_congr_left fun x hx => conv_touch n x fun κ hκ => h κ (by simp only [touch, List.mem_flatMap]; exact ⟨x, hx, hκ⟩)
    case row κ => rw [h κ mem_touch_row]
    case ptr κ off =>
      rw [← h κ mem_touch_ptr]
      cases hg : getO ob κ with
      | none => rfl
      | some o =>
        cases o with
        | box cs =>
          dsimp only
          congr 1
          exact List.map_congr_left fun x hx => conv_touch n x fun κ' hκ' => h κ' (by simp only [touch, hg, List.mem_cons, List.mem_flatMap]; exact .inr ⟨x, hx, hκ'⟩)
        | row => rfl
theorem snaps_touch {ob ob' : List OE} : ∀ (n : Nat) (v : AV), (∀ κ ∈ touch ob n v, getO ob κ = getO ob' κ) → snaps ob n v = snaps ob' n v
  | 0, v, _ => rfl
  | n + 1, v, h => by
    have fm : ∀ l : List AV, (∀ x ∈ l, snaps ob n x = snaps ob' n x) → l.flatMap (snaps ob n) = l.flatMap (snaps ob' n) := by
      intro l
      induction l with
      | nil => intro _; rfl
      | cons x l ih => intro hl; simp only [List.flatMap_cons, hl x (by simp), ih fun y hy => hl y (by simp [hy])]
    cases v <;> simp only [snaps]
    case agg l => exact fm l fun x hx => snaps_touch n x fun κ hκ => h κ (by simp only [touch, List.mem_flatMap]; exact ⟨x, hx, hκ⟩)
    case fn g l => exact fm l fun x hx => snaps_touch n x fun κ hκ => h κ (by simp only [touch, List.mem_flatMap]; exact ⟨x, hx, hκ⟩)
    case row κ => rw [h κ mem_touch_row]
    case ptr κ off =>
      rw [← h κ mem_touch_ptr]
      cases hg : getO ob κ with
      | none => rfl
      | some o =>
        cases o with
        | box cs => exact fm cs fun x hx => snaps_touch n x fun κ' hκ' => h κ' (by simp only [touch, hg, List.mem_cons, List.mem_flatMap]; exact .inr ⟨x, hx, hκ'⟩)
        | row => rfl

theorem touch_retype (ob : List OE) (n : Nat) (p : Option Ty) (v : AV) : touch ob n (retypeO p v) = touch ob n v := by
  cases p with
  | none => rfl
  | some t => cases v <;> cases n <;> rfl

theorem frz_nokeys {ob ob' : List OE} : ∀ (n : Nat) (v : AV), frzKeys ob n v = [] → frz ob n v = frz ob' n v
  | 0, v, _ => rfl
  | n + 1, v, h => by
    have fm : ∀ l : List AV, l.flatMap (frzKeys ob n) = [] → l.map (frz ob n) = l.map (frz ob' n) := by
      intro l hl
      rw [List.flatMap_eq_nil_iff] at hl
      exact List.map_congr_left fun x hx => frz_nokeys n x (hl x hx)
    cases v <;> simp only [frz]
    case agg l => congr 1; exact fm l h
    case tup l => congr 1; exact fm l h
    case row κ => simp [frzKeys] at h

theorem litEls_nokeys {ob ob' : List OE} {t : Ty} : ∀ (j : Nat) (l : List (Nat × AV)), (∀ p ∈ l, frzKeys ob 3 p.2 = []) → litEls ob t j l = litEls ob' t j l
  | j, [], _ => rfl
  | j, (i, v) :: r, h => by
    have := litEls_nokeys (ob := ob) (ob' := ob') (t := t) (j + 1) r fun p hp => h p (by simp [hp])
    simp only [litEls, frz_nokeys (ob := ob) (ob' := ob') 3 v (h (i, v) (by simp)), this]

theorem touch_mono {ob : List OE} : ∀ (n : Nat) (v : AV) (κ : Nat), κ ∈ touch ob n v → κ ∈ touch ob (n + 1) v
  | 0, v, κ, h => by simp [touch] at h
  | n + 1, v, κ, h => by
    cases v <;> simp only [touch, List.mem_flatMap, List.mem_cons, List.not_mem_nil] at h ⊢ <;> try exact h
    case agg l => obtain ⟨x, hx, hk⟩ := h; exact ⟨x, hx, touch_mono n x κ hk⟩
    case fn g l => obtain ⟨x, hx, hk⟩ := h; exact ⟨x, hx, touch_mono n x κ hk⟩
    case ptr κ' off =>
      rcases h with h | h
      · exact .inl h
      · refine .inr ?_
        split at h
        · simp only [List.mem_flatMap] at h ⊢
          obtain ⟨x, hx, hk⟩ := h
          exact ⟨x, hx, touch_mono n x κ hk⟩
        · simp at h

theorem evQ_congr {s' : St} (h : ∀ x ∈ o.op.operands, s.ev x = s'.ev x) (hob : ∀ x ∈ o.op.operands, ∀ κ ∈ touch s.ob 7 (s.ev x), getO s.ob κ = getO s'.ob κ) (K : AV → Option R) : evQ E s o K = evQ E s' o K := by
  have pairs : ∀ ps : Array (Nat × Operand), (∀ x ∈ (ps.toList.map (·.2)).toArray, s.ev x = s'.ev x) → (ps.toList.map fun p => (p.1, s.ev p.2)) = (ps.toList.map fun p => (p.1, s'.ev p.2)) := fun ps hp =>
    List.map_congr_left fun p hm => by rw [hp p.2 (by simp only [List.mem_toArray]; exact List.mem_map.2 ⟨p, hm, rfl⟩)]
  unfold evQ
  cases hop : o.op <;> rw [hop] at h hob <;> simp only [Op.operands] at h hob <;> (try dsimp only)
  case move x => rw [h x (by simp)]
  case assign x => rw [h x (by simp)]
  case pick c x y => rw [h c (by simp), h x (by simp), h y (by simp)]
  case binOp b t x y t' => rw [h x (by simp), h y (by simp)]
  case unOp u t x => cases u <;> dsimp only <;> rw [h x (by simp)]
  case convert t t' x => rw [h x (by simp)]
  case load t x =>
    have ho := hob x (by simp)
    rw [h x (by simp)] at ho
    rw [h x (by simp)]
    cases hv : s'.ev x <;> first
      | rfl
      | (rw [hv] at ho; cases findD E.D t <;> first | rfl | (dsimp only; rw [ho _ mem_touch_ptr]))
      | (rw [hv] at ho; cases findD E.D t <;> first | rfl | (dsimp only; rw [ho _ mem_touch_rp]))
  case nilCheck x => rw [h x (by simp)]
  case fieldAddr t x i => rw [h x (by simp)]
  case field t x i => rw [h x (by simp)]
  case indexAddr t x y =>
    have ho := hob x (by simp)
    rw [h x (by simp)] at ho
    have hrow : ∀ κ, s'.ev x = .row κ → getO s.ob κ = getO s'.ob κ := fun κ hv => by rw [hv] at ho; exact ho _ mem_touch_row
    rw [h x (by simp), h y (by simp)]
    cases findD E.D t with
    | none => rfl
    | some d =>
      obtain ⟨_, _, _, _, sh⟩ := d
      cases sh <;> try rfl
      generalize s'.ev y = vy
      cases hv : s'.ev x <;> cases vy <;> try rfl
      dsimp only
      rw [hrow _ hv]
  case index t x y => rw [h x (by simp), h y (by simp)]
  case extract x i => rw [h x (by simp)]
  case makeFunc fn fi ca =>
    have : ca.toList.map s.ev = ca.toList.map s'.ev := List.map_congr_left fun x hx => h x (by simp only [Array.mem_append]; exact .inr (by simpa using hx))
    cases fn <;> first | rfl | (dsimp only; rw [this])
  case slice t x lo hi mx =>
    have e1 : lo.map s.ev = lo.map s'.ev := by cases lo <;> simp_all
    have e2 : hi.map s.ev = hi.map s'.ev := by cases hi <;> simp_all
    have e3 : mx.map s.ev = mx.map s'.ev := by cases mx <;> simp_all
    rw [h x (by simp), e1, e2, e3]
  case build t ps => rw [pairs ps h]
  case call c =>
    have ha : ∀ x ∈ c.args.toList, s.ev x = s'.ev x := fun x hx => h x (by simp only [Call.operands, Array.mem_append]; exact .inr (by simpa using hx))
    have hoa : ∀ x ∈ c.args.toList, ∀ κ ∈ touch s.ob 7 (s.ev x), getO s.ob κ = getO s'.ob κ := fun x hx => hob x (by simp only [Call.operands, Array.mem_append]; exact .inr (by simpa using hx))
    cases hb : c.callee with
    | value x => rfl
    | invoke x n => rfl
    | builtin b =>
      generalize c.args.toList = l at ha hoa
      rcases l with _ | ⟨x, _ | ⟨y, _ | ⟨z, l⟩⟩⟩
      · cases b <;> rfl
      · have hx := ha x (by simp)
        generalize c.argTypes.toList = tys
        have ho := hoa x (by simp)
        rw [hx] at ho
        rcases tys with _ | ⟨ty, _ | ⟨ty', tys⟩⟩ <;> cases b <;> first
          | rfl
          | (dsimp only; rw [hx]; done)
          | (dsimp only
             rw [hx]
             cases findD E.D ty with
             | none => rfl
             | some d =>
               obtain ⟨_, _, _, _, sh⟩ := d
               cases sh <;> try rfl
               cases hv : s'.ev x <;> try rfl
               rw [hv] at ho
               dsimp only
               rw [ho _ mem_touch_row])
      · have hx := ha x (by simp)
        have hy := ha y (by simp)
        cases b <;> first | rfl | (dsimp only; rw [hx, hy])
      · cases b <;> rfl

theorem argVs_congr {s' : St} : ∀ (xs : List Operand) (ps : List (Option Ty)), (∀ x ∈ xs, s.ev x = s'.ev x) → (∀ x ∈ xs, ∀ κ ∈ touch s.ob 7 (s.ev x), getO s.ob κ = getO s'.ob κ) → argVs s xs ps = argVs s' xs ps
  | [], ps, _, _ => by cases ps <;> rfl
  | x :: r, [], h, ho => by
    simp only [argVs, argVs_congr r [] (fun y hy => h y (by simp [hy])) fun y hy => ho y (by simp [hy])]
    rw [conv_touch 6 (s.ev x) (fun κ hκ => ho x (by simp) κ (touch_mono 6 _ κ hκ)), h x (by simp)]
  | x :: r, p :: ps, h, ho => by
    simp only [argVs, argVs_congr r ps (fun y hy => h y (by simp [hy])) fun y hy => ho y (by simp [hy])]
    rw [conv_touch 6 (retypeO p (s.ev x)) (by rw [touch_retype]; exact fun κ hκ => ho x (by simp) κ (touch_mono 6 _ κ hκ)), h x (by simp)]

theorem evQC_congr {s' : St} (h : ∀ x ∈ o.op.operands, s.ev x = s'.ev x) (hob : ∀ x ∈ o.op.operands, ∀ κ ∈ touch s.ob 7 (s.ev x), getO s.ob κ = getO s'.ob κ) (K : AV → Option R) : evQC E s o K = evQC E s' o K := by
  unfold evQC
  split
  · rename_i c hop
    have hq : evQ E s o K = evQ E s' o K := evQ_congr h hob K
    rw [hop] at h hob
    simp only [Op.operands] at h hob
    split
    · rename_i x hcal
      have hm' : ∀ x ∈ c.args.toList, x ∈ c.operands := fun x hx => by simp only [Call.operands, Array.mem_append]; exact .inr (by simpa using hx)
      have ha : ∀ x ∈ c.args.toList, s.ev x = s'.ev x := fun x hx => h x (hm' x hx)
      have hoa : ∀ x ∈ c.args.toList, ∀ κ ∈ touch s.ob 7 (s.ev x), getO s.ob κ = getO s'.ob κ := fun x hx => hob x (hm' x hx)
      have hxm : x ∈ c.operands := by simp [Call.operands, hcal]
      have hx : s.ev x = s'.ev x := h x hxm
      have hox := hob x hxm
      have hv : ∀ ps, argVs s c.args.toList ps = argVs s' c.args.toList ps := fun ps => argVs_congr _ ps ha hoa
      have hsn : (c.args.toList.map s.ev).flatMap (snaps s.ob 6) = (c.args.toList.map s'.ev).flatMap (snaps s'.ob 6) := by
        generalize c.args.toList = l at ha hoa
        induction l with
        | nil => rfl
        | cons y l ih =>
          simp only [List.map_cons, List.flatMap_cons]
          rw [ih (fun z hz => ha z (by simp [hz])) (fun z hz => hoa z (by simp [hz])), snaps_touch 6 (s.ev y) (fun κ hκ => hoa y (by simp) κ (touch_mono 6 _ κ hκ)), ha y (by simp)]
      rw [hx] at hox
      rw [hx]
      split
      · rename_i g caps hcap
        rw [hcap] at hox
        have hcc : ∀ v ∈ caps, ∀ κ ∈ touch s.ob 6 v, getO s.ob κ = getO s'.ob κ := fun v hv κ hκ => hox κ (by rw [touch, List.mem_flatMap]; exact ⟨v, hv, hκ⟩)
        have hc1 : caps.map (conv s.ob 6) = caps.map (conv s'.ob 6) := List.map_congr_left fun v hv => conv_touch 6 v (hcc v hv)
        have hc2 : caps.flatMap (snaps s.ob 6) = caps.flatMap (snaps s'.ob 6) := by
          clear hcap hox hc1
          induction caps with
          | nil => rfl
          | cons v l ih => simp only [List.flatMap_cons]; rw [ih fun z hz => hcc z (by simp [hz]), snaps_touch 6 v (hcc v (by simp))]
        split
        · simp only [hsn, hv, hc1, hc2]
        · rfl
      · rfl
    · exact hq
  · rename_i t n parts hop
    rw [hop] at h
    simp only [Op.operands] at h
    have hp : (parts.toList.map fun p => (p.1, s.ev p.2)) = (parts.toList.map fun p => (p.1, s'.ev p.2)) :=
      List.map_congr_left fun p hm => by rw [h p.2 (by simp only [List.mem_toArray]; exact List.mem_map.2 ⟨p, hm, rfl⟩)]
    have hk : (parts.toList.flatMap fun p => frzKeys s.ob 3 (s.ev p.2)) = (parts.toList.flatMap fun p => frzKeys s'.ob 3 (s'.ev p.2)) := by
      rw [frzKeys_ob s.ob s'.ob]
      have := congrArg (List.flatMap fun p : Nat × AV => frzKeys s'.ob 3 p.2) hp
      simpa [List.flatMap_map] using this
    have hl : ∀ ty : Ty, isEmptyL (parts.toList.flatMap fun p => frzKeys s'.ob 3 (s'.ev p.2)) = true → litEls s.ob ty 0 (parts.toList.map fun p => (p.1, s'.ev p.2)) = litEls s'.ob ty 0 (parts.toList.map fun p => (p.1, s'.ev p.2)) := by
      intro ty h1
      refine litEls_nokeys _ _ fun p hpm => ?_
      generalize hl : (parts.toList.flatMap fun p => frzKeys s'.ob 3 (s'.ev p.2)) = l at h1
      cases l with
      | cons => simp [isEmptyL] at h1
      | nil =>
        rw [List.flatMap_eq_nil_iff] at hl
        obtain ⟨q, hq, rfl⟩ := List.mem_map.1 hpm
        rw [frzKeys_ob s.ob s'.ob]
        exact hl q hq
    rw [hp, hk]
    split <;> try rfl
    split <;> try rfl
    split <;> try rfl
    rename_i hc
    rw [hl _ hc.2.2.2]
  · exact evQ_congr h hob K

/-! ### one operation of a quiet region -/
def StepV (E : Env) (ops : List Oper) (s : St) (o : Oper) (u : AV) : Prop :=
  match guardOf ops s o with
  | some .always => evQC E s o some = some u
  | some .never => u = .tup []
  | some (.word _ b want) => if b = want then evQC E s o some = some u else u = .tup []
  | none => False

theorem StepV.congr {ops : List Oper} {s' : St} {u : AV} (h : ∀ t ∈ o.looksAt ops.toArray, getT s.tm t = getT s'.tm t) (hob : ∀ x ∈ o.op.operands, ∀ κ ∈ touch s.ob 7 (s.ev x), getO s.ob κ = getO s'.ob κ) (hs : StepV E ops s o u) : StepV E ops s' o u := by
  have hx : ∀ x ∈ o.op.operands, s.ev x = s'.ev x := fun x hx => by
    cases x with
    | tmp t => exact h t (List.mem_append_left _ (List.mem_filterMap.2 ⟨.tmp t, by simpa using hx, rfl⟩))
    | const v => rfl
    | func g => rfl
    | global g => rfl
  have hg : guardOf ops s o = guardOf ops s' o := by
    unfold guardOf
    split
    · rfl
    · rename_i j want hg
      split
      · rename_i oj hoj
        split
        · rename_i d hd
          rw [h d (List.mem_append_right _ (by simp [hg, hoj, hd]))]
        · rfl
      · rfl
  unfold StepV at *
  rw [← hg]
  split at hs
  · rwa [← evQC_congr hx hob]
  · exact hs
  · split at hs
    · rename_i hb; rw [if_pos hb]; rwa [← evQC_congr hx hob]
    · rename_i hb; rw [if_neg hb]; exact hs
  · exact hs

theorem yield_of (h : Rel w0 F0 N s a w f φ) {ops : Array Oper} {j : Nat} {oj : Oper} {d : Nat} {b : Bool} (hj : ops[j]? = some oj) (hd : oj.dst = some d) (hb : getT s.tm d = .bool b) : yielded ops a.tmps j = some b := by
  have hv := h.tm d
  rw [hb] at hv
  have hv : a.tmps.getD d undef = .bool b := hv.boolv
  unfold yielded
  simp only [hj, hd, Option.bind_some]
  rw [Array.getD_eq_getD_getElem?] at hv
  cases hq : a.tmps[d]? with
  | none => simp [hq, undef] at hv
  | some v => simp only [hq, Option.getD_some] at hv; subst hv; rfl

/-- What the guard says is what stands there. -/
theorem guardOf_get {ops : List Oper} {d : Nat} {b want : Bool} (h : guardOf ops s o = some (.word d b want)) : getT s.tm d = .bool b := by
  unfold guardOf at h
  split at h
  · simp at h
  · split at h <;> try contradiction
    split at h <;> try contradiction
    split at h <;> try contradiction
    · rename_i hb
      simp only [Option.some.injEq, GW.word.injEq] at h
      obtain ⟨rfl, rfl, _⟩ := h
      exact hb
    · simp at h

/-- The same, told again. -/
theorem getT_again {d : Nat} {v : AV} (h : getT s.tm d = v) (t : Nat) : getT (s.put (some d) v).tm t = getT s.tm t := by
  simp only [St.put, getT]
  split
  · rename_i e; subst e; exact h.symm
  · rfl

/-- The guard, told rightly. -/
theorem guard_ok (h : Rel w0 F0 N s a w f φ) {ops : Array Oper} : (guardOf ops.toList s o = some .always → Region.wanted o (yielded ops a.tmps) = true) ∧
    (guardOf ops.toList s o = some .never → Region.wanted o (yielded ops a.tmps) = false) ∧
    ∀ d b want, guardOf ops.toList s o = some (.word d b want) → Region.wanted o (yielded ops a.tmps) = (b == want) := by
  unfold guardOf Region.wanted
  cases hg : o.guard with
  | none => simp
  | some p =>
    obtain ⟨j, want⟩ := p
    simp only []
    cases hj : ops.toList[j]? with
    | none => simp
    | some oj =>
      simp only []
      cases hd : oj.dst with
      | none => simp
      | some d =>
        simp only []
        split
        · rename_i b hb
          have := yield_of h (ops := ops) (by simpa using hj) hd hb
          simp only [Option.some.injEq, GW.word.injEq, reduceCtorEq, false_implies, true_and]
          rintro d' b' want' ⟨rfl, rfl, rfl⟩
          rw [this]
          cases b <;> cases want <;> rfl
        · rename_i hb
          have hv := h.tm d
          rw [hb] at hv
          have hu : a.tmps.getD d undef = undef := by
            generalize a.tmps.getD d undef = u at hv
            cases hv with
            | tup l vs hs => cases hs; rfl
          have hy : yielded ops a.tmps j = none := by
            unfold yielded
            have hj' : ops[j]? = some oj := by simpa using hj
            simp only [hj', hd, Option.bind_some]
            rw [Array.getD_eq_getD_getElem?] at hu
            cases hq : a.tmps[d]? with
            | none => rfl
            | some v => simp only [hq, Option.getD_some] at hu; subst hu; rfl
          rw [hy]
          refine ⟨by simp, fun _ => by cases want <;> rfl, by simp⟩
        · simp

theorem evQC_goes (hD : DOk P E.D) (hT : EOk P E) (h : Rel w0 F0 N s a w f φ) (hd : ∀ d, o.dst = some d → d < N) {u : AV} (hK : evQC E s o some = some u)
    (next : Act → World → Prop) (Q : Exit → Act → World → Prop) (hn' : ∀ a' w' f' φ', Rel w0 F0 N (s.put o.dst u) a' w' f' φ' → next a' w') : o.wp P a w next Q := by
  have base : evQ E s o some = some u → o.wp P a w next Q := fun hK => by
    obtain ⟨v, ⟨x, hx, hv⟩, hK⟩ := evQ_sound hD h hK
    simp only [Option.some.injEq] at hK
    subst hK
    unfold Oper.wp
    rw [hx]
    exact hn' _ _ _ _ (h.put o.dst hd hv)
  unfold evQC at hK
  split at hK
  · rename_i c hop
    split at hK
    · rename_i x hcal
      split at hK <;> try contradiction
      rename_i g caps hx
      split at hK <;> try contradiction
      rename_i ce hce
      split at hK <;> try contradiction
      rename_i hemp
      obtain ⟨hen, hrun⟩ := hT.1 g ce hce
      obtain ⟨x0, hx0, hK'⟩ := Option.bind_eq_some_iff.1 hK
      simp only [Option.some.injEq] at hK'
      subst hK'
      refine goes_call h hd hop hcal hx (ps := ce.params) ?_ hen (hrun _ _ hx0) next Q hn'
      intro κ hκ
      revert hκ hemp
      cases (c.args.toList.map s.ev).flatMap (snaps s.ob 6) ++ caps.flatMap (snaps s.ob 6) with
      | nil => intro _ h; simp at h
      | cons => intro h; simp [isEmptyL] at h
    · exact base hK
  · rename_i t n parts hop
    split at hK <;> try contradiction
    rename_i _ _ _ _ e ty ht
    obtain ⟨hu, i, z, hi, his, hz, hzc, hby⟩ := (hD _ _ ht).sh
    split at hK <;> try contradiction
    rename_i td htd
    split at hK <;> try contradiction
    rename_i hc
    obtain ⟨hn, htz, hlim, hemp⟩ := hc
    have hparts : ∃ b els, u = .xs b ty els ∧ (els.length = parts.toList.length ∧ (parts.toList.map fun p => (p.1, a.eval p.2)) = ((parts.toList.map fun p => a.eval p.2).zipIdx 0).map (fun x => (x.2, x.1)) ∧ (∀ v ∈ parts.toList.map (fun p => a.eval p.2), v.cells.size = ty.sz) ∧
        RL w (f.ok b) ty els ((parts.toList.map fun p => a.eval p.2).flatMap fun v => v.cells.toList)) := by
      split at hK
      · rename_i els hel
        simp only [Option.some.injEq] at hK
        subst hK
        obtain ⟨h1, h2, h3, h4⟩ := litEls_ok h (t := ty) parts.toList 0 els hel (fun κ hκ => by
          revert hκ hemp
          cases (parts.toList.flatMap fun p => frzKeys s.ob 3 (s.ev p.2)) with
          | nil => intro _ h; simp at h
          | cons => intro h; simp [isEmptyL] at h)
        exact ⟨false, els, rfl, h1, h2, h3, h4.keeps (Fok false)⟩
      · obtain ⟨els, hel, hK'⟩ := Option.bind_eq_some_iff.1 hK
        simp only [Option.some.injEq] at hK'
        subst hK'
        exact ⟨true, els, rfl, litQ_ok h parts.toList 0 els hel⟩
    obtain ⟨b, els, rfl, h1, h2, h3, h4⟩ := hparts
    exact goes_litQ hD h hd hop ht rfl htd hn htz hlim h1 h2 h3 h4 next Q hn'
  · exact base hK

/-- One operation under its guard. -/
theorem StepV.goes (hD : DOk P E.D) (hT : EOk P E) (h : Rel w0 F0 N s a w f φ) (hd : ∀ d, o.dst = some d → d < N) {ops : Array Oper} {u : AV} (hs : StepV E ops.toList s o u)
    (next : Act → World → Prop) (Q : Exit → Act → World → Prop) (hn : ∀ a' w' f' φ', Rel w0 F0 N (s.put o.dst u) a' w' f' φ' → next a' w') :
    if Region.wanted o (yielded ops a.tmps) then o.wp P a w next Q else next (a.put o.dst undef) w := by
  obtain ⟨g1, g3, g2⟩ := guard_ok (o := o) h (ops := ops)
  have hundef : ∀ f φ, VR w f φ (.tup []) undef := fun f φ => .tup [] [] .nil
  unfold StepV at hs
  split at hs
  · rename_i hg
    rw [g1 hg, if_pos rfl]
    exact evQC_goes hD hT h hd hs next Q hn
  · rename_i hg
    rw [g3 hg, if_neg (by simp)]
    subst hs
    exact hn _ _ _ _ (h.put o.dst hd (hundef _ _))
  · rename_i d b want hg
    rw [g2 d b want hg]
    split at hs
    · rename_i hb
      subst hb
      rw [if_pos (by simp)]
      exact evQC_goes hD hT h hd hs next Q hn
    · rename_i hb
      rw [if_neg (by simpa using hb)]
      subst hs
      exact hn _ _ _ _ (h.put o.dst hd (hundef _ _))
  · exact hs.elim

end
end Go.Proofs.Ytbcijglbinaioaa.Ev
