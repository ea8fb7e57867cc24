/- The evaluator: calls; all of 'evO'. -/
import Derived.Test.YtbcijglbinaioaaEv12
import Derived.Shelf.Abstract
set_option linter.unusedVariables false
set_option linter.unusedSimpArgs false
set_option linter.unusedSectionVars false
set_option linter.unnecessarySimpa false
namespace Go.Proofs.Ytbcijglbinaioaa.Ev
open Go.RowKit Go.Shelf
section
variable {P : Program} {w0 : Bs} {F0 : Nat → Nat → Prop} {N : Nat} {s : St} {a : Act} {w : World} {f : Fr} {φ : Nat → Bd} {R : Type} {E : Env} {o : Oper} {K : St → Option R} {r : R}

/-- What a call leaves. -/
def Left (w : World) (F0 : Nat → Nat → Prop) (ret : AV) (e : Ending) (w' : World) : Prop :=
  ∃ v, e = .returned v ∧ Below w.heap.size w w' ∧ ∃ F' : Nat → Nat → Prop, (∀ g o, F0 g o → F' g o) ∧ (∀ g o, F' g o → F0 g o ∨ w.heap.size ≤ g) ∧ (∀ g o, F' g o → g < w'.heap.size) ∧ ∀ n0' φ', VR w' ⟨n0', F'⟩ φ' ret v

/-- A function that only reads what it is handed: what it answers. -/
def Sound (P : Program) (g : Nat) (args : List AV) (ret : AV) : Prop :=
  ∀ (w : World) (F0 : Nat → Nat → Prop) (vs : List Value), (∀ g o, F0 g o → g < w.heap.size) → (∀ φ : Nat → Bd, VRs w ⟨w.heap.size, F0⟩ φ args vs) → Calls P g vs.toArray w (Left w F0 ret)

/-- The table of functions is true. -/
def TabOk (P : Program) (T : Nat → Option CallE) : Prop :=
  ∀ g c, T g = some c → Enters P g ∧ ∀ (args : List AV) (x : c.Res), c.val args = some x → Sound P g args (c.av x)

/-- The objects alone. -/
def RelO (w0 : Bs) (F0 : Nat → Nat → Prop) (ob : List OE) (w : World) (f : Fr) (φ : Nat → Bd) : Prop :=
  Rel w0 F0 0 ⟨[], ob⟩ { tmps := #[], defers := [] } w f φ

def triv : Nat → Bd := fun _ => ⟨.int .i64 0, 0⟩

/-- A function that turns the objects that it is handed: what it answers, and what they are behind it. -/
def SoundI (P : Program) (g : Nat) (args : List AV) (obs : List OE) (ret : AV) (ob2 : List OE) : Prop :=
  ∀ (w0 : Bs) (F0 : Nat → Nat → Prop) (w : World) (f : Fr) (φ : Nat → Bd) (vs : List Value), w0.φ0 = triv → RelO w0 F0 obs w f φ → VRs w f φ args vs →
    Calls P g vs.toArray w fun e w' => ∃ v f' φ', e = .returned v ∧ RelO w0 F0 ob2 w' f' φ' ∧ VR w' f' φ' ret v ∧ ∀ k cs, getO obs k = some (.box cs) → k ∈ keysOf ob2 → φ' k = φ k

def TabIOk (P : Program) (I : Nat → Option CallI) : Prop :=
  ∀ g c, I g = some c → Enters P g ∧ ∀ (args : List AV) (obs : List OE) (x : c.Res), c.val args obs = some x → SoundI P g args obs (c.av x).1 (c.av x).2

/-- Both tables. -/
def EOk (P : Program) (E : Env) : Prop := TabOk P E.T ∧ TabIOk P E.I

theorem conv_snaps (ks : List Nat) (ob : List OE) : ∀ (n : Nat), conv (ks.map .snap ++ ob) n = conv ob n
  | 0 => rfl
  | n + 1 => by
    funext v
    cases v <;> simp only [conv]
    · rw [conv_snaps ks ob n]
    · rw [conv_snaps ks ob n]
    · rename_i κ
      have hs := getO_snaps ks ob κ
      cases hg : getO ob κ with
      | none => rw [hs, hg]; split <;> (rename_i h; simp at h) <;> rfl
      | some o =>
        rw [hs, hg]
        by_cases hm : κ ∈ ks
        · rw [if_pos hm]; cases o <;> rfl
        · rw [if_neg hm]
    · rename_i κ off
      have hs := getO_snaps ks ob κ
      rw [conv_snaps ks ob n]
      cases hg : getO ob κ with
      | none => rw [hs, hg]; split <;> (rename_i h; simp at h) <;> rfl
      | some o =>
        rw [hs, hg]
        by_cases hm : κ ∈ ks
        · rw [if_pos hm]; cases o <;> rfl
        · rw [if_neg hm]

theorem snaps_snaps (ks : List Nat) (ob : List OE) : ∀ (n : Nat), snaps (ks.map .snap ++ ob) n = snaps ob n
  | 0 => rfl
  | n + 1 => by
    funext v
    cases v <;> simp only [snaps]
    · rw [snaps_snaps ks ob n]
    · rw [snaps_snaps ks ob n]
    · rename_i κ
      have hs := getO_snaps ks ob κ
      cases hg : getO ob κ with
      | none => rw [hs, hg]; split <;> (rename_i h; simp at h) <;> rfl
      | some o =>
        rw [hs, hg]
        by_cases hm : κ ∈ ks
        · rw [if_pos hm]; cases o <;> rfl
        · rw [if_neg hm]
    · rename_i κ off
      have hs := getO_snaps ks ob κ
      rw [snaps_snaps ks ob n]
      cases hg : getO ob κ with
      | none => rw [hs, hg]; split <;> (rename_i h; simp at h) <;> rfl
      | some o =>
        rw [hs, hg]
        by_cases hm : κ ∈ ks
        · rw [if_pos hm]; cases o <;> rfl
        · rw [if_neg hm]

theorem snaps_retype (ob : List OE) (n : Nat) (p : Option Ty) (v : AV) : snaps ob n (retypeO p v) = snaps ob n v := by
  cases p with
  | none => rfl
  | some t => cases v <;> cases n <;> rfl

theorem argVs_ok (h : Rel w0 F0 N s a w f φ) (φ' : Nat → Bd) : ∀ (xs : List Operand) (ps : List (Option Ty)), (∀ κ ∈ (xs.map s.ev).flatMap (snaps s.ob 6), Fz f φ s.ob κ) →
    VRs w ⟨w.heap.size, f.F⟩ φ' (argVs s xs ps) (xs.map a.eval)
  | [], ps, _ => .nil
  | x :: r, [], hz => by
    simp only [List.map_cons, List.flatMap_cons, List.mem_append] at hz
    exact .cons _ _ _ _ (conv_ok h φ' 6 _ _ (h.ev x) fun κ hκ => hz κ (.inl hκ)) (argVs_ok h φ' r [] fun κ hκ => hz κ (.inr hκ))
  | x :: r, p :: ps, hz => by
    simp only [List.map_cons, List.flatMap_cons, List.mem_append] at hz
    exact .cons _ _ _ _ (conv_ok h φ' 6 _ _ (retypeO_ok (h.ev x)) fun κ hκ => hz κ (.inl (by rwa [snaps_retype] at hκ))) (argVs_ok h φ' r ps fun κ hκ => hz κ (.inr hκ))

/-- A call, the arguments read. -/
theorem goes_call (h : Rel w0 F0 N s a w f φ) (hd : ∀ d, o.dst = some d → d < N) {c : Call} {x : Operand} {g : Nat} {caps : List AV} {ps : List (Option Ty)} {ret : AV} (ho : o.op = .call c) (hcal : c.callee = .value x) (hx : s.ev x = .fn g caps)
    (hz : ∀ κ ∈ (c.args.toList.map s.ev).flatMap (snaps s.ob 6) ++ caps.flatMap (snaps s.ob 6), Fz f φ s.ob κ)
    (hen : Enters P g) (hs : Sound P g (argVs s c.args.toList ps ++ caps.map (conv s.ob 6)) ret)
    (next : Act → World → Prop) (Q : Exit → Act → World → Prop) (hn : ∀ a' w' f' φ', Rel w0 F0 N (s.put o.dst ret) a' w' f' φ' → next a' w') : o.wp P a w next Q := by
  have hfx := h.ev x
  rw [hx] at hfx
  obtain ⟨vs, hxv, hcaps⟩ := hfx.fnv
  have hargs := fun φ' => argVs_ok h φ' c.args.toList ps fun κ hκ => hz κ (List.mem_append_left _ hκ)
  have hcv : ∀ φ', VRs w ⟨w.heap.size, f.F⟩ φ' (caps.map (conv s.ob 6)) vs := fun φ' => VRs.mapS _ hcaps fun v' hv' x' hx' => conv_ok h φ' 6 v' x' hx' fun κ hκ => hz κ (List.mem_append_right _ (List.mem_flatMap.2 ⟨v', hv', hκ⟩))
  have hcalls := hs w f.F _ h.Flt fun φ' => (hargs φ').append (hcv φ')
  have hval : (c.args.toList.map a.eval ++ vs).toArray = c.args.map a.eval ++ vs.toArray := by
    apply Array.ext'
    simp
  rw [hval] at hcalls
  unfold Oper.wp
  have hexec : (execOp a.eval o).run P w = .ok (.enter g (c.args.map a.eval ++ vs.toArray)) w := by
    have := hen (c.args.map a.eval ++ vs.toArray) w
    simp [execOp, ho, resolve, hcal, hxv, Deferred.ofValue, invoke, this]
  rw [hexec, Oper.upon_enter]
  refine hcalls.mono fun e w' ⟨v, he, hb, F', h1, h2, h3, h4⟩ => ?_
  subst he
  exact hn _ _ _ _ ((h.called hb F' h1 h2 h3).put o.dst hd (h4 _ _))

end
end Go.Proofs.Ytbcijglbinaioaa.Ev
