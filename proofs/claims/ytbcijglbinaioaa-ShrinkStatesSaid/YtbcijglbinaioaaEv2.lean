/- The evaluator: a state and the machine's frame; what is handed to callees. -/
import Derived.Test.YtbcijglbinaioaaEv1
set_option linter.unusedVariables false
set_option linter.unusedSimpArgs false
set_option linter.unusedSectionVars false
set_option linter.unnecessarySimpa false
namespace Go.Proofs.Ytbcijglbinaioaa.Ev
open Go.RowKit

/-- The world at the beginning; objects and values of the callers, which stay; the boxes that are lent to the call. -/
structure Bs extends World where
  ho : (Nat → Bd) → Nat → OB → Prop
  hv : (Nat → Bd) → AV → Value → Prop
  φ0 : Nat → Bd

instance : Coe Bs World := ⟨Bs.toWorld⟩

structure Rel (w0 : Bs) (F0 : Nat → Nat → Prop) (N : Nat) (s : St) (a : Act) (w : World) (f : Fr) (φ : Nat → Bd) : Prop where
  tm : ∀ t, VR w f φ (getT s.tm t) (a.tmps.getD t undef)
  ob : ∀ κ o, getO s.ob κ = some o → OR w f φ κ o
  dis : ∀ κ κ' o o' g, getO s.ob κ = some o → getO s.ob κ' = some o' → (φ κ).blk = some g → (φ κ').blk = some g → κ = κ'
  n0 : f.n0 = w0.heap.size
  F0s : ∀ g o, F0 g o → f.F g o
  Fnew : ∀ g o, f.F g o → F0 g o ∨ w0.heap.size ≤ g
  Flt : ∀ g o, f.F g o → g < w.heap.size
  below : Below w0.heap.size w0 w
  defers : a.defers = []
  size : a.tmps.size = N
  one : ∀ κ, (φ κ).v.oneCell' = true
  hid : ∀ ψ κ o, w0.ho ψ κ o → OR w f ψ κ o
  hdis : ∀ ψ κ' o' g, w0.ho ψ κ' o' → (ψ κ').blk = some g → ∀ κ o, getO s.ob κ = some o → (φ κ).blk ≠ some g
  hvs : ∀ ψ v x, w0.hv ψ v x → VR w f ψ v x
  bx : ∀ κ g, 1000000 ≤ κ → κ < 1001000 → (w0.φ0 κ).v = .pointer (some ⟨g, 0, none⟩) → φ κ = w0.φ0 κ
  Nle : N ≤ 900000

/-- An object stays what it is. -/
theorem OR.stays {w w' : World} {f f' : Fr} {ψ : Nat → Bd} {κ : Nat} {o : OB} (h : OR w f ψ κ o) (hk : FKeeps w w' f f') (hb : ∀ g, (ψ κ).blk = some g → w'.heap[g]? = w.heap[g]?)
    (hF : ∀ g o, (ψ κ).blk = some g → f'.F g o → f.F g o) : OR w' f' ψ κ o := by
  have bl : ∀ g, (ψ κ).v.ownBlock = some g → (ψ κ).blk = some g := by
    intro g hg
    unfold Bd.blk
    revert hg
    cases (ψ κ).v <;> simp [Value.ownBlock]
    rename_i a _ _
    cases a <;> simp [Value.ownBlock]
  cases o with
  | box cs =>
    obtain ⟨g, t, vs, hv, h0, hh, hvs, hno⟩ := h
    have hbg : (ψ κ).blk = some g := by simp [Bd.blk, hv]
    exact ⟨g, t, vs, hv, by rw [hk.n0]; exact h0, by rw [hb g hbg]; exact hh, hvs.keeps hk, fun o q => hno o (hF g o hbg q)⟩
  | row e t els sn =>
    obtain ⟨xs, hown, hsz, hrl, hno⟩ := h
    refine ⟨xs, ?_, hsz, hrl.keeps hk.Fk, fun g hg o q => hno g hg o (hF g o (bl g hg) q)⟩
    rw [hk.n0]
    refine ⟨hown.1, ?_⟩
    rcases hown.2 with hq | ⟨g, cap, cur, h4, hb0, hg, hn, hm, hcs, htake⟩
    · exact .inl hq
    · exact .inr ⟨g, cap, cur, h4, hb0, by rw [hb g (bl g (by rw [h4]; rfl))]; exact hg, hn, hm, hcs, htake⟩

section
variable {w0 : Bs} {F0 : Nat → Nat → Prop} {N : Nat} {s : St} {a : Act} {w : World} {f : Fr} {φ : Nat → Bd}

theorem Rel.n0le (h : Rel w0 F0 N s a w f φ) : f.n0 ≤ w.heap.size := by rw [h.n0]; exact h.below.size

theorem constV_ok (v : Value) : VR w f φ (constV v) v := by
  unfold constV
  split
  · exact .int _ _
  · exact .bool _
  · exact .nil _ _
  · exact .top _

theorem Rel.ev (h : Rel w0 F0 N s a w f φ) (x : Operand) : VR w f φ (s.ev x) (a.eval x) := by
  cases x with
  | tmp t => exact h.tm t
  | const v => exact constV_ok v
  | func g => exact .fn g [] [] .nil
  | global g => exact .top _

theorem retypeTo_ok {e : Nat} {t : Ty} {v : AV} {x : Value} (h : VR w f φ v x) : VR w f φ (retypeTo e t v) x := by
  cases h <;> simp only [retypeTo] <;> first | exact .nil _ _ | (constructor <;> assumption)

theorem retype_ok {D : List (Nat × TD)} {ty : Nat} {v : AV} {x : Value} (h : VR w f φ v x) : VR w f φ (retype D ty v) x := by
  unfold retype
  split
  · exact retypeTo_ok h
  · exact h

theorem retypeO_ok {o : Option Ty} {v : AV} {x : Value} (h : VR w f φ v x) : VR w f φ (retypeO o v) x := by
  unfold retypeO
  split
  · exact retypeTo_ok h
  · exact h

/-- A value into a temporary. -/
theorem Rel.put (h : Rel w0 F0 N s a w f φ) (d : Option Nat) (hd : ∀ d', d = some d' → d' < N) {v : AV} {x : Value} (hv : VR w f φ v x) : Rel w0 F0 N (s.put d v) (a.put d x) w f φ := by
  cases d with
  | none => exact h
  | some d =>
    have hlt := hd d rfl
    refine ⟨fun t => ?_, h.ob, h.dis, h.n0, h.F0s, h.Fnew, h.Flt, h.below, h.defers, ?_, h.one, h.hid, h.hdis, h.hvs, h.bx, h.Nle⟩
    · simp only [St.put, getT, Act.put]
      by_cases ht : d = t
      · subst ht
        rw [if_pos rfl]
        have : (a.tmps.setIfInBounds d x).getD d undef = x := by
          simp [Array.getD_eq_getD_getElem?, Array.getElem?_setIfInBounds, h.size, hlt]
        rw [this]
        exact hv
      · rw [if_neg ht]
        have : (a.tmps.setIfInBounds d x).getD t undef = a.tmps.getD t undef := by
          simp only [Array.getD_eq_getD_getElem?, Array.getElem?_setIfInBounds, if_neg ht]
        rw [this]
        exact h.tm t
    · simp [Act.put, h.size]

/-- A row of the call's own, read. -/
theorem row_RS {e : Nat} {t : Ty} {els : List t.den} {v : Value} {xs : List Value} {base : Nat} {p : Nat → Nat → Prop} {R : Nat → Nat → Prop}
    (hown : w.ownsRow base e t.sz v els.length xs) (hrl : RL w R t els xs) (hp : ∀ g, v.ownBlock = some g → ∀ o, o < els.length * t.sz → p g o) :
    ∃ A c, v = .slice A els.length c ∧ els.length ≤ c ∧ RS w p (RT w R t) t.sz A els.length els := by
  rcases hown.2 with ⟨rfl, h0⟩ | ⟨g, cap, cur, rfl, hb, hg, hn, hm, hcs, htake⟩
  · exact ⟨none, 0, by rw [h0], by omega, rfl, by rw [h0]; exact Nat.zero_le _, fun j hj => absurd hj (by omega)⟩
  · refine ⟨_, cap, rfl, hn, rfl, Nat.le_trans hn hm, fun j hj => ?_⟩
    obtain ⟨es, h1, h2⟩ := hrl.get j hj
    refine ⟨g, 0, es, rfl, h1.len, h1, fun i hi => ⟨?_, ?_⟩⟩
    · have h3 := h2 i hi
      rw [← htake, List.getElem?_take] at h3
      split at h3
      · rw [cell_of_row w g _ cur e (0, 0) hg, Nat.zero_add]
        simpa using h3
      · cases h3
    · refine hp g rfl _ ?_
      rw [Nat.zero_add]
      have h4 : (j + 1) * t.sz ≤ els.length * t.sz := Nat.mul_le_mul_right _ hj
      rw [Nat.add_mul] at h4
      have := h1.len
      omega

/-- Rows of these keys may be read for good. -/
def Fz (f : Fr) (φ : Nat → Bd) (ob : List OE) (κ : Nat) : Prop :=
  ∀ e t els sn, getO ob κ = some (.row e t els sn) → ∀ g, (φ κ).v.ownBlock = some g → ∀ o, o < els.length * t.sz → f.F g o

theorem VRs.mapS {w' : World} {f' : Fr} {φ' : Nat → Bd} (g : AV → AV) : ∀ {l : List AV} {xs : List Value} (_ : VRs w f φ l xs), (∀ v ∈ l, ∀ x, VR w f φ v x → VR w' f' φ' (g v) x) → VRs w' f' φ' (l.map g) xs
  | _, _, .nil, _ => .nil
  | _, _, .cons v l x xs hv hs, hg => .cons _ _ _ _ (hg v (by simp) _ hv) (VRs.mapS g hs fun v' hv' => hg v' (by simp [hv']))

theorem scal_RT {t : Ty} (hs : t.scal = true) {p q : Nat → Nat → Prop} {x : t.den} {cs : List Value} (h : RT w p t x cs) : RT w q t x cs := by
  induction t generalizing cs with
  | int k => exact h
  | bool => exact h
  | slice t ih => simp [Ty.scal] at hs
  | pair a b iha ihb =>
    simp only [Ty.scal, Bool.and_eq_true] at hs
    simp only [RT] at h ⊢
    obtain ⟨c1, c2, rfl, h1, h2⟩ := h
    exact ⟨c1, c2, rfl, iha hs.1 h1, ihb hs.2 h2⟩

theorem cell_lt {g o : Nat} {u : Value} (h : w.cell? ⟨g, o, none⟩ = some u) : g < w.heap.size := World.block_lt_of_cell? w ⟨g, o, none⟩ h

/-- What is handed to a callee reads there as it is told. -/
theorem conv_ok0 (hn0 : f.n0 ≤ w.heap.size) (φ' : Nat → Bd) : ∀ (n : Nat) (ob : List OE) (_ : ∀ κ o, getO ob κ = some o → OR w f φ κ o) (v : AV) (x : Value), VR w f φ v x → (∀ κ ∈ snaps ob n v, Fz f φ ob κ) →
    VR w ⟨w.heap.size, f.F⟩ φ' (conv ob n v) x
  | 0, _, _, _, _, _, _ => .top _
  | n + 1, ob, hob, v, x, hv, hz => by
    have okt : ∀ b g o, f.ok b g o → (Fr.mk w.heap.size f.F).ok b g o := fun b g o q => q.imp id fun q => ⟨q.1, Nat.lt_of_lt_of_le q.2 hn0⟩
    have rsk : ∀ {b : Bool} {t : Ty} {A : Option Addr} {n : Nat} {l : List t.den}, RS w (f.ok b) (RT w (f.ok b) t) t.sz A n l → RS w ((Fr.mk w.heap.size f.F).ok b) (RT w ((Fr.mk w.heap.size f.F).ok b) t) t.sz A n l :=
      fun q => q.keeps ⟨fun _ _ _ _ h => h, fun g o q => okt _ g o q⟩ fun _ _ q => q.keeps ⟨fun _ _ _ _ h => h, fun g o q => okt _ g o q⟩
    cases hv with
    | top => exact .top _
    | int k m => exact .int k m
    | bool b => exact .bool b
    | agg l vs hs =>
      refine .agg _ vs (VRs.mapS _ hs fun v' hv' x' hx' => conv_ok0 hn0 φ' n ob hob v' x' hx' fun κ hκ => hz κ ?_)
      simp only [snaps, List.mem_flatMap]
      exact ⟨v', hv', hκ⟩
    | tup l vs hs => exact .top _
    | fn g l vs hs =>
      refine .fn g _ vs (VRs.mapS _ hs fun v' hv' x' hx' => conv_ok0 hn0 φ' n ob hob v' x' hx' fun κ hκ => hz κ ?_)
      simp only [snaps, List.mem_flatMap]
      exact ⟨v', hv', hκ⟩
    | sl b t l A m c hn hr => exact .sl b t l A m c hn (rsk hr)
    | xs b t l A m hr => exact .sl b t l A m m (Nat.le_refl _) (rsk hr)
    | ep b cs off us g o hs hc =>
      exact .ep b _ off us g o (VRs.mapS _ hs fun v' hv' x' hx' => conv_ok0 hn0 φ' n [] (fun κ o h => by simp [getO] at h) v' x' hx' fun κ _ e t els sn h => by simp [getO] at h)
        fun i hi => ⟨(hc i hi).1, okt _ _ _ (hc i hi).2⟩
    | nil e t => exact .sl _ t [] none 0 0 (Nat.le_refl _) ⟨rfl, Nat.zero_le _, fun j hj => absurd hj (by simp)⟩
    | emp z t A c hz' => exact .sl _ t [] A 0 c (Nat.zero_le _) ⟨rfl, Nat.zero_le _, fun j hj => absurd hj (by simp)⟩
    | row κ =>
      simp only [conv]
      split
      · rename_i e t els sn ho
        obtain ⟨xs, hown, hsz, hrl, hF⟩ := hob κ _ ho
        cases hsc : t.scal with
        | true =>
          obtain ⟨A, c, hv, hnc, hrs⟩ := row_RS (p := (Fr.mk w.heap.size f.F).ok true) hown hrl fun g hg o _ => .inr ⟨rfl, (hown.lt g hg).2⟩
          rw [hv]
          exact .sl true t els A _ c hnc (hrs.keeps ⟨fun _ _ _ _ h => h, fun _ _ h => h⟩ fun _ _ hr => hr.keeps (Fok (f := ⟨w.heap.size, f.F⟩) true))
        | false =>
          have hz' := hz κ (by simp [snaps, ho, hsc]) _ _ _ _ ho
          obtain ⟨A, c, hv, hnc, hrs⟩ := row_RS (p := (Fr.mk w.heap.size f.F).ok false) hown hrl fun g hg o ho => .inl (hz' g hg o ho)
          rw [hv]
          exact .sl false t els A _ c hnc (hrs.keeps ⟨fun _ _ _ _ h => h, fun _ _ h => h⟩ fun _ _ hr => hr.keeps (Fok (f := ⟨w.heap.size, f.F⟩) false))
      · exact .top _
    | rp => exact .top _
    | ptr κ off g hg =>
      simp only [conv]
      split
      · rename_i cs ho
        obtain ⟨g', t, vs, hv, h0, hh, hvs, _⟩ := hob κ _ ho
        rw [hg] at hv
        simp only [Value.pointer.injEq, Option.some.injEq, Addr.mk.injEq, and_true] at hv
        subst hv
        have := VR.ep (w := w) (f := ⟨w.heap.size, f.F⟩) (φ := φ') true (cs.map (conv ob n)) off vs.toList g 0
          (VRs.mapS _ hvs fun v' hv' x' hx' => conv_ok0 hn0 φ' n ob hob v' x' hx' fun κ' hκ' => hz κ' (by
            simp only [snaps, ho, List.mem_flatMap]
            exact ⟨v', hv', hκ'⟩))
          (fun i hi => ⟨by rw [Nat.zero_add, cell_of_row w g i vs t (0, 0) hh]; simp, .inr ⟨rfl, (Array.getElem?_eq_some_iff.1 hh).1⟩⟩)
        simpa using this
      · exact .top _

theorem conv_ok (h : Rel w0 F0 N s a w f φ) (φ' : Nat → Bd) (n : Nat) (v : AV) (x : Value) (hv : VR w f φ v x) (hz : ∀ κ ∈ snaps s.ob n v, Fz f φ s.ob κ) :
    VR w ⟨w.heap.size, f.F⟩ φ' (conv s.ob n v) x := conv_ok0 h.n0le φ' n s.ob h.ob v x hv hz

/-- What is frozen reads without a frame of its own. -/
theorem frz_ok0 (φ' : Nat → Bd) (n0' : Nat) : ∀ (n : Nat) (ob : List OE) (_ : ∀ κ o, getO ob κ = some o → OR w f φ κ o) (v : AV) (x : Value), VR w f φ v x → (∀ κ ∈ frzKeys ob n v, Fz f φ ob κ) →
    VR w ⟨n0', f.F⟩ φ' (frz ob n v) x
  | 0, _, _, _, _, _, _ => .top _
  | n + 1, ob, hob, v, x, hv, hz => by
    cases hv with
    | top => exact .top _
    | int k m => exact .int k m
    | bool b => exact .bool b
    | agg l vs hs =>
      refine .agg _ vs (VRs.mapS _ hs fun v' hv' x' hx' => frz_ok0 φ' n0' n ob hob v' x' hx' fun κ hκ => hz κ ?_)
      simp only [frzKeys, List.mem_flatMap]
      exact ⟨v', hv', hκ⟩
    | tup l vs hs =>
      refine .tup _ vs (VRs.mapS _ hs fun v' hv' x' hx' => frz_ok0 φ' n0' n ob hob v' x' hx' fun κ hκ => hz κ ?_)
      simp only [frzKeys, List.mem_flatMap]
      exact ⟨v', hv', hκ⟩
    | fn g l vs hs => exact .top _
    | sl b t l A m c hn hr =>
      cases b with
      | true => exact .top _
      | false => exact .sl false t l A m c hn (hr.keeps ⟨fun _ _ _ _ h => h, fun g o q => .inl (Fr.ok_false (f := f) q)⟩ fun _ _ q => q.keeps ⟨fun _ _ _ _ h => h, fun g o q => .inl (Fr.ok_false (f := f) q)⟩)
    | xs b t l A m hr =>
      cases b with
      | true => exact .top _
      | false => exact .sl false t l A m m (Nat.le_refl _) (hr.keeps ⟨fun _ _ _ _ h => h, fun g o q => .inl (Fr.ok_false (f := f) q)⟩ fun _ _ q => q.keeps ⟨fun _ _ _ _ h => h, fun g o q => .inl (Fr.ok_false (f := f) q)⟩)
    | ep b cs off us g o hs hc => exact .top _
    | nil e t => exact .sl _ t [] none 0 0 (Nat.le_refl _) ⟨rfl, Nat.zero_le _, fun j hj => absurd hj (by simp)⟩
    | emp z t A c hz' => exact .sl _ t [] A 0 c (Nat.zero_le _) ⟨rfl, Nat.zero_le _, fun j hj => absurd hj (by simp)⟩
    | row κ =>
      simp only [frz]
      split
      · rename_i e t els sn ho
        obtain ⟨xs, hown, hsz, hrl, hF⟩ := hob κ _ ho
        have hz' := hz κ (by simp [frzKeys]) _ _ _ _ ho
        obtain ⟨A, c, hv, hnc, hrs⟩ := row_RS (p := (Fr.mk n0' f.F).ok false) hown hrl fun g hg o ho => .inl (hz' g hg o ho)
        rw [hv]
        exact .sl false t els A _ c hnc (hrs.keeps ⟨fun _ _ _ _ h => h, fun _ _ h => h⟩ fun _ _ hr => hr.keeps (Fok (f := ⟨n0', f.F⟩) false))
      · exact .top _
    | rp => exact .top _
    | ptr => exact .top _

/-- Rows handed over for good. -/
theorem getO_snaps (ks : List Nat) (ob : List OE) (κ : Nat) : getO (ks.map .snap ++ ob) κ = if κ ∈ ks then (getO ob κ).map OB.snapped else getO ob κ := by
  induction ks with
  | nil => simp
  | cons k ks ih =>
    simp only [List.map_cons, List.cons_append, getO, ih, List.mem_cons]
    by_cases hk : k = κ
    · subst hk
      simp only [true_or, if_true]
      split
      · cases getO ob k with
        | none => rfl
        | some o => cases o <;> rfl
      · rfl
    · rw [if_neg hk]
      simp [show ¬ κ = k from fun e => hk e.symm]

def frozenOf (f : Fr) (φ : Nat → Bd) (ob : List OE) (ks : List Nat) : Fr :=
  ⟨f.n0, fun g o => f.F g o ∨ ∃ κ ∈ ks, ∃ e t els sn, getO ob κ = some (.row e t els sn) ∧ (φ κ).v.ownBlock = some g ∧ o < els.length * t.sz⟩

theorem ownBlock_blk {b : Bd} {g : Nat} (h : b.v.ownBlock = some g) : b.blk = some g := by
  revert h
  unfold Bd.blk
  cases b.v <;> simp [Value.ownBlock]
  rename_i a _ _
  cases a <;> simp [Value.ownBlock]

theorem Rel.snapAll (h : Rel w0 F0 N s a w f φ) (ks : List Nat) : Rel w0 F0 N (s.snapAll ks) a w (frozenOf f φ s.ob ks) φ ∧ ∀ κ ∈ ks, Fz (frozenOf f φ s.ob ks) φ s.ob κ := by
  have hk : FKeeps w w f (frozenOf f φ s.ob ks) := ⟨rfl, fun g o q => .inl q, fun _ _ _ _ q => q⟩
  have hFz : ∀ κ ∈ ks, Fz (frozenOf f φ s.ob ks) φ s.ob κ := fun κ hκ e t els sn ho g hg o hlt => .inr ⟨κ, hκ, e, t, els, sn, ho, hg, hlt⟩
  refine ⟨⟨fun t => (h.tm t).keeps hk, fun κ o ho => ?_, fun κ κ' o o' g ho ho' => ?_, h.n0, fun g o q => .inl (h.F0s g o q), fun g o q => ?_, fun g o q => ?_, h.below, h.defers, h.size, h.one, fun ψ κ o ho => ?_, fun ψ κ' o' g ho hg κ o hκ => ?_, fun ψ v x hx => (h.hvs ψ v x hx).keeps hk, h.bx, h.Nle⟩, hFz⟩
  · simp only [St.snapAll] at ho
    rw [getO_snaps] at ho
    have hob : ∃ o', getO s.ob κ = some o' ∧ (o = o' ∨ κ ∈ ks ∧ o = o'.snapped) := by
      split at ho
      · rename_i hm
        cases hg : getO s.ob κ with
        | none => simp [hg] at ho
        | some o' => rw [hg] at ho; exact ⟨o', rfl, .inr ⟨hm, by simpa using ho.symm⟩⟩
      · exact ⟨o, ho, .inl rfl⟩
    obtain ⟨o', ho', hoo⟩ := hob
    have hor := h.ob κ o' ho'
    cases o' with
    | box cs =>
      obtain rfl : o = .box cs := by rcases hoo with rfl | ⟨_, rfl⟩ <;> rfl
      obtain ⟨g, t, vs, hv, h0, hh, hvs, hF⟩ := hor
      refine ⟨g, t, vs, hv, h0, hh, hvs.keeps hk, fun o q => ?_⟩
      rcases q with q | ⟨κ', _, e, t', els, sn, hoκ, hgκ, _⟩
      · exact hF o q
      · have := h.dis κ κ' _ _ g ho' hoκ (by simp [Bd.blk, hv]) (ownBlock_blk hgκ)
        subst this
        rw [ho'] at hoκ
        simp at hoκ
    | row e t els sn =>
      have : ∃ sn', o = .row e t els sn' ∧ (sn = true → sn' = true) ∧ (κ ∈ ks → κ ∈ ks ∧ sn' = true ∨ sn' = sn) := by
        rcases hoo with rfl | ⟨hm, rfl⟩
        · exact ⟨sn, rfl, id, fun _ => .inr rfl⟩
        · exact ⟨true, rfl, fun _ => rfl, fun hm => .inl ⟨hm, rfl⟩⟩
      obtain ⟨xs, hown, hsz, hrl, hF⟩ := hor
      rcases hoo with rfl | ⟨hm, rfl⟩
      · refine ⟨xs, hown, hsz, hrl.keeps hk.Fk, fun g hg o q => ?_⟩
        rcases q with q | ⟨κ', hκ', e', t', els', sn', hoκ, hgκ, hlt⟩
        · exact hF g hg o q
        · have := h.dis κ κ' _ _ g ho' hoκ (ownBlock_blk hg) (ownBlock_blk hgκ)
          subst this
          rw [if_pos hκ', ho'] at ho
          simp only [Option.map_some, OB.snapped, Option.some.injEq, OB.row.injEq] at ho
          rw [ho'] at hoκ
          simp only [Option.some.injEq, OB.row.injEq] at hoκ
          obtain ⟨rfl, rfl, hels, _⟩ := hoκ
          have := eq_of_heq hels
          subst this
          exact ⟨ho.2.2.2.symm, hlt⟩
      · refine ⟨xs, hown, hsz, hrl.keeps hk.Fk, fun g hg o q => ⟨rfl, ?_⟩⟩
        rcases q with q | ⟨κ', hκ', e', t', els', sn', hoκ, hgκ, hlt⟩
        · exact (hF g hg o q).2
        · have := h.dis κ κ' _ _ g ho' hoκ (ownBlock_blk hg) (ownBlock_blk hgκ)
          subst this
          rw [ho'] at hoκ
          simp only [Option.some.injEq, OB.row.injEq] at hoκ
          obtain ⟨rfl, rfl, hels, _⟩ := hoκ
          have := eq_of_heq hels
          subst this
          exact hlt
  · simp only [St.snapAll] at ho ho'
    rw [getO_snaps] at ho ho'
    have aux : ∀ κ o, (if κ ∈ ks then (getO s.ob κ).map OB.snapped else getO s.ob κ) = some o → ∃ o', getO s.ob κ = some o' := by
      intro κ o hq
      split at hq
      · cases hg : getO s.ob κ with
        | none => simp [hg] at hq
        | some o' => exact ⟨o', rfl⟩
      · exact ⟨o, hq⟩
    obtain ⟨o1, h1⟩ := aux κ o ho
    obtain ⟨o2, h2⟩ := aux κ' o' ho'
    exact h.dis κ κ' o1 o2 g h1 h2
  · rcases q with q | ⟨κ, _, e, t, els, sn, ho, hg, _⟩
    · exact h.Fnew g o q
    · have := (h.ob κ _ ho).blk_lt g (ownBlock_blk hg)
      rw [h.n0] at this
      exact .inr this.1
  · rcases q with q | ⟨κ, _, e, t, els, sn, ho, hg, _⟩
    · exact h.Flt g o q
    · exact ((h.ob κ _ ho).blk_lt g (ownBlock_blk hg)).2
  · refine (h.hid ψ κ o ho).stays hk (fun _ _ => rfl) fun g o' hg q => ?_
    rcases q with q | ⟨κ', _, e, t, els, sn, hoκ, hgκ, _⟩
    · exact q
    · exact absurd (ownBlock_blk hgκ) (h.hdis ψ κ o g ho hg κ' _ hoκ)
  · have aux : ∃ o', getO s.ob κ = some o' := by
      simp only [St.snapAll] at hκ
      rw [getO_snaps] at hκ
      split at hκ
      · cases hg : getO s.ob κ with
        | none => simp [hg] at hκ
        | some o' => exact ⟨o', rfl⟩
      · exact ⟨o, hκ⟩
    obtain ⟨o1, h1⟩ := aux
    exact h.hdis ψ κ' o' g ho hg κ o1 h1
end
end Go.Proofs.Ytbcijglbinaioaa.Ev
