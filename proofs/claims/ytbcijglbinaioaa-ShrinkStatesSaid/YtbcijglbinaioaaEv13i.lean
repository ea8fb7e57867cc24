/- The evaluator: calls of functions that turn the objects that they are handed. -/
import Derived.Test.YtbcijglbinaioaaEv13
set_option linter.unusedVariables false
set_option linter.unusedSimpArgs false
set_option linter.unusedSectionVars false
set_option linter.unnecessarySimpa false
namespace Go.Proofs.Ytbcijglbinaioaa.Ev
open Go.RowKit Go.Shelf
section
variable {P : Program} {w0 : Bs} {F0 : Nat → Nat → Prop} {N : Nat} {s : St} {a : Act} {w : World} {f : Fr} {φ : Nat → Bd} {R : Type} {E : Env} {o : Oper} {K : St → Option R} {r : R}

theorem lk_mem : ∀ {ρ : List (Nat × Nat)} {κ k : Nat}, lk ρ κ = some k → (κ, k) ∈ ρ
  | [], _, _, h => by simp [lk] at h
  | p :: ρ, κ, k, h => by
    simp only [lk] at h
    split at h
    · rename_i e
      simp only [Option.some.injEq] at h
      subst e
      subst h
      exact List.mem_cons_self
    · exact List.mem_cons_of_mem _ (lk_mem h)

theorem memN_iff : ∀ {x : Nat} {l : List Nat}, memN x l = true ↔ x ∈ l
  | x, [] => by simp [memN]
  | x, y :: l => by
    simp only [memN]
    split
    · rename_i e; subst e; simp
    · rename_i e; rw [memN_iff]; simp [show ¬ x = y from fun q => e q.symm]

theorem nodupN_iff : ∀ {l : List Nat}, nodupN l = true ↔ l.Nodup
  | [] => by simp [nodupN]
  | x :: l => by
    simp only [nodupN, Bool.and_eq_true, Bool.not_eq_true', List.nodup_cons, nodupN_iff]
    rw [← memN_iff]
    simp

theorem lk_of_mem : ∀ {ρ : List (Nat × Nat)} {κ k : Nat}, (ρ.map (·.1)).Nodup → (κ, k) ∈ ρ → lk ρ κ = some k
  | [], _, _, _, h => by simp at h
  | p :: ρ, κ, k, hn, h => by
    simp only [List.map_cons, List.nodup_cons] at hn
    simp only [lk]
    rcases List.mem_cons.1 h with rfl | h
    · simp
    · rw [if_neg, lk_of_mem hn.2 h]
      rintro rfl
      exact hn.1 (List.mem_map.2 ⟨_, h, rfl⟩)

theorem lk_none : ∀ {ρ : List (Nat × Nat)} {κ : Nat}, lk ρ κ = none → κ ∉ ρ.map (·.1)
  | [], _, _ => by simp
  | p :: ρ, κ, h => by
    simp only [lk] at h
    split at h
    · cases h
    · rename_i e
      simp only [List.map_cons, List.mem_cons, not_or]
      exact ⟨fun q => e q.symm, lk_none h⟩

/-- What a key stands for behind a renaming. -/
def inv (ρ : List (Nat × Nat)) : List (Nat × Nat) := ρ.map fun p => (p.2, p.1)

theorem mem_inv {ρ : List (Nat × Nat)} {x y : Nat} : (x, y) ∈ inv ρ ↔ (y, x) ∈ ρ := by
  simp only [inv, List.mem_map, Prod.mk.injEq]
  constructor
  · rintro ⟨p, hp, rfl, rfl⟩; exact hp
  · intro h; exact ⟨_, h, rfl, rfl⟩

theorem inv_fst (ρ : List (Nat × Nat)) : (inv ρ).map (·.1) = ρ.map (·.2) := by simp [inv]

def back (φ : Nat → Bd) (ρ : List (Nat × Nat)) (ψ : Nat → Bd) : Nat → Bd := fun k => match lk (inv ρ) k with
  | some κ => φ κ
  | none => ψ k

theorem back_of {ρ : List (Nat × Nat)} {ψ : Nat → Bd} (h2 : (ρ.map (·.2)).Nodup) {κ k : Nat} (h : (κ, k) ∈ ρ) : back φ ρ ψ k = φ κ := by
  unfold back
  rw [lk_of_mem (by rw [inv_fst]; exact h2) (mem_inv.2 h)]

mutual
theorem VR.ren {ρ : List (Nat × Nat)} {ψ : Nat → Bd} (hp : ∀ p ∈ ρ, ψ p.2 = φ p.1) : ∀ {v : AV} {x : Value}, VR w f φ v x → VR w f ψ (renV ρ v) x
  | _, _, .top v => .top v
  | _, _, .int k n => .int k n
  | _, _, .bool b => .bool b
  | _, _, .agg l vs h => by simp only [renV]; exact .agg _ vs (VRs.ren hp h)
  | _, _, .tup l vs h => by simp only [renV]; exact .tup _ vs (VRs.ren hp h)
  | _, _, .fn g l vs h => by simp only [renV]; exact .fn g _ vs (VRs.ren hp h)
  | _, _, .sl b t l A n c hn h => .sl b t l A n c hn h
  | _, _, .xs b t l A n h => .xs b t l A n h
  | _, _, .ep b' cs off us g o h hc => by simp only [renV]; exact .ep b' _ off us g o (VRs.ren hp h) hc
  | _, _, .nil e t => .nil e t
  | _, _, .emp z t A c h => .emp z t A c h
  | _, _, .row κ' => by
    simp only [renV]
    split
    · rename_i k hk
      have := VR.row (w := w) (f := f) (φ := ψ) k
      rwa [hp _ (lk_mem hk)] at this
    · exact .top _
  | _, _, .rp κ' i off g n c h hi => by
    simp only [renV]
    split
    · rename_i k hk
      have hq := hp _ (lk_mem hk)
      have := VR.rp (w := w) (f := f) (φ := ψ) k i off g n c (by rw [hq]; exact h) hi
      rwa [hq] at this
    · exact .top _
  | _, _, .ptr κ' off g h => by
    simp only [renV]
    split
    · rename_i k hk
      exact .ptr k off g (by rw [hp _ (lk_mem hk)]; exact h)
    · exact .top _
theorem VRs.ren {ρ : List (Nat × Nat)} {ψ : Nat → Bd} (hp : ∀ p ∈ ρ, ψ p.2 = φ p.1) : ∀ {l : List AV} {xs : List Value}, VRs w f φ l xs → VRs w f ψ (renV.renL ρ l) xs
  | _, _, .nil => .nil
  | _, _, .cons v l x xs h hs => .cons _ _ x xs (VR.ren hp h) (VRs.ren hp hs)
end

theorem renL_map (ρ : List (Nat × Nat)) : ∀ l : List AV, renV.renL ρ l = l.map (renV ρ)
  | [] => rfl
  | v :: l => by simp [renV.renL, renL_map ρ l]

theorem OR.ren {ρ : List (Nat × Nat)} {ψ : Nat → Bd} (hp : ∀ p ∈ ρ, ψ p.2 = φ p.1) {κ k : Nat} (hk : ψ k = φ κ) {ob : OB} (h : OR w f φ κ ob) : OR w f ψ k (renO ρ ob) := by
  cases ob with
  | box cs =>
    obtain ⟨g, t, vs, hv, h0, hh, hvs, hF⟩ := h
    refine ⟨g, t, vs, by rw [hk]; exact hv, h0, hh, ?_, hF⟩
    rw [← renL_map]
    exact hvs.ren hp
  | row e t els sn =>
    obtain ⟨xs, hown, hsz, hrl, hF⟩ := h
    exact ⟨xs, by rw [hk]; exact hown, by rw [hk]; exact hsz, hrl, by rw [hk]; exact hF⟩

/-! ### kills of many -/
def killsV (ks : List Nat) (v : AV) : AV := ks.foldr killV v
def killsO (ks : List Nat) (o : OB) : OB := ks.foldr OB.kill o

theorem getT_kills (ks : List Nat) (tm : List TE) (t : Nat) : getT (ks.map .kill ++ tm) t = killsV ks (getT tm t) := by
  induction ks with
  | nil => rfl
  | cons k ks ih => simp only [List.map_cons, List.cons_append, getT, ih]; rfl
theorem getO_kills (ks : List Nat) (ob : List OE) (κ : Nat) : getO (ks.map .kill ++ ob) κ = (getO ob κ).map (killsO ks) := by
  induction ks with
  | nil => show getO ob κ = (getO ob κ).map (killsO []); cases getO ob κ <;> rfl
  | cons k ks ih => simp only [List.map_cons, List.cons_append, getO, ih, Option.map_map]; rfl

def mix (ks : List Nat) (φ ψ : Nat → Bd) : Nat → Bd := fun κ => if κ ∈ ks then ψ κ else φ κ
theorem mix_cons (k : Nat) (ks : List Nat) (φ ψ : Nat → Bd) : upd (mix ks φ ψ) k (ψ k) = mix (k :: ks) φ ψ := by
  funext κ
  simp only [upd, mix, List.mem_cons]
  by_cases h : κ = k
  · subst h; simp
  · simp [h]

theorem VR.killsM (ψ : Nat → Bd) : ∀ (ks : List Nat) {v : AV} {x : Value}, VR w f φ v x → VR w f (mix ks φ ψ) (killsV ks v) x
  | [], v, x, h => by
    have : mix [] φ ψ = φ := by funext κ; simp [mix]
    rw [this]; exact h
  | k :: ks, v, x, h => by
    rw [← mix_cons]
    exact (VR.killsM ψ ks h).kill k (ψ k)
theorem mix_eq {ks : List Nat} {ψ : Nat → Bd} (h : ∀ κ, κ ∉ ks → ψ κ = φ κ) : mix ks φ ψ = ψ := by
  funext κ
  unfold mix
  split
  · rfl
  · rename_i hn; exact (h κ hn).symm
theorem VR.kills {ks : List Nat} {ψ : Nat → Bd} (h : ∀ κ, κ ∉ ks → ψ κ = φ κ) {v : AV} {x : Value} (hv : VR w f φ v x) : VR w f ψ (killsV ks v) x := by
  have := hv.killsM ψ ks
  rwa [mix_eq h] at this
theorem VRs.kills {ks : List Nat} {ψ : Nat → Bd} (h : ∀ κ, κ ∉ ks → ψ κ = φ κ) : ∀ {l : List AV} {xs : List Value}, VRs w f φ l xs → VRs w f ψ (l.map (killsV ks)) xs
  | _, _, .nil => .nil
  | _, _, .cons v l x xs hv hs => .cons _ _ x xs (hv.kills h) (VRs.kills h hs)
theorem killsO_box : ∀ (ks : List Nat) (cs : List AV), killsO ks (.box cs) = .box (cs.map (killsV ks))
  | [], cs => by
    have : killsV [] = id := rfl
    simp [killsO, this]
  | k :: ks, cs => by
    have h : killsO (k :: ks) (.box cs) = OB.kill k (killsO ks (.box cs)) := rfl
    rw [h, killsO_box ks cs]
    simp only [OB.kill, List.map_map]
    rfl
theorem killsO_row : ∀ (ks : List Nat) (e : Nat) (t : Ty) (els : List t.den) (sn : Bool), killsO ks (.row e t els sn) = .row e t els sn
  | [], e, t, els, sn => rfl
  | k :: ks, e, t, els, sn => by
    have h : killsO (k :: ks) (.row e t els sn) = OB.kill k (killsO ks (.row e t els sn)) := rfl
    rw [h, killsO_row ks]
    rfl
theorem OR.kills {ks : List Nat} {ψ : Nat → Bd} (h : ∀ κ, κ ∉ ks → ψ κ = φ κ) {κ : Nat} (hκ : ψ κ = φ κ) {ob : OB} (ho : OR w f φ κ ob) : OR w f ψ κ (killsO ks ob) := by
  cases ob with
  | box cs =>
    obtain ⟨g, t, vs, hv, h0, hh, hvs, hF⟩ := ho
    rw [killsO_box]
    exact ⟨g, t, vs, by rw [hκ]; exact hv, h0, hh, hvs.kills h, hF⟩
  | row e t els sn =>
    obtain ⟨xs, hown, hsz, hrl, hF⟩ := ho
    rw [killsO_row]
    exact ⟨xs, by rw [hκ]; exact hown, by rw [hκ]; exact hsz, hrl, by rw [hκ]; exact hF⟩

/-! ### objects of some keys, named otherwise -/
theorem obsOf_go {ob : List OE} (ρ0 : List (Nat × Nat)) : ∀ {ρ : List (Nat × Nat)} {k : Nat} {o' : OB}, getO (ρ.filterMap fun p => (getO ob p.1).map fun o => OE.set p.2 (renO ρ0 o)) k = some o' →
    ∃ κ o, (κ, k) ∈ ρ ∧ getO ob κ = some o ∧ o' = renO ρ0 o
  | [], k, o', h => by simp [getO] at h
  | p :: ρ, k, o', h => by
    rw [List.filterMap_cons] at h
    cases hp : getO ob p.1 with
    | none =>
      simp only [hp, Option.map_none] at h
      obtain ⟨κ, o, h1, h2, h3⟩ := obsOf_go ρ0 h
      exact ⟨κ, o, List.mem_cons_of_mem _ h1, h2, h3⟩
    | some q =>
      simp only [hp, Option.map_some, getO] at h
      split at h
      · rename_i e
        subst e
        simp only [Option.some.injEq] at h
        exact ⟨p.1, q, List.mem_cons_self, hp, h.symm⟩
      · obtain ⟨κ, o, h1, h2, h3⟩ := obsOf_go ρ0 h
        exact ⟨κ, o, List.mem_cons_of_mem _ h1, h2, h3⟩
theorem obsOf_spec {ob : List OE} {ρ : List (Nat × Nat)} {k : Nat} {o' : OB} (h : getO (obsOf ob ρ) k = some o') : ∃ κ o, (κ, k) ∈ ρ ∧ getO ob κ = some o ∧ o' = renO ρ o := obsOf_go ρ h

theorem obsOf_back {ob : List OE} (ρ0 : List (Nat × Nat)) : ∀ {ρ : List (Nat × Nat)} {κ k : Nat} {o : OB}, (ρ.map (·.2)).Nodup → (κ, k) ∈ ρ → getO ob κ = some o →
    getO (ρ.filterMap fun p => (getO ob p.1).map fun o => OE.set p.2 (renO ρ0 o)) k = some (renO ρ0 o)
  | [], κ, k, o, _, h, _ => by simp at h
  | p :: ρ, κ, k, o, hn, h, ho => by
    simp only [List.map_cons, List.nodup_cons] at hn
    rw [List.filterMap_cons]
    rcases List.mem_cons.1 h with rfl | h
    · simp only [ho, Option.map_some, getO, if_true]
    · have hne : p.2 ≠ k := fun e => hn.1 (e ▸ List.mem_map.2 ⟨_, h, rfl⟩)
      cases hp : getO ob p.1 with
      | none => simp only [Option.map_none]; exact obsOf_back ρ0 hn.2 h ho
      | some q => simp only [Option.map_some, getO, if_neg hne]; exact obsOf_back ρ0 hn.2 h ho

/-- What else the caller has is hidden. -/
def Bs.hide (w0 : Bs) (φ : Nat → Bd) (s : St) (a : Act) (ks : List Nat) : Bs :=
  { w0 with
    ho := fun ψ κ o => w0.ho ψ κ o ∨ ψ = φ ∧ κ ∉ ks ∧ getO s.ob κ = some o
    hv := fun ψ v x => w0.hv ψ v x ∨ ψ = φ ∧ ∃ t, v = getT s.tm t ∧ x = a.tmps.getD t undef
    φ0 := triv }

theorem Rel.sub (h : Rel w0 F0 N s a w f φ) {ρ : List (Nat × Nat)} (h1 : (ρ.map (·.1)).Nodup) (h2 : (ρ.map (·.2)).Nodup) :
    RelO (w0.hide φ s a (ρ.map (·.1))) F0 (obsOf s.ob ρ) w f (back φ ρ triv) := by
  have hb : ∀ p ∈ ρ, back φ ρ triv p.2 = φ p.1 := fun p hp => back_of h2 hp
  refine ⟨fun t => .top _, fun k o' ho => ?_, fun k k' o o' g ho ho' hg hg' => ?_, h.n0, h.F0s, h.Fnew, h.Flt, h.below, rfl, rfl, fun k => ?_, fun ψ κ o ho => ?_, fun ψ κ' o' g ho hg k o hk => ?_, fun ψ v x hx => ?_, fun k g _ _ hk => ?_, Nat.zero_le _⟩
  · obtain ⟨κ, o, hm, hκ, rfl⟩ := obsOf_spec ho
    exact (h.ob κ o hκ).ren hb (hb _ hm)
  · obtain ⟨κ, q, hm, hκ, rfl⟩ := obsOf_spec ho
    obtain ⟨κ', q', hm', hκ', rfl⟩ := obsOf_spec ho'
    rw [hb _ hm] at hg
    rw [hb _ hm'] at hg'
    have := h.dis κ κ' q q' g hκ hκ' hg hg'
    subst this
    have e1 := lk_of_mem h1 hm
    rw [lk_of_mem h1 hm'] at e1
    simpa using e1.symm
  · unfold back
    split
    · exact h.one _
    · rfl
  · rcases ho with ho | ⟨rfl, _, ho⟩
    · exact h.hid ψ κ o ho
    · exact h.ob κ o ho
  · obtain ⟨κ, q, hm, hκ, rfl⟩ := obsOf_spec hk
    rw [hb _ hm]
    rcases ho with ho | ⟨rfl, hn, ho⟩
    · exact h.hdis ψ κ' o' g ho hg κ q hκ
    · intro he
      have := h.dis κ κ' q o' g hκ ho he hg
      subst this
      exact hn (List.mem_map.2 ⟨_, hm, rfl⟩)
  · rcases hx with hx | ⟨rfl, t, rfl, rfl⟩
    · exact h.hvs ψ v x hx
    · exact h.tm t
  · simp [Bs.hide, triv] at hk

/-- Less is hidden. -/
theorem RelO.show (w1 : Bs) {ob : List OE} (h : RelO w0 F0 ob w f φ) (hw : w1.toWorld = w0.toWorld) (ho : ∀ ψ κ o, w1.ho ψ κ o → w0.ho ψ κ o) (hv : ∀ ψ v x, w1.hv ψ v x → w0.hv ψ v x) (h0 : w1.φ0 = triv) : RelO w1 F0 ob w f φ :=
  ⟨h.tm, h.ob, h.dis, by rw [hw]; exact h.n0, h.F0s, by rw [hw]; exact h.Fnew, h.Flt, by rw [hw]; exact h.below, h.defers, h.size, h.one, fun ψ κ o q => h.hid ψ κ o (ho ψ κ o q), fun ψ κ' o' g q => h.hdis ψ κ' o' g (ho _ _ _ q), fun ψ v x q => h.hvs ψ v x (hv _ _ _ q),
    fun k g _ _ hk => by rw [h0] at hk; simp [triv] at hk, h.Nle⟩

theorem mem_keysOf : ∀ {ob : List OE} {k : Nat} {o : OB}, getO ob k = some o → k ∈ keysOf ob
  | [], k, o, h => by simp [getO] at h
  | .set κ q :: r, k, o, h => by
    simp only [getO] at h
    simp only [keysOf, List.mem_cons]
    split at h
    · rename_i e; exact .inl e.symm
    · exact .inr (mem_keysOf h)
  | .kill κ :: r, k, o, h => by
    simp only [getO] at h
    simp only [keysOf]
    cases hq : getO r k with
    | none => simp [hq] at h
    | some q => exact mem_keysOf hq
  | .snap κ :: r, k, o, h => by
    simp only [getO] at h
    simp only [keysOf]
    cases hq : getO r k with
    | none => simp [hq] at h
    | some q => exact mem_keysOf hq
  | .del κ :: r, k, o, h => by
    simp only [getO] at h
    simp only [keysOf]
    split at h
    · cases h
    · exact mem_keysOf h

theorem getO_setsOf (ρ : List (Nat × Nat)) (ks : List Nat) (base : Nat) (rest : List OE) : ∀ {ob : List OE} {κ : Nat} {o : OB}, getO (setsOf ρ ks base ob ++ rest) κ = some o →
    (∃ k q, OE.set k q ∈ ob ∧ κ = bk ks base k ∧ o = renO ρ q) ∨ ((∀ k ∈ keysOf ob, bk ks base k ≠ κ) ∧ getO rest κ = some o)
  | [], κ, o, h => .inr ⟨by simp [keysOf], h⟩
  | .set k q :: r, κ, o, h => by
    simp only [setsOf, List.cons_append, getO] at h
    split at h
    · rename_i e
      simp only [Option.some.injEq] at h
      exact .inl ⟨k, q, List.mem_cons_self, e.symm, h.symm⟩
    · rename_i hne
      rcases getO_setsOf ρ ks base rest h with ⟨k', q', h1, h2, h3⟩ | ⟨h1, h2⟩
      · exact .inl ⟨k', q', List.mem_cons_of_mem _ h1, h2, h3⟩
      · refine .inr ⟨fun k' hk' => ?_, h2⟩
        simp only [keysOf, List.mem_cons] at hk'
        rcases hk' with rfl | hk'
        · exact hne
        · exact h1 k' hk'
  | .kill k :: r, κ, o, h => by
    rcases getO_setsOf ρ ks base rest (ob := r) h with ⟨k', q', h1, h2, h3⟩ | h1
    · exact .inl ⟨k', q', List.mem_cons_of_mem _ h1, h2, h3⟩
    · exact .inr h1
  | .snap k :: r, κ, o, h => by
    rcases getO_setsOf ρ ks base rest (ob := r) h with ⟨k', q', h1, h2, h3⟩ | h1
    · exact .inl ⟨k', q', List.mem_cons_of_mem _ h1, h2, h3⟩
    · exact .inr h1
  | .del k :: r, κ, o, h => by
    rcases getO_setsOf ρ ks base rest (ob := r) h with ⟨k', q', h1, h2, h3⟩ | h1
    · exact .inl ⟨k', q', List.mem_cons_of_mem _ h1, h2, h3⟩
    · exact .inr h1

theorem getO_set_mem : ∀ {ob : List OE} {k : Nat} {q : OB}, setOnly ob = true → (keysOf ob).Nodup → OE.set k q ∈ ob → getO ob k = some q
  | [], _, _, _, _, h => by simp at h
  | .set κ o :: r, k, q, hs, hn, h => by
    simp only [keysOf, List.nodup_cons] at hn
    simp only [getO]
    rcases List.mem_cons.1 h with e | h
    · simp only [OE.set.injEq] at e
      obtain ⟨rfl, rfl⟩ := e
      simp
    · have h' := getO_set_mem (ob := r) hs hn.2 h
      rw [if_neg, h']
      rintro rfl
      exact hn.1 (mem_keysOf h')
  | .kill _ :: _, _, _, hs, _, _ => by simp [setOnly] at hs
  | .snap _ :: _, _, _, hs, _, _ => by simp [setOnly] at hs
  | .del _ :: _, _, _, hs, _, _ => by simp [setOnly] at hs

theorem getO_dels (ks : List Nat) (ob : List OE) (κ : Nat) : getO (ks.map .del ++ ob) κ = if κ ∈ ks then none else getO ob κ := by
  induction ks with
  | nil => simp
  | cons k ks ih =>
    simp only [List.map_cons, List.cons_append, getO, ih, List.mem_cons]
    by_cases hk : k = κ
    · subst hk; simp
    · rw [if_neg hk]; simp [show ¬ κ = k from fun e => hk e.symm]

theorem mem_freshK {ks : List Nat} {base : Nat} : ∀ {l : List Nat} {k : Nat}, k ∈ l → ¬ (1000000 ≤ k ∧ k < 1000000 + ks.length) → base + k ∈ freshK ks base l
  | [], k, h, _ => by simp at h
  | x :: l, k, h, hk => by
    simp only [freshK]
    rcases List.mem_cons.1 h with rfl | h
    · rw [if_neg hk]; exact List.mem_cons_self
    · split
      · exact mem_freshK h hk
      · exact List.mem_cons_of_mem _ (mem_freshK h hk)

theorem nodup_of_map {α β : Type} {f : α → β} : ∀ {l : List α}, (l.map f).Nodup → l.Nodup
  | [], _ => List.nodup_nil
  | x :: l, h => by
    simp only [List.map_cons, List.nodup_cons] at h ⊢
    exact ⟨fun q => h.1 (List.mem_map.2 ⟨x, q, rfl⟩), nodup_of_map h.2⟩

theorem inj_of_map {α β : Type} {f : α → β} : ∀ {l : List α}, (l.map f).Nodup → ∀ {x y : α}, x ∈ l → y ∈ l → f x = f y → x = y
  | [], _, x, y, h, _, _ => by simp at h
  | z :: l, h, x, y, hx, hy, e => by
    simp only [List.map_cons, List.nodup_cons] at h
    rcases List.mem_cons.1 hx with hx1 | hx1 <;> rcases List.mem_cons.1 hy with hy1 | hy1
    · rw [hx1, hy1]
    · exact absurd (List.mem_map.2 ⟨y, hy1, by rw [← e, hx1]⟩) h.1
    · exact absurd (List.mem_map.2 ⟨x, hx1, by rw [e, hy1]⟩) h.1
    · exact inj_of_map h.2 hx1 hy1 e

/-- Behind a call: the caller's own frame again. -/
theorem Rel.afterI (h : Rel w0 F0 N s a w f φ) {ks : List Nat} (hks : ks.Nodup) (hl : ks.length < 1000) (hsome : ∀ κ ∈ ks, (getO s.ob κ).isSome = true) {base : Nat} (hbase : 10000000 ≤ base)
    {ob2 : List OE} (hso : setOnly ob2 = true) {w' : World} {f' : Fr} {φ' : Nat → Bd}
    (h' : RelO (w0.hide φ s a ks) F0 ob2 w' f' φ') (hkeep : ∀ i (hi : i < ks.length) cs, getO s.ob ks[i] = some (.box cs) → 1000000 + i ∈ keysOf ob2 → φ' (1000000 + i) = φ ks[i])
    (hnd : (((keysOf ob2).map fun k => (k, bk ks base k)).map (·.2)).Nodup) :
    ∃ ψ, Rel w0 F0 N (s.afterI ks base ((keysOf ob2).map fun k => (k, bk ks base k)) ob2) a w' f' ψ ∧ ∀ v x, VR w' f' φ' v x → VR w' f' ψ (renV ((keysOf ob2).map fun k => (k, bk ks base k)) v) x := by
  generalize hρ : (keysOf ob2).map (fun k => (k, bk ks base k)) = ρ at hnd ⊢
  have hbk : ((keysOf ob2).map (bk ks base)).Nodup := by rw [← hρ, List.map_map] at hnd; exact hnd
  have hkn : (keysOf ob2).Nodup := nodup_of_map hbk
  have hmem : ∀ {k k'}, (k, k') ∈ ρ ↔ k ∈ keysOf ob2 ∧ k' = bk ks base k := by
    intro k k'
    rw [← hρ]
    simp only [List.mem_map, Prod.mk.injEq]
    constructor
    · rintro ⟨x, hx, rfl, rfl⟩; exact ⟨hx, rfl⟩
    · rintro ⟨hx, rfl⟩; exact ⟨k, hx, rfl, rfl⟩
  -- what the keys stand for
  let ψ := back φ' ρ φ
  have hψ : ∀ p ∈ ρ, ψ p.2 = φ' p.1 := fun p hp => back_of hnd hp
  have hψn : ∀ κ, (∀ k ∈ keysOf ob2, bk ks base k ≠ κ) → ψ κ = φ κ := by
    intro κ hκ
    show back φ' ρ φ κ = φ κ
    unfold back
    split
    · rename_i k hk
      have := hmem.1 (mem_inv.1 (lk_mem hk))
      exact absurd this.2.symm (hκ k this.1)
    · rfl
  -- keys that are not killed stand for the same
  have hkl : ∀ κ, κ ∉ (ks.filter fun κ => !isBox (getO s.ob κ)) ++ freshK ks base (keysOf ob2) → ψ κ = φ κ := by
    intro κ hκ
    simp only [List.mem_append, List.mem_filter, not_or, not_and] at hκ
    by_cases hex : ∃ k ∈ keysOf ob2, bk ks base k = κ
    · obtain ⟨k, hk, hbke⟩ := hex
      have hψk := hψ (k, bk ks base k) (hmem.2 ⟨hk, rfl⟩)
      simp only at hψk
      rw [hbke] at hψk
      by_cases hr : 1000000 ≤ k ∧ k < 1000000 + ks.length
      · have hi : k - 1000000 < ks.length := by omega
        have hbe : bk ks base k = ks[k - 1000000] := by
          unfold bk
          rw [if_pos hr]
          simp [List.getD_eq_getElem?_getD, hi]
        have hin : κ ∈ ks := by rw [← hbke, hbe]; exact List.getElem_mem hi
        have hb : isBox (getO s.ob κ) = true := by
          have := hκ.1 hin
          simpa using this
        have : ∃ cs, getO s.ob κ = some (.box cs) := by
          revert hb
          unfold isBox
          split
          · rename_i cs hq; intro _; exact ⟨cs, hq⟩
          · intro q; cases q
        obtain ⟨cs, hcs⟩ := this
        have e1 : ks[k - 1000000] = κ := by rw [← hbe, hbke]
        have hk2 := hkeep (k - 1000000) hi cs (by rw [e1]; exact hcs) (by rw [show 1000000 + (k - 1000000) = k by omega]; exact hk)
        rw [show 1000000 + (k - 1000000) = k by omega, e1] at hk2
        rw [hψk, hk2]
      · have : bk ks base k = base + k := by unfold bk; rw [if_neg hr]
        exact absurd (mem_freshK (base := base) hk hr) (by rw [← this, hbke]; exact hκ.2)
    · exact hψn κ fun k hk e => hex ⟨k, hk, e⟩
  -- objects
  have cls : ∀ κ o, getO (s.afterI ks base ρ ob2).ob κ = some o → (∃ k q, getO ob2 k = some q ∧ k ∈ keysOf ob2 ∧ κ = bk ks base k ∧ o = renO ρ q) ∨
      ((∀ k ∈ keysOf ob2, bk ks base k ≠ κ) ∧ κ ∉ ks ∧ ∃ q, getO s.ob κ = some q ∧ o = killsO ((ks.filter fun κ => !isBox (getO s.ob κ)) ++ freshK ks base (keysOf ob2)) q) := by
    intro κ o ho
    simp only [St.afterI] at ho
    rcases getO_setsOf ρ ks base _ ho with ⟨k, q, h1, h2, h3⟩ | ⟨h1, h2⟩
    · have h4 := getO_set_mem hso hkn h1
      exact .inl ⟨k, q, h4, mem_keysOf h4, h2, h3⟩
    · rw [getO_dels] at h2
      split at h2
      · cases h2
      · rename_i hn
        rw [getO_kills] at h2
        cases hq : getO s.ob κ with
        | none => simp [hq] at h2
        | some q =>
          rw [hq] at h2
          simp only [Option.map_some, Option.some.injEq] at h2
          exact .inr ⟨h1, hn, q, rfl, h2.symm⟩
  have hidden : ∀ κ q, κ ∉ ks → getO s.ob κ = some q → (w0.hide φ s a ks).ho φ κ q := fun κ q hn hq => .inr ⟨rfl, hn, hq⟩
  refine ⟨ψ, ⟨fun t => ?_, fun κ o ho => ?_, fun κ κ' o o' g ho ho' hg hg' => ?_, h'.n0, h'.F0s, h'.Fnew, h'.Flt, h'.below, h.defers, h.size, fun κ => ?_, fun ψ' κ o ho => h'.hid ψ' κ o (.inl ho), fun ψ' κ' o' g ho hg κ o hκ => ?_,
    fun ψ' v x hx => h'.hvs ψ' v x (.inl hx), fun κ g h1 h2 h3 => ?_, h.Nle⟩, fun v x hv => hv.ren hψ⟩
  · show VR w' f' ψ (getT (_ ++ s.tm) t) _
    rw [getT_kills]
    exact (h'.hvs φ _ _ (.inr ⟨rfl, t, rfl, rfl⟩)).kills hkl
  · rcases cls κ o ho with ⟨k, q, h1, h2, rfl, rfl⟩ | ⟨h1, h2, q, h3, rfl⟩
    · exact (h'.ob k q h1).ren hψ (hψ (k, bk ks base k) (hmem.2 ⟨h2, rfl⟩))
    · exact (h'.hid φ κ q (hidden κ q h2 h3)).kills hkl (hψn κ h1)
  · rcases cls κ o ho with ⟨k, q, h1, h2, rfl, rfl⟩ | ⟨h1, h2, q, h3, rfl⟩
    · rw [hψ (k, bk ks base k) (hmem.2 ⟨h2, rfl⟩)] at hg
      rcases cls κ' o' ho' with ⟨k', q', h1', h2', rfl, rfl⟩ | ⟨h1', h2', q', h3', rfl⟩
      · rw [hψ (k', bk ks base k') (hmem.2 ⟨h2', rfl⟩)] at hg'
        rw [h'.dis k k' q q' g h1 h1' hg hg']
      · rw [hψn κ' h1'] at hg'
        exact absurd hg (h'.hdis φ κ' q' g (hidden κ' q' h2' h3') hg' k q h1)
    · rw [hψn κ h1] at hg
      rcases cls κ' o' ho' with ⟨k', q', h1', h2', rfl, rfl⟩ | ⟨h1', h2', q', h3', rfl⟩
      · rw [hψ (k', bk ks base k') (hmem.2 ⟨h2', rfl⟩)] at hg'
        exact absurd hg' (h'.hdis φ κ q g (hidden κ q h2 h3) hg k' q' h1')
      · rw [hψn κ' h1'] at hg'
        exact h.dis κ κ' q q' g h3 h3' hg hg'
  · show (back φ' ρ φ κ).v.oneCell' = true
    unfold back
    split
    · exact h'.one _
    · exact h.one κ
  · rcases cls κ o hκ with ⟨k, q, h1, h2, rfl, rfl⟩ | ⟨h1, h2, q, h3, rfl⟩
    · rw [hψ (k, bk ks base k) (hmem.2 ⟨h2, rfl⟩)]
      exact h'.hdis ψ' κ' o' g (.inl ho) hg k q h1
    · rw [hψn κ h1]
      exact h.hdis ψ' κ' o' g ho hg κ q h3
  · have hφ := h.bx κ g h1 h2 h3
    rw [← hφ]
    refine hkl κ ?_
    simp only [List.mem_append, List.mem_filter, not_or, not_and]
    refine ⟨fun hin => ?_, fun hin => ?_⟩
    · have := hsome κ hin
      cases hq : getO s.ob κ with
      | none => rw [hq] at this; cases this
      | some q =>
        cases q with
        | box cs => simp [isBox]
        | row e t els sn =>
          obtain ⟨_, hown, _⟩ := h.ob κ _ hq
          rw [hφ, h3] at hown
          rcases hown.2 with ⟨h4, _⟩ | ⟨_, _, _, h4, _⟩ <;> cases h4
    · have : ∀ l : List Nat, ∀ x ∈ freshK ks base l, base ≤ x := by
        intro l
        induction l with
        | nil => intro x hx; simp [freshK] at hx
        | cons y l ih =>
          intro x hx
          simp only [freshK] at hx
          split at hx
          · exact ih x hx
          · rcases List.mem_cons.1 hx with rfl | hx
            · omega
            · exact ih x hx
      have := this _ κ hin
      omega
end
end Go.Proofs.Ytbcijglbinaioaa.Ev
