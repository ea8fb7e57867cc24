/- The evaluator: functions. -/
import Derived.Test.YtbcijglbinaioaaEv16
set_option linter.unusedVariables false
set_option linter.unusedSimpArgs false
set_option linter.unusedSectionVars false
set_option linter.unnecessarySimpa false
namespace Go.Proofs.Ytbcijglbinaioaa.Ev
open Go.RowKit Go.Shelf
section
variable {P : Program} {w0 : Bs} {F0 : Nat → Nat → Prop} {N : Nat} {s : St} {a : Act} {w : World} {f : Fr} {φ : Nat → Bd} {R : Type} {E : Env} {r : R}

theorem argT_ok {w : World} {f : Fr} {φ : Nat → Bd} (tmps : Array Value) : ∀ (args : List AV) (vs : List Value) (j : Nat), VRs w f φ args vs → (∀ i (h : i < vs.length), tmps.getD (j + i) undef = vs[i]) → ∀ t, VR w f φ (getT (argT j args) t) (tmps.getD t undef)
  | _, _, j, .nil, _, t => .top _
  | _, _, j, .cons v l x xs hv hs, h, t => by
    simp only [argT, getT]
    split
    · rename_i e
      subst e
      have := h 0 (by simp)
      simp only [Nat.add_zero, List.getElem_cons_zero] at this
      rw [this]
      exact hv
    · exact argT_ok tmps l xs (j + 1) hs (fun i hi => by
        have := h (i + 1) (by simpa using hi)
        rw [show j + 1 + i = j + (i + 1) by omega, this]
        simp) t

def rvRun (tmps : Array Value) : ResultVar → Sem Value
  | .tmp t => pure (tmps.getD t undef)
  | .cell c t => do loadVar t (← asAddr (tmps.getD c undef))

theorem results_ok (hD : DOk P E.D) (h : Rel w0 F0 N s a w f φ) : ∀ (l : List ResultVar) (vs : List AV), resOf E.D s l = some vs →
    ∃ xs, (l.mapM (rvRun a.tmps)).run P w = .ok xs w ∧ VRs w f φ vs xs
  | [], vs, hv => by
    simp only [resOf, Option.some.injEq] at hv
    subst hv
    exact ⟨[], by simp, .nil⟩
  | .tmp t :: l, vs, hv => by
    simp only [resOf] at hv
    split at hv <;> try contradiction
    rename_i us hl
    simp only [Option.some.injEq] at hv
    subst hv
    obtain ⟨xs, h1, h2⟩ := results_ok hD h l us hl
    exact ⟨_ :: xs, by simp only [List.mapM_cons, rvRun, Sem.run_bind, Sem.run_pure, Result.andThen_ok, h1], .cons _ _ _ _ (h.tm t) h2⟩
  | .cell c t :: l, vs, hv => by
    simp only [resOf] at hv
    split at hv <;> try contradiction
    rename_i d us hd hl
    obtain ⟨xs, h1, h2⟩ := results_ok hD h l us hl
    split at hv <;> try contradiction
    rename_i κ off hc
    split at hv <;> try contradiction
    rename_i cs hob
    split at hv <;> try contradiction
    rename_i hoff
    simp only [Option.some.injEq] at hv
    subst hv
    have hvc := h.tm c
    rw [hc] at hvc
    obtain ⟨g, hg1, hg2⟩ := hvc.ptrv
    obtain ⟨tt, us', hh, hvs, _⟩ := (h.ob κ _ hob).boxv hg2
    obtain ⟨x, hx, hxv⟩ := load_ok (P := P) (hD _ _ hd) hvs (g := g) (o := 0) (fun i hi => by
      rw [Nat.zero_add, cell_of_row w g i us' tt (0, 0) hh]; simp) hoff
    rw [Nat.zero_add] at hx
    have e1 : (rvRun a.tmps (.cell c t)).run P w = .ok x w := by simp only [rvRun, Sem.run_bind, hg1, asAddr, Sem.run_pure, Result.andThen_ok, hx]
    refine ⟨x :: xs, ?_, .cons _ _ _ _ hxv h2⟩
    rw [List.mapM_cons, Sem.run_bind]
    rw [e1, Result.andThen_ok, Sem.run_bind, h1]
    rfl

/-- A function's run: 'av' is the one value that K answers so. -/
theorem evF_sound (hm : P.follows .mixedOrders = true) (hD : DOk P E.D) (hT : EOk P E) {C : Cfg} {lp : Lp R} {g : Nat} {fn : Func} {c : Code} {args : List AV} {K : AV → Option R} {x : R} {av : AV}
    (hf : P.funcs[g]? = some fn) (hb : fn.body = some c) (hok : (codeOk C fn.ntmps c && (decide (fn.ntmps ≤ 900000) && decide (args.length ≤ 900000))) = true) (hinv : ∀ v, K v = some x → v = av) (hl : ∀ p ∈ loopsIn c 0, LpGood E C lp p) (hK : evF E C lp fn args K = some x) : Sound P g args av := by
  intro w F0 vs hF0 hvs
  simp only [Bool.and_eq_true, decide_eq_true_eq] at hok
  obtain ⟨hok, hsz1, hsz2⟩ := hok
  have hargl := (hvs triv).len
  refine calls_of_wp hf hb ?_
  unfold evF at hK
  rw [hb] at hK
  simp only [] at hK
  have φ0 : Nat → Bd := fun _ => ⟨.int .i64 0, 0⟩
  obtain ⟨φ0, hφ0⟩ : ∃ φ : Nat → Bd, ∀ κ, (φ κ).v.oneCell' = true := ⟨fun _ => ⟨.int .i64 0, 0⟩, fun _ => rfl⟩
  have hsz : (vs.toArray ++ Array.replicate (fn.ntmps - vs.toArray.size) undef).size = vs.length + (fn.ntmps - vs.length) := by simp
  have h0 : Rel { w with ho := fun _ _ _ => False, hv := fun _ _ _ => False, φ0 := triv } F0 (vs.length + (fn.ntmps - vs.length)) { tm := argT 0 args, ob := [] } { tmps := vs.toArray ++ Array.replicate (fn.ntmps - vs.toArray.size) undef, defers := [] } w ⟨w.heap.size, F0⟩ φ0 := by
    refine ⟨fun t => argT_ok _ args vs 0 (hvs φ0) (fun i hi => ?_) t, fun κ o ho => by simp [getO] at ho, fun κ κ' o o' g ho => by simp [getO] at ho, rfl, fun _ _ q => q, fun _ _ q => .inl q, hF0, Below.refl _ _, rfl, hsz, hφ0, fun _ _ _ h => h.elim, fun _ _ _ _ h => h.elim, fun _ _ _ h => h.elim, fun κ g _ _ h => by simp [triv] at h, by omega⟩
    rw [Nat.zero_add, Array.getD_eq_getD_getElem?, Array.getElem?_append_left (by simpa using hi)]
    simp [hi]
  refine evC_sound hm hD hT (m := fn.ntmps) (by omega) c hok 0 hl _ _ w _ _ _ _ h0 hK fun e s' a' w' f' φ' hr hk => ?_
  have fin : (match resOf E.D s' fn.results.toList with
      | some [v] => K (frz s'.ob 3 v)
      | some l => K (.tup (l.map (frz s'.ob 3)))
      | none => none) = some x → a'.defers = [] ∧ ∃ v, (results fn a'.tmps).run P w' = .ok v w' ∧ Left w F0 av (.returned v) w' := by
    intro hk
    refine ⟨hr.defers, ?_⟩
    cases hres : resOf E.D s' fn.results.toList with
    | none => rw [hres] at hk; simp at hk
    | some us =>
      rw [hres] at hk
      obtain ⟨xs, hx1, hx2⟩ := results_ok hD hr _ us hres
      obtain ⟨hrel, hFz⟩ := hr.snapAll (us.flatMap (frzKeys s'.ob 3))
      have hlen := hx2.len
      have hfr : ∀ n0' φ'', VRs w' ⟨n0', (frozenOf f' φ' s'.ob (us.flatMap (frzKeys s'.ob 3))).F⟩ φ'' (us.map (frz s'.ob 3)) xs := by
        intro n0' φ''
        have hk1 : FKeeps w' w' f' (frozenOf f' φ' s'.ob (us.flatMap (frzKeys s'.ob 3))) := ⟨rfl, fun g o q => .inl q, fun _ _ _ _ q => q⟩
        refine VRs.mapS _ (hx2.keeps hk1) fun v' hv' x' hx' => ?_
        have := frz_ok0 (f := frozenOf f' φ' s'.ob (us.flatMap (frzKeys s'.ob 3))) (φ := φ') φ'' n0' 3 (s'.snapAll (us.flatMap (frzKeys s'.ob 3))).ob hrel.ob v' x' hx' (by
          intro κ hκ
          rw [frzKeys_ob _ s'.ob] at hκ
          exact (hFz κ (List.mem_flatMap.2 ⟨v', hv', hκ⟩)).snaps)
        rw [St.snapAll] at this
        rw [frz_snaps] at this
        exact this
      have hrun : (results fn a'.tmps).run P w' = .ok (if h : xs.toArray.size = 1 then xs.toArray[0] else .tuple xs.toArray) w' := by
        unfold results
        have key : ∀ F : ResultVar → Sem Value, (∀ x, F x = rvRun a'.tmps x) → (fn.results.mapM F).run P w' = .ok xs.toArray w' := by
          intro F hF
          rw [show F = rvRun a'.tmps from funext hF, Array.mapM_eq_mapM_toList, Sem.run_map, hx1]
          rfl
        rw [Sem.run_bind, key _ (by intro x; cases x <;> rfl)]
        rfl
      refine ⟨_, hrun, _, rfl, ?_, (frozenOf f' φ' s'.ob (us.flatMap (frzKeys s'.ob 3))).F, hrel.F0s, hrel.Fnew, hrel.Flt, fun n0' φ'' => ?_⟩
      · exact hr.below
      · have hv := hfr n0' φ''
        rcases us with _ | ⟨u, _ | ⟨u', us⟩⟩
        · have := hinv _ hk
          subst this
          have : xs = [] := List.eq_nil_of_length_eq_zero hlen.symm
          subst this
          exact .tup [] [] .nil
        · have := hinv _ hk
          subst this
          rcases xs with _ | ⟨y, _ | ⟨y', ys⟩⟩ <;> simp at hlen
          cases hv with
          | cons _ _ _ _ h1 _ => exact h1
        · have := hinv _ hk
          subst this
          rw [dif_neg (by simp only [List.length_cons] at hlen; simp; omega)]
          exact .tup _ _ hv
  cases e with
  | normal => exact fin hk
  | ret => exact fin hk
  | exit id => simp at hk

theorem leaves_ok {w : World} {f : Fr} {φ : Nat → Bd} : ∀ {us : List AV} {xs : List Value}, VRs w f φ us xs → ∃ ys, VRs w f φ (leavesOf us) ys ∧
    ∀ {f' : Fr} {φ' : Nat → Bd} {ls : List AV} {zs : List Value}, VRs w f' φ' ls (ys ++ zs) → VRs w f' φ' (regroup us ls) xs
  | _, _, .nil => ⟨[], .nil, fun _ => .nil⟩
  | _, _, .cons v l x xs hv hs => by
    obtain ⟨ys, h1, h2⟩ := leaves_ok hs
    have single : (∀ cs, v ≠ .agg cs) → ∃ ys, VRs w f φ (leavesOf (v :: l)) ys ∧ ∀ {f' : Fr} {φ' : Nat → Bd} {ls : List AV} {zs : List Value}, VRs w f' φ' ls (ys ++ zs) → VRs w f' φ' (regroup (v :: l) ls) (x :: xs) := by
      intro hne
      refine ⟨x :: ys, ?_, fun {f' φ' ls zs} h => ?_⟩
      · have e : leavesOf (v :: l) = v :: leavesOf l := by
          cases v <;> first | rfl | (rename_i cs; exact absurd rfl (hne cs))
        rw [e]
        exact .cons _ _ _ _ hv h1
      · have e : regroup (v :: l) ls = ls.headD .top :: regroup l ls.tail := by
          cases v <;> first | rfl | (rename_i cs; exact absurd rfl (hne cs))
        rw [e]
        cases h with
        | cons u us y zs' hu hus => exact .cons _ _ _ _ hu (h2 hus)
    cases hv with
    | agg cs vs hcs =>
      refine ⟨vs ++ ys, hcs.append h1, fun {f' φ' ls zs} h => ?_⟩
      rw [List.append_assoc] at h
      have hl := hcs.len
      have ht := h.take cs.length
      have hd := h.drop cs.length
      rw [hl, List.take_left] at ht
      rw [hl, List.drop_left] at hd
      rw [← hl] at ht hd
      exact .cons _ _ _ _ (.agg _ vs ht) (h2 hd)
    | top => exact single (by simp)
    | int => exact single (by simp)
    | bool => exact single (by simp)
    | tup => exact single (by simp)
    | fn => exact single (by simp)
    | sl _ _ _ _ _ _ h1 h2 => exact single (by simp)
    | xs _ _ _ _ _ h1 => exact single (by simp)
    | ep _ _ _ _ _ _ h1 h2 => exact single (by simp)
    | nil => exact single (by simp)
    | emp => exact single (by simp)
    | row => exact single (by simp)
    | rp => exact single (by simp)
    | ptr => exact single (by simp)

theorem oneV_ok {w : World} {f : Fr} {φ : Nat → Bd} {us : List AV} {xs : List Value} (h : VRs w f φ us xs) : VR w f φ (oneV us) (if h : xs.toArray.size = 1 then xs.toArray[0] else .tuple xs.toArray) := by
  have hl := h.len
  rcases us with _ | ⟨u, _ | ⟨u', us⟩⟩
  · have : xs = [] := List.eq_nil_of_length_eq_zero hl.symm
    subst this
    exact .tup [] [] .nil
  · rcases xs with _ | ⟨y, _ | ⟨y', ys⟩⟩ <;> simp at hl
    cases h with
    | cons _ _ _ _ h1 _ => exact h1
  · rw [dif_neg (by simp only [List.length_cons] at hl; simp; omega)]
    exact .tup _ _ h

def inRange (l : List Nat) : Bool := l.all fun k => decide (1000000 ≤ k) && decide (k < 1001000)

/-- A function that turns what it is handed. -/
theorem evFI_sound (hm : P.follows .mixedOrders = true) (hD : DOk P E.D) (hT : EOk P E) {C : Cfg} {lp : Lp R} {g : Nat} {fn : Func} {c : Code} {modes : List (Nat × CM)} {cms : List (Nat × Nat × CM)} {args : List AV} {obs : List OE} {K : AV → List OE → Option R} {x : R} {av : AV} {ob2 : List OE}
    (hf : P.funcs[g]? = some fn) (hb : fn.body = some c) (hok : (codeOk C fn.ntmps c && (decide (fn.ntmps ≤ 900000) && decide (args.length ≤ 900000)) && inRange (keysOf obs)) = true) (hinv : ∀ v ob, K v ob = some x → v = av ∧ ob = ob2) (hl : ∀ p ∈ loopsIn c 0, LpGood E C lp p) (hK : evFI E C lp fn modes cms args obs K = some x) : SoundI P g args obs av ob2 := by
  intro w0 F0 w f φ vs htriv h hvs
  simp only [Bool.and_eq_true, decide_eq_true_eq] at hok
  obtain ⟨⟨hok, hsz1, hsz2⟩, hrange⟩ := hok
  have hargl := hvs.len
  refine calls_of_wp hf hb ?_
  unfold evFI at hK
  rw [hb] at hK
  simp only [] at hK
  have hsz : (vs.toArray ++ Array.replicate (fn.ntmps - vs.toArray.size) undef).size = vs.length + (fn.ntmps - vs.length) := by simp
  let w1 : Bs := { w0 with φ0 := fun κ => if isBox (getO obs κ) = true then φ κ else ⟨.int .i64 0, 0⟩ }
  have h0 : Rel w1 F0 (vs.length + (fn.ntmps - vs.length)) { tm := argT 0 args, ob := obs } { tmps := vs.toArray ++ Array.replicate (fn.ntmps - vs.toArray.size) undef, defers := [] } w f φ := by
    refine ⟨fun t => argT_ok _ args vs 0 hvs (fun i hi => ?_) t, h.ob, h.dis, h.n0, h.F0s, h.Fnew, h.Flt, h.below, rfl, hsz, h.one, h.hid, h.hdis, h.hvs, fun κ g _ _ hk => ?_, by omega⟩
    · rw [Nat.zero_add, Array.getD_eq_getD_getElem?, Array.getElem?_append_left (by simpa using hi)]
      simp [hi]
    · show φ κ = if isBox (getO obs κ) = true then φ κ else ⟨.int .i64 0, 0⟩
      split
      · rfl
      · rename_i hnb
        have hk' : (if isBox (getO obs κ) = true then φ κ else (⟨.int .i64 0, 0⟩ : Bd)).v = .pointer (some ⟨g, 0, none⟩) := hk
        rw [if_neg hnb] at hk'
        cases hk'
  refine evC_sound hm hD hT (m := fn.ntmps) (by omega) c hok 0 hl _ _ w _ _ _ _ h0 hK fun e s' a' w' f' φ' hr hk => ?_
  have fin : (match resOf E.D s' fn.results.toList with
      | some us =>
        let s2 := Live.turnO (Live.turn { tm := argT 0 (leavesOf us), ob := s'.ob } modes) cms
        let ls := (List.range (leavesOf us).length).map (getT s2.tm)
        let ks := reachK s2.ob 100 (keysOf obs ++ ls.flatMap keysV) []
        let ρ := ((keysOf obs).filter fun κ => memN κ ks).map (fun κ => (κ, κ)) ++ (newKs (keysOf obs) ks).zipIdx 2000000
        if nodupN (ρ.map (·.1)) && (nodupN (ρ.map (·.2)) && decide (ls.length ≤ 1000)) then K (renV ρ (oneV (regroup us ls))) (obsOf s2.ob ρ) else none
      | none => none) = some x → a'.defers = [] ∧ ∃ v, (results fn a'.tmps).run P w' = .ok v w' ∧
        (∃ v' f' φ', Ending.returned v = .returned v' ∧ RelO w0 F0 ob2 w' f' φ' ∧ VR w' f' φ' av v' ∧ ∀ k cs, getO obs k = some (.box cs) → k ∈ keysOf ob2 → φ' k = φ k) := by
    intro hk
    refine ⟨hr.defers, ?_⟩
    cases hres : resOf E.D s' fn.results.toList with
    | none => rw [hres] at hk; simp at hk
    | some us =>
      rw [hres] at hk
      obtain ⟨xs, hx1, hx2⟩ := results_ok hD hr _ us hres
      have hrun : (results fn a'.tmps).run P w' = .ok (if h : xs.toArray.size = 1 then xs.toArray[0] else .tuple xs.toArray) w' := by
        unfold results
        have key : ∀ F : ResultVar → Sem Value, (∀ x, F x = rvRun a'.tmps x) → (fn.results.mapM F).run P w' = .ok xs.toArray w' := by
          intro F hF
          rw [show F = rvRun a'.tmps from funext hF, Array.mapM_eq_mapM_toList, Sem.run_map, hx1]
          rfl
        rw [Sem.run_bind, key _ (by intro x; cases x <;> rfl)]
        rfl
      refine ⟨_, hrun, ?_⟩
      obtain ⟨ys, hy1, hy2⟩ := leaves_ok hx2
      have hyl := hy1.len
      simp only [] at hk
      generalize hs2 : Live.turnO (Live.turn { tm := argT 0 (leavesOf us), ob := s'.ob } modes) cms = s2 at hk
      split at hk <;> try contradiction
      rename_i hnd
      simp only [Bool.and_eq_true, nodupN_iff, decide_eq_true_eq] at hnd
      obtain ⟨rfl, rfl⟩ := hinv _ _ hk
      generalize hls : (List.range (leavesOf us).length).map (getT s2.tm) = ls at hnd ⊢
      generalize hks : reachK s2.ob 100 (keysOf obs ++ ls.flatMap keysV) [] = ks at hnd ⊢
      generalize hρ : ((keysOf obs).filter fun κ => memN κ ks).map (fun κ => (κ, κ)) ++ (newKs (keysOf obs) ks).zipIdx 2000000 = ρ at hnd ⊢
      -- the leaves as a frame
      have hlen : ls.length = ys.length := by rw [← hls, ← hyl]; simp
      have hr1 : Rel w1 F0 ys.length { tm := argT 0 (leavesOf us), ob := s'.ob } { tmps := ys.toArray, defers := [] } w' f' φ' :=
        ⟨fun t => argT_ok _ _ ys 0 hy1 (fun i hi => by rw [Nat.zero_add, Array.getD_eq_getD_getElem?]; simp [hi]) t, hr.ob, hr.dis, hr.n0, hr.F0s, hr.Fnew, hr.Flt, hr.below, rfl, by simp, hr.one, hr.hid, hr.hdis, hr.hvs, hr.bx, by have := hnd.2.2; omega⟩
      obtain ⟨f1, φ1, hr2⟩ := Rel.turn modes hr1
      obtain ⟨f2, φ2, hr2⟩ := Rel.turnO cms hr2
      rw [hs2] at hr2
      have hsub := hr2.sub hnd.1 hnd.2.1
      have hbk : ∀ p ∈ ρ, back φ2 ρ triv p.2 = φ2 p.1 := fun p hp => back_of hnd.2.1 hp
      have hvals : VRs w' f2 φ2 ls (ys ++ []) := by
        rw [List.append_nil, ← hls, hyl]
        have : ∀ (zs : List Value) (j : Nat), (∀ i (h : i < zs.length), VR w' f2 φ2 (getT s2.tm (j + i)) zs[i]) → VRs w' f2 φ2 ((List.range' j zs.length).map (getT s2.tm)) zs := by
          intro zs
          induction zs with
          | nil => intro j _; exact .nil
          | cons z zs ih =>
            intro j hz
            rw [List.length_cons, List.range'_succ, List.map_cons]
            refine .cons _ _ _ _ (hz 0 (by simp)) (ih (j + 1) fun i hi => ?_)
            have := hz (i + 1) (by simpa using hi)
            rwa [show j + (i + 1) = j + 1 + i by omega] at this
        rw [List.range_eq_range']
        refine this ys 0 fun i hi => ?_
        have h1 := hr2.tm i
        rw [Array.getD_eq_getD_getElem?] at h1
        simp only [List.getElem?_toArray, List.getElem?_eq_getElem hi, Option.getD_some] at h1
        rw [Nat.zero_add]
        exact h1
      refine ⟨_, f2, back φ2 ρ triv, rfl, hsub.show w0 rfl (fun ψ κ o q => .inl q) (fun ψ v x q => .inl q) htriv, (oneV_ok (hy2 hvals)).ren hbk, fun k cs hko hk2 => ?_⟩
      have hkr : 1000000 ≤ k ∧ k < 1001000 := by
        have := mem_keysOf hko
        unfold inRange at hrange
        rw [List.all_eq_true] at hrange
        have := hrange k this
        simpa using this
      have hmem : ∀ (ρ1 : List (Nat × Nat)), k ∈ keysOf (ρ1.filterMap fun p => (getO s2.ob p.1).map fun o => OE.set p.2 (renO ρ o)) → ∃ κ, (κ, k) ∈ ρ1 := by
        intro ρ1
        induction ρ1 with
        | nil => intro h; simp [keysOf] at h
        | cons p ρ1 ih =>
          intro h
          rw [List.filterMap_cons] at h
          cases hp : getO s2.ob p.1 with
          | none =>
            simp only [hp, Option.map_none] at h
            obtain ⟨κ, hκ⟩ := ih h
            exact ⟨κ, List.mem_cons_of_mem _ hκ⟩
          | some q =>
            simp only [hp, Option.map_some, keysOf, List.mem_cons] at h
            rcases h with h | h
            · exact ⟨p.1, by rw [h]; exact List.mem_cons_self⟩
            · obtain ⟨κ, hκ⟩ := ih h
              exact ⟨κ, List.mem_cons_of_mem _ hκ⟩
      obtain ⟨κ, hκ⟩ := hmem ρ hk2
      have hkk : κ = k := by
        have h1 := hκ
        rw [← hρ, List.mem_append] at h1
        rcases h1 with h1 | h1
        · simp only [List.mem_map, Prod.mk.injEq] at h1
          obtain ⟨y, _, rfl, rfl⟩ := h1
          rfl
        · have := List.le_snd_of_mem_zipIdx h1
          simp only at this
          omega
      subst hkk
      rw [hbk _ hκ]
      obtain ⟨g, t, vs', hv, _⟩ := h.ob κ _ hko
      have hib : isBox (getO obs κ) = true := by rw [hko]; rfl
      have hb2 := hr2.bx κ g hkr.1 hkr.2 (by
        show (if isBox (getO obs κ) = true then φ κ else (⟨.int .i64 0, 0⟩ : Bd)).v = _
        rw [if_pos hib]
        exact hv)
      rw [hb2]
      show (if isBox (getO obs κ) = true then φ κ else (⟨.int .i64 0, 0⟩ : Bd)) = φ κ
      rw [if_pos hib]
  cases e with
  | normal => exact fin hk
  | ret => exact fin hk
  | exit id => simp at hk
end
end Go.Proofs.Ytbcijglbinaioaa.Ev
