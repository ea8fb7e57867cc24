/- The evaluator: all of 'evO'. -/
import Derived.Test.YtbcijglbinaioaaEv13i
set_option linter.unusedVariables false
set_option linter.unusedSimpArgs false
set_option linter.unusedSectionVars false
set_option linter.unnecessarySimpa false
namespace Go.Proofs.Ytbcijglbinaioaa.Ev
open Go.RowKit Go.Shelf
section
variable {P : Program} {w0 : Bs} {F0 : Nat → Nat → Prop} {N : Nat} {s : St} {a : Act} {w : World} {f : Fr} {φ : Nat → Bd} {R : Type} {E : Env} {o : Oper} {K : St → Option R} {r : R}

/-- What is handed reads as it is told. -/
theorem hand_ok (ob : List OE) (hob : ∀ κ o, getO ob κ = some o → OR w f φ κ o) : ∀ (n : Nat) (tok : Bool) (v : AV) (x : Value), VR w f φ v x → (tok = false → ∀ κ ∈ handKeys n tok v, Fz f φ ob κ) → VR w f φ (hand ob n tok v) x
  | 0, _, _, _, _, _ => .top _
  | n + 1, tok, v, x, hv, hz => by
    cases hv with
    | top => exact .top _
    | int k m => exact .int k m
    | bool b => exact .bool b
    | agg l vs hs =>
      refine .agg _ vs (VRs.mapS _ hs fun v' hv' x' hx' => hand_ok ob hob n tok v' x' hx' fun ht κ hκ => hz ht κ ?_)
      simp only [handKeys, List.mem_flatMap]
      exact ⟨v', hv', hκ⟩
    | tup l vs hs => exact .top _
    | fn g l vs hs => exact .fn g _ vs (VRs.mapS _ hs fun v' hv' x' hx' => hand_ok ob hob n true v' x' hx' fun ht => by cases ht)
    | sl b t l A m c hn hr => exact .sl b t l A m c hn hr
    | xs b t l A m hr => exact .sl b t l A m m (Nat.le_refl _) hr
    | ep b cs off us g o hs hc => exact .ep b _ off us g o hs hc
    | nil e t =>
      simp only [hand]
      split
      · exact .nil e t
      · exact .sl _ t [] none 0 0 (Nat.le_refl _) ⟨rfl, Nat.zero_le _, fun j hj => absurd hj (by simp)⟩
    | emp z t A c hz' => exact .sl _ t [] A 0 c (Nat.zero_le _) ⟨rfl, Nat.zero_le _, fun j hj => absurd hj (by simp)⟩
    | row κ =>
      simp only [hand]
      split
      · exact .row κ
      · rename_i htok
        have htok : tok = false := by simpa using htok
        split
        · rename_i e t els sn ho
          obtain ⟨xs, hown, hsz, hrl, hF⟩ := hob κ _ ho
          have hz' := hz htok κ (by simp [handKeys, htok]) _ _ _ _ ho
          obtain ⟨A, c, hv, hnc, hrs⟩ := row_RS (p := f.ok false) hown hrl fun g hg o ho => .inl (hz' g hg o ho)
          rw [hv]
          exact .sl false t els A _ c hnc (hrs.keeps ⟨fun _ _ _ _ h => h, fun _ _ h => h⟩ fun _ _ hr => hr.keeps (Fok false))
        · exact .top _
    | rp κ i off g n c h1 h2 => exact .rp κ i off g n c h1 h2
    | ptr κ off g h1 => exact .ptr κ off g h1

theorem hand_snaps (ks : List Nat) (ob : List OE) : ∀ (n : Nat) (tok : Bool), hand (ks.map .snap ++ ob) n tok = hand ob n tok
  | 0, _ => rfl
  | n + 1, tok => by
    funext v
    cases v <;> simp only [hand]
    · rw [hand_snaps ks ob n]
    · rw [hand_snaps ks ob n]
    · rename_i κ
      have hs := getO_snaps ks ob κ
      split
      · rfl
      · cases hg : getO ob κ with
        | none => rw [hs, hg]; split <;> (rename_i h; simp at h) <;> rfl
        | some o =>
          rw [hs, hg]
          by_cases hm : κ ∈ ks
          · rw [if_pos hm]; cases o <;> rfl
          · rw [if_neg hm]

theorem handKeys_retype (n : Nat) (tok : Bool) (p : Option Ty) (v : AV) : handKeys n tok (retypeO p v) = handKeys n tok v := by
  cases p with
  | none => rfl
  | some t => cases v <;> cases n <;> rfl

theorem handVs_ok (h : Rel w0 F0 N s a w f φ) : ∀ (xs : List Operand) (ps : List (Option Ty)) (ms : List Bool), (∀ κ ∈ handKs s xs ms, Fz f φ s.ob κ) → VRs w f φ (handVs s xs ps ms) (xs.map a.eval)
  | [], ps, ms, _ => .nil
  | x :: r, ps, ms, hz => by
    simp only [handKs, List.mem_append] at hz
    exact .cons _ _ _ _ (hand_ok s.ob h.ob 4 _ _ _ (retypeO_ok (h.ev x)) fun _ κ hκ => hz κ (.inl (by rwa [handKeys_retype] at hκ))) (handVs_ok h r ps.tail ms.tail fun κ hκ => hz κ (.inr hκ))

theorem renHand (ρ : List (Nat × Nat)) {l : List AV} {xs : List Value} {ψ : Nat → Bd} (hp : ∀ p ∈ ρ, ψ p.2 = φ p.1) (h : VRs w f φ l xs) : VRs w f ψ (l.map (renV ρ)) xs := by
  rw [← renL_map]
  exact h.ren hp

theorem zip_nodup : ∀ (l : List Nat) (m : Nat), ((l.zipIdx m).map (·.2)).Nodup
  | [], m => by simp
  | x :: l, m => by
    simp only [List.zipIdx_cons, List.map_cons, List.nodup_cons]
    refine ⟨fun h => ?_, zip_nodup l (m + 1)⟩
    obtain ⟨p, hp, he⟩ := List.mem_map.1 h
    have := List.le_snd_of_mem_zipIdx hp
    omega

/-- A call of a function that turns what it is handed. -/
theorem goes_callI (h : Rel w0 F0 N s a w f φ) (hd : ∀ d, o.dst = some d → d < N) {c : Call} {x : Operand} {g : Nat} {caps : List AV} {ci : CallI} (ho : o.op = .call c) (hcal : c.callee = .value x) (hx : s.ev x = .fn g caps) {hs : List AV}
    (hhs : ∀ vs, VRs w f φ caps vs → VRs w f φ hs (c.args.toList.map a.eval ++ vs)) (hen : Enters P g)
    (hrun : ∀ (args : List AV) (obs : List OE) (x : ci.Res), ci.val args obs = some x → SoundI P g args obs (ci.av x).1 (ci.av x).2) (hK : s.callI ci o.dst hs K = some r) : Goes P w0 F0 N K r o a w := by
  intro next Q hn
  have hfx := h.ev x
  rw [hx] at hfx
  obtain ⟨vs, hxv, hcaps⟩ := hfx.fnv
  have hargs := hhs vs hcaps
  unfold St.callI at hK
  simp only at hK
  generalize hks : reachK s.ob 100 (hs.flatMap keysV) [] = ks at hK
  split at hK <;> try contradiction
  rename_i hc
  simp only [Bool.and_eq_true, decide_eq_true_eq, List.all_eq_true] at hc
  obtain ⟨⟨hnd, hlen⟩, hsome⟩ := hc
  rw [nodupN_iff] at hnd
  obtain ⟨y, hy, hK⟩ := Option.bind_eq_some_iff.1 hK
  split at hK <;> try contradiction
  rename_i hnd2
  have hz1 : (ks.zipIdx 1000000).map (·.1) = ks := by simp
  have hz2 := zip_nodup ks 1000000
  have hsub := h.sub (ρ := ks.zipIdx 1000000) (by rw [hz1]; exact hnd) hz2
  rw [hz1] at hsub
  have hbk : ∀ p ∈ ks.zipIdx 1000000, back φ (ks.zipIdx 1000000) triv p.2 = φ p.1 := fun p hp => back_of hz2 hp
  have hcalls := hrun _ _ _ hy (w0.hide φ s a ks) F0 w f _ _ rfl hsub (renHand (ks.zipIdx 1000000) hbk hargs)
  have hval : (c.args.toList.map a.eval ++ vs).toArray = c.args.map a.eval ++ vs.toArray := by
    apply Array.ext'
    simp
  rw [hval] at hcalls
  unfold Oper.wp
  have hexec : (execOp a.eval o).run P w = .ok (.enter g (c.args.map a.eval ++ vs.toArray)) w := by
    have := hen (c.args.map a.eval ++ vs.toArray) w
    simp [execOp, ho, resolve, hcal, hxv, Deferred.ofValue, invoke, this]
  rw [hexec, Oper.upon_enter]
  refine hcalls.mono fun e w' ⟨v, f', φ', he, hrel, hv, hkeep⟩ => ?_
  subst he
  -- what comes back bears settings alone
  have hso : setOnly (ci.av y).2 = true := by
    simp only [Bool.and_eq_true] at hnd2
    exact hnd2.2
  obtain ⟨ψ, hr, hvr⟩ := h.afterI hnd hlen hsome (base := 10000000 * (o.dst.getD 0 + 1)) (by omega) hso hrel (fun i hi cs hcs hkm => by
      have hm : (ks[i], 1000000 + i) ∈ ks.zipIdx 1000000 := by
        rw [List.mk_mem_zipIdx_iff_le_and_getElem?_sub]
        simp
      have := hkeep (1000000 + i) _ (obsOf_back (ks.zipIdx 1000000) hz2 hm hcs) hkm
      rw [this, hbk _ hm]) (by simp only [Bool.and_eq_true] at hnd2; exact nodupN_iff.1 hnd2.1)
  exact hn _ _ _ _ _ (hr.put o.dst hd (hvr _ _ hv)) hK

theorem o_call (h : Rel w0 F0 N s a w f φ) (hT : EOk P E) (hd : ∀ d, o.dst = some d → d < N) {c : Call} {x : Operand} (ho : o.op = .call c) (hcal : c.callee = .value x) (hK : evO E s o K = some r) : Goes P w0 F0 N K r o a w := by
  unfold evO at hK
  simp only [ho, hcal] at hK
  split at hK <;> try contradiction
  rename_i g caps hx
  split at hK
  · rename_i ce hce
    obtain ⟨hen, hrun⟩ := hT.1 g ce hce
    obtain ⟨x0, hx0, hK'⟩ := Option.bind_eq_some_iff.1 hK
    have hs := hrun _ _ hx0
    obtain ⟨hrel, hFz⟩ := h.snapAll ((c.args.toList.map s.ev).flatMap (snaps s.ob 6) ++ caps.flatMap (snaps s.ob 6))
    intro next Q hn
    have hev : ∀ ks x, (s.snapAll ks).ev x = s.ev x := fun ks x => by cases x <;> rfl
    have hevm : ∀ ks, (s.snapAll ks).ev = s.ev := fun ks => funext (hev ks)
    have hav : ∀ ks xs ps, argVs (s.snapAll ks) xs ps = argVs s xs ps := by
      intro ks xs
      induction xs with
      | nil => intro ps; cases ps <;> rfl
      | cons x xs ih =>
        intro ps
        have hc : conv (s.snapAll ks).ob 6 = conv s.ob 6 := conv_snaps ks s.ob 6
        cases ps with
        | nil => simp only [argVs, hc, hev, ih]
        | cons p ps => simp only [argVs, hc, hev, ih]
    refine goes_call hrel hd ho hcal (caps := caps) (ps := ce.params) (ret := ce.av x0) (by rw [hev]; exact hx) ?_ hen ?_ next Q fun a' w' f' φ' hr => hn _ _ _ _ _ hr hK'
    · intro κ hκ
      refine (hFz κ ?_).snaps
      rw [hevm] at hκ
      have hsn : ∀ ks, snaps (s.snapAll ks).ob 6 = snaps s.ob 6 := fun ks => snaps_snaps ks s.ob 6
      rw [hsn] at hκ
      exact hκ
    · rw [hav]
      have hc : ∀ ks, conv (s.snapAll ks).ob 6 = conv s.ob 6 := fun ks => conv_snaps ks s.ob 6
      rw [hc]
      exact hs
  · split at hK <;> try contradiction
    rename_i ci hci
    obtain ⟨hen, hrun⟩ := hT.2 g ci hci
    obtain ⟨hrel, hFz⟩ := h.snapAll (handKs s c.args.toList ci.toks)
    have hev : ∀ ks x, (s.snapAll ks).ev x = s.ev x := fun ks x => by cases x <;> rfl
    have hhv : ∀ ks xs ps ms, handVs (s.snapAll ks) xs ps ms = handVs s xs ps ms := by
      intro ks xs
      induction xs with
      | nil => intro ps ms; rfl
      | cons x xs ih =>
        intro ps ms
        have hc : ∀ b, hand (s.snapAll ks).ob 4 b = hand s.ob 4 b := fun b => hand_snaps ks s.ob 4 b
        simp only [handVs, hc, hev, ih]
    have hhk : ∀ ks xs ms, handKs (s.snapAll ks) xs ms = handKs s xs ms := by
      intro ks xs
      induction xs with
      | nil => intro ms; rfl
      | cons x xs ih =>
        intro ms
        simp only [handKs, hev, ih]
    refine goes_callI hrel hd ho hcal (caps := caps) (by rw [hev]; exact hx) (fun vs hvs => ?_) hen hrun hK
    rw [← hhv (handKs s c.args.toList ci.toks)]
    refine (handVs_ok hrel _ _ _ fun κ hκ => ?_).append (VRs.mapS _ hvs fun v' _ x' hx' => ?_)
    · rw [hhk] at hκ
      exact (hFz κ hκ).snaps
    · have := hand_ok _ hrel.ob 4 true v' x' hx' (fun ht => by cases ht)
      rwa [St.snapAll, hand_snaps] at this

theorem evO_sound (hD : DOk P E.D) (hT : EOk P E) (h : Rel w0 F0 N s a w f φ) (hd : ∀ d, o.dst = some d → d < N) (hK : evO E s o K = some r) : Goes P w0 F0 N K r o a w := by
  cases hop : o.op with
  | alloc t => cases hdst : o.dst with
    | none => unfold evO at hK; simp only [hop, hdst] at hK; unfold evQ at hK; simp only [hop] at hK; contradiction
    | some d => exact o_alloc hD h hd hop hdst hK
  | box t x => cases hdst : o.dst with
    | none => unfold evO at hK; simp only [hop, hdst] at hK; unfold evQ at hK; simp only [hop] at hK; contradiction
    | some d => exact o_box hD h hd hop hdst hK
  | store t x y => cases hdst : o.dst with
    | none => exact o_store hD h hop hdst hK
    | some d => unfold evO at hK; simp only [hop, hdst] at hK; unfold evQ at hK; simp only [hop] at hK; contradiction
  | buildSlice t n parts => cases hdst : o.dst with
    | none => unfold evO at hK; simp only [hop, hdst] at hK; unfold evQ at hK; simp only [hop] at hK; contradiction
    | some d => exact o_buildSlice hD h hd hop hdst hK
  | slice t x lo hi mx => cases hdst : o.dst with
    | none => refine o_evQ hD h hd ?_; unfold evO at hK; simp only [hop, hdst] at hK; rw [hdst]; exact hK
    | some d => exact o_slice hD h hd hop hdst hK
  | makeSlice t x y => cases hdst : o.dst with
    | none => unfold evO at hK; simp only [hop, hdst] at hK; unfold evQ at hK; simp only [hop] at hK; contradiction
    | some d => exact o_makeSlice hD h hd hop hdst hK
  | call c =>
    cases hcal : c.callee with
    | value x => exact o_call h hT hd hop hcal hK
    | invoke x n => refine o_evQ hD h hd ?_; unfold evO at hK; simpa only [hop, hcal] using hK
    | builtin b =>
      by_cases hb : b = .append
      · subst hb; exact o_append hD h hd hop hcal hK
      · refine o_evQ hD h hd ?_
        unfold evO at hK
        cases b <;> first
          | exact absurd rfl hb
          | simpa only [hop, hcal] using hK
  | _ => refine o_evQ hD h hd ?_; unfold evO at hK; simpa only [hop] using hK
end
end Go.Proofs.Ytbcijglbinaioaa.Ev
