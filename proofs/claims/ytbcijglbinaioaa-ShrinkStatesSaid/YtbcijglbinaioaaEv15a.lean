/- The evaluator: what an operation turns, told apart from the state. -/
import Derived.Test.YtbcijglbinaioaaEv15
set_option linter.unusedVariables false
set_option linter.unusedSimpArgs false
set_option linter.unusedSectionVars false
set_option linter.unnecessarySimpa false
namespace Go.Proofs.Ytbcijglbinaioaa.Ev
open Go.RowKit Go.Shelf
section
variable {P : Program} {w0 : Bs} {F0 : Nat → Nat → Prop} {N : Nat} {s : St} {a : Act} {w : World} {f : Fr} {φ : Nat → Bd} {R : Type} {E : Env} {o : Oper} {K : St → Option R} {r : R}

def effS (kl : List Nat) (u : AV) (δ : List OE) (s : St) (d : Option Nat) : St := St.put { tm := kl.map .kill ++ s.tm, ob := δ ++ s.ob } d u

/-- The operation does this in each state that looks so. -/
def EffV (E : Env) (s : St) (o : Oper) (kl : List Nat) (u : AV) (δ : List OE) : Prop :=
  ∀ s2 : St, s2.ob = s.ob → (∀ x ∈ o.op.operands, s2.ev x = s.ev x) → ∀ (R2 : Type) (K2 : St → Option R2), evO E s2 o K2 = K2 (effS kl u δ s2 o.dst)

def LocalO (R : Type) (E : Env) (s : St) (o : Oper) (K : St → Option R) (r : R) : Prop := ∃ kl u δ, EffV E s o kl u δ ∧ K (effS kl u δ s o.dst) = some r

theorem local_mk {kl : List Nat} {u : AV} {δ : List OE} (h : EffV E s o kl u δ) (hK : evO E s o K = some r) : LocalO R E s o K r :=
  ⟨kl, u, δ, h, by rw [← h s rfl (fun _ _ => rfl) R K]; exact hK⟩

theorem local_Q (hK : evQ E s o (fun v => K (s.put o.dst v)) = some r) (he : ∀ s2 : St, ∀ (R2 : Type) (K2 : St → Option R2), evO E s2 o K2 = evQ E s2 o fun v => K2 (s2.put o.dst v)) : LocalO R E s o K r := by
  rw [evQ_nat] at hK
  obtain ⟨u, hu, hK⟩ := Option.bind_eq_some_iff.1 hK
  refine ⟨[], u, [], fun s2 hob hev R2 K2 => ?_, hK⟩
  rw [he, evQ_nat, evQ_congr (s' := s) hev (fun _ _ _ _ => by rw [hob]), hu]
  rfl

theorem callI_local {ci : CallI} {d : Option Nat} {hs : List AV} (hK : s.callI ci d hs K = some r) : ∃ kl u δ, ∀ s2 : St, s2.ob = s.ob → ∀ (R2 : Type) (K2 : St → Option R2), s2.callI ci d hs K2 = K2 (effS kl u δ s2 d) := by
  unfold St.callI at hK
  simp only at hK
  generalize hks : reachK s.ob 100 (hs.flatMap keysV) [] = ks at hK
  split at hK <;> try contradiction
  rename_i hc
  obtain ⟨y, hy, hK⟩ := Option.bind_eq_some_iff.1 hK
  split at hK <;> try contradiction
  rename_i hc2
  refine ⟨(ks.filter fun κ => !isBox (getO s.ob κ)) ++ freshK ks (10000000 * (d.getD 0 + 1)) (keysOf (ci.av y).2), renV ((keysOf (ci.av y).2).map fun k => (k, bk ks (10000000 * (d.getD 0 + 1)) k)) (ci.av y).1,
    setsOf ((keysOf (ci.av y).2).map fun k => (k, bk ks (10000000 * (d.getD 0 + 1)) k)) ks (10000000 * (d.getD 0 + 1)) (ci.av y).2 ++ (ks.map .del ++ ((ks.filter fun κ => !isBox (getO s.ob κ)) ++ freshK ks (10000000 * (d.getD 0 + 1)) (keysOf (ci.av y).2)).map .kill), fun s2 hob R2 K2 => ?_⟩
  unfold St.callI
  simp only [hob, hks]
  rw [if_pos hc, hy]
  simp only [Option.bind_some]
  rw [if_pos hc2]
  simp only [St.afterI, effS, hob, List.append_assoc]

theorem evO_local (hK : evO E s o K = some r) : LocalO R E s o K r := by
  cases hop : o.op with
  | alloc t => cases hdst : o.dst with
    | none => unfold evO at hK; simp only [hop, hdst] at hK; unfold evQ at hK; simp only [hop] at hK; contradiction
    | some d =>
      have hK0 := hK
      unfold evO at hK
      simp only [hop, hdst] at hK
      split at hK <;> try contradiction
      rename_i td ht
      refine local_mk (kl := [d]) (u := .ptr d 0) (δ := [.set d (.box (td.zero.map (killV d))), .kill d]) (fun s2 hob hev R2 K2 => ?_) hK0
      unfold evO
      simp only [hop, hdst, ht]
      rfl
  | box t x => cases hdst : o.dst with
    | none => unfold evO at hK; simp only [hop, hdst] at hK; unfold evQ at hK; simp only [hop] at hK; contradiction
    | some d =>
      have hK0 := hK
      unfold evO at hK
      simp only [hop, hdst] at hK
      split at hK <;> try contradiction
      rename_i td ht
      split at hK <;> try contradiction
      rename_i hc
      refine local_mk (kl := [d]) (u := .ptr d 0) (δ := [.set d (.box ((retype E.D t (s.ev x)).cells.map (killV d))), .kill d]) (fun s2 hob hev R2 K2 => ?_) hK0
      have hx := hev x (by simp [hop, Op.operands])
      unfold evO
      simp only [hop, hdst, ht, hx]
      rw [if_pos hc]
      rfl
  | store t x y => cases hdst : o.dst with
    | some d => unfold evO at hK; simp only [hop, hdst] at hK; unfold evQ at hK; simp only [hop] at hK; contradiction
    | none =>
      have hK0 := hK
      unfold evO at hK
      simp only [hop, hdst] at hK
      split at hK <;> try contradiction
      rename_i td ht
      split at hK <;> try contradiction
      · rename_i κ off hx
        split at hK <;> try contradiction
        rename_i cs ho
        split at hK <;> try contradiction
        rename_i hc
        refine local_mk (kl := []) (u := .top) (δ := [.set κ (.box (cs.take off ++ (retype E.D t (s.ev y)).cells.zipWith evQ.nilAs ((cs.drop off).take td.size) ++ cs.drop (off + td.size)))]) (fun s2 hob hev R2 K2 => ?_) hK0
        have h1 := hev x (by simp [hop, Op.operands])
        have h2 := hev y (by simp [hop, Op.operands])
        unfold evO
        simp only [hop, hdst, ht, h1, h2, hx, hob, ho]
        rw [if_pos hc]
        simp only [effS, St.put, List.map_nil, List.nil_append, List.cons_append, hob]
      · rename_i κ i off hx
        split at hK <;> try contradiction
        rename_i e0 ty els sn ho
        split at hK <;> try contradiction
        rename_i hsn
        obtain ⟨e, he, hK⟩ := Option.bind_eq_some_iff.1 hK
        split at hK <;> try contradiction
        rename_i hc
        split at hK <;> try contradiction
        rename_i e' hdec
        refine local_mk (kl := []) (u := .top) (δ := .set κ (.row e0 ty (els.set i e') false) :: (frzKeys s.ob 3 (s.ev y)).map .snap) (fun s2 hob hev R2 K2 => ?_) hK0
        have h1 := hev x (by simp [hop, Op.operands])
        have h2 := hev y (by simp [hop, Op.operands])
        unfold evO
        simp only [hop, hdst, ht, h1, h2, hx, hob, ho]
        rw [if_neg hsn, he]
        simp only [Option.bind_some]
        rw [if_pos hc]
        simp only [hdec, St.snapAll, effS, St.put, List.map_nil, List.nil_append, List.cons_append, hob]
  | buildSlice t n parts => cases hdst : o.dst with
    | none => unfold evO at hK; simp only [hop, hdst] at hK; unfold evQ at hK; simp only [hop] at hK; contradiction
    | some d =>
      have hK0 := hK
      unfold evO at hK
      simp only [hop, hdst] at hK
      split at hK <;> try contradiction
      rename_i _ _ _ _ e ty ht
      split at hK <;> try contradiction
      rename_i td htd
      split at hK <;> try contradiction
      rename_i hc
      split at hK
      rotate_left 1
      · rename_i hnone
        obtain ⟨els, hel, hK⟩ := Option.bind_eq_some_iff.1 hK
        refine local_mk (kl := []) (u := .xs true ty els) (δ := []) (fun s2 hob hev R2 K2 => ?_) hK0
        have hp : (parts.toList.map fun p => (p.1, s2.ev p.2)) = (parts.toList.map fun p => (p.1, s.ev p.2)) :=
          List.map_congr_left fun p hm => by rw [hev p.2 (by rw [hop]; simp only [Op.operands, List.mem_toArray]; exact List.mem_map.2 ⟨p, hm, rfl⟩)]
        unfold evO
        simp only [hop, hdst, ht, htd]
        rw [if_pos hc, hp, hob, hnone]
        dsimp only
        rw [hel]
        rfl
      rename_i els hel
      refine local_mk (kl := [d]) (u := .row d) (δ := .set d (.row e ty els false) :: .kill d :: (parts.toList.flatMap fun p => frzKeys s.ob 3 (s.ev p.2)).map .snap) (fun s2 hob hev R2 K2 => ?_) hK0
      have hp : (parts.toList.map fun p => (p.1, s2.ev p.2)) = (parts.toList.map fun p => (p.1, s.ev p.2)) :=
        List.map_congr_left fun p hm => by rw [hev p.2 (by rw [hop]; simp only [Op.operands, List.mem_toArray]; exact List.mem_map.2 ⟨p, hm, rfl⟩)]
      have hf : (parts.toList.flatMap fun p => frzKeys s2.ob 3 (s2.ev p.2)) = (parts.toList.flatMap fun p => frzKeys s.ob 3 (s.ev p.2)) := by
        have := congrArg (List.flatMap fun p : Nat × AV => frzKeys s.ob 3 p.2) hp
        simpa [List.flatMap_map, hob] using this
      unfold evO
      simp only [hop, hdst, ht, htd]
      rw [if_pos hc, hp, hob, hel]
      rw [hob] at hf
      simp only [hf, St.snapAll, effS, St.new, St.put, List.map_cons, List.map_nil, List.nil_append, List.cons_append, hob]
  | slice t x lo hi mx => cases hdst : o.dst with
    | none => refine local_Q ?_ fun s2 R2 K2 => ?_
              · unfold evO at hK; simp only [hop, hdst] at hK; rw [hdst]; exact hK
              · unfold evO; simp only [hop, hdst]
    | some d =>
      have hK0 := hK
      have ox : x ∈ o.op.operands := by simp [hop, Op.operands]
      unfold evO at hK
      simp only [hop, hdst] at hK
      split at hK
      · rename_i κ hX
        split at hK <;> try contradiction
        rename_i _ _ _ _ _ _ _ _ _ e ty e' ty' els sn k n ht hob' hh
        split at hK <;> try contradiction
        rename_i he
        split at hK <;> try contradiction
        rename_i hsn
        cases hc : (decide (0 ≤ n) && decide (n.toNat ≤ els.length)) with
        | false => rw [hc] at hK; simp at hK
        | true =>
          refine local_mk (kl := [κ]) (u := .row κ) (δ := [.set κ (.row e ty (castL he.1 (els.take n.toNat)) false), .kill κ]) (fun s2 hob hev R2 K2 => ?_) hK0
          have hh2 : hi.map s2.ev = hi.map s.ev := by
            cases hi with
            | none => rfl
            | some q => simp only [Option.map_some]; rw [hev q (by simp [hop, Op.operands])]
          unfold evO
          simp only [hop, hdst, hev x ox, hX]
          rw [ht, hob, hob', hh2, hh]
          dsimp only
          rw [dif_pos he, if_neg hsn]
          simp only [hc, cond_true]
          rfl
      · rename_i hnr
        rw [evQ_nat] at hK
        obtain ⟨u, hu, hK⟩ := Option.bind_eq_some_iff.1 hK
        refine local_mk (kl := []) (u := u) (δ := []) (fun s2 hob hev R2 K2 => ?_) hK0
        have hq : ∀ (R3 : Type) (K3 : AV → Option R3), evQ E s2 o K3 = evQ E s o K3 := fun R3 K3 => evQ_congr (s' := s) hev (fun _ _ _ _ => by rw [hob]) K3
        have hnr' : ∀ κ, s2.ev x ≠ .row κ := fun κ e => hnr κ (by rw [← hev x ox]; exact e)
        unfold evO
        simp only [hop, hdst]
        rw [hq, evQ_nat, hu]
        rfl
  | makeSlice t x y => cases hdst : o.dst with
    | none => unfold evO at hK; simp only [hop, hdst] at hK; unfold evQ at hK; simp only [hop] at hK; contradiction
    | some d =>
      have hK0 := hK
      unfold evO at hK
      simp only [hop, hdst] at hK
      split at hK <;> try contradiction
      rename_i _ _ _ _ e ty ht
      split at hK <;> try contradiction
      rename_i n m hn hm
      cases hc : (decide (0 ≤ n) && (decide (n.toNat ≤ LIM) && (n == m))) with
      | false => rw [hc] at hK; simp at hK
      | true =>
        refine local_mk (kl := [d]) (u := .row d) (δ := [.set d (.row e ty (List.replicate n.toNat ty.zero) false), .kill d]) (fun s2 hob hev R2 K2 => ?_) hK0
        have h1 := hev x (by simp [hop, Op.operands])
        have h2 := hev y (by simp [hop, Op.operands])
        unfold evO
        simp only [hop, hdst, ht, h1, h2, hn, hm, hc, cond_true]
        rfl
  | call c =>
    cases hcal : c.callee with
    | value x =>
      have hK0 := hK
      unfold evO at hK
      simp only [hop, hcal] at hK
      split at hK <;> try contradiction
      rename_i g caps hx
      have opx : x ∈ o.op.operands := by simp [hop, Op.operands, Call.operands, hcal]
      have opa : ∀ y ∈ c.args.toList, y ∈ o.op.operands := fun y hy => by simp only [hop, Op.operands, Call.operands, Array.mem_append]; exact .inr (by simpa using hy)
      split at hK
      · rename_i ce hce
        obtain ⟨x0, hx0, hK⟩ := Option.bind_eq_some_iff.1 hK
        refine local_mk (kl := []) (u := ce.av x0) (δ := ((c.args.toList.map s.ev).flatMap (snaps s.ob 6) ++ caps.flatMap (snaps s.ob 6)).map .snap) (fun s2 hob hev R2 K2 => ?_) hK0
        have hm : c.args.toList.map s2.ev = c.args.toList.map s.ev := List.map_congr_left fun y hy => hev y (opa y hy)
        have hv : ∀ ps, argVs s2 c.args.toList ps = argVs s c.args.toList ps := fun ps => argVs_congr _ ps (fun y hy => hev y (opa y hy)) (fun _ _ _ _ => by rw [hob])
        unfold evO
        simp only [hop, hcal, hev x opx, hx, hce, hm, hv, hob, hx0, Option.bind_some]
        simp only [St.snapAll, effS, List.map_nil, List.nil_append, hob]
      · rename_i hnone
        split at hK <;> try contradiction
        rename_i ci hci
        -- a call of a function that turns objects
        have hh : ∀ (s2 : St), s2.ob = s.ob → (∀ y ∈ c.args.toList, s2.ev y = s.ev y) → handVs s2 c.args.toList ci.params ci.toks = handVs s c.args.toList ci.params ci.toks := by
          intro s2 hob
          generalize c.args.toList = l
          generalize ci.params = ps
          generalize ci.toks = ms
          induction l generalizing ps ms with
          | nil => intro _; rfl
          | cons y l ih => intro hl; simp only [handVs, hob, hl y (by simp), ih _ _ fun z hz => hl z (by simp [hz])]
        have hkk : ∀ (s2 : St), s2.ob = s.ob → (∀ y ∈ c.args.toList, s2.ev y = s.ev y) → handKs s2 c.args.toList ci.toks = handKs s c.args.toList ci.toks := by
          intro s2 hob
          generalize c.args.toList = l
          generalize ci.toks = ms
          induction l generalizing ms with
          | nil => intro _; rfl
          | cons y l ih => intro hl; simp only [handKs, hl y (by simp), ih _ fun z hz => hl z (by simp [hz])]
        obtain ⟨kl, u, δ, hcl⟩ := callI_local hK
        refine local_mk (kl := kl) (u := u) (δ := δ ++ (handKs s c.args.toList ci.toks).map .snap) (fun s2 hob hev R2 K2 => ?_) hK0
        unfold evO
        simp only [hop, hcal, hev x opx, hx, hnone, hci, hh s2 hob (fun y hy => hev y (opa y hy)), hkk s2 hob (fun y hy => hev y (opa y hy)), hob]
        rw [hcl (s2.snapAll (handKs s c.args.toList ci.toks)) (by simp only [St.snapAll, hob]) R2 K2]
        simp only [effS, St.snapAll, List.append_assoc]
    | invoke x n => refine local_Q ?_ fun s2 R2 K2 => ?_
                    · unfold evO at hK; simpa only [hop, hcal] using hK
                    · unfold evO; simp only [hop, hcal]
    | builtin b =>
      by_cases hb : b = .append
      · subst hb
        have hK0 := hK
        unfold evO at hK
        simp only [hop, hcal] at hK
        split at hK <;> try contradiction
        rename_i _ _ _ x y t t' d hargs htys hdst
        by_cases htt : t = t'
        rotate_left 1
        · rw [if_neg htt] at hK
          split at hK <;> try contradiction
          rename_i _ _ _ _ _ _ _ _ e ty _ _ _ _ k _ _ n ht ht' hX hY
          have ox : x ∈ o.op.operands := by simp only [hop, Op.operands, Call.operands, Array.mem_append]; exact .inr (by rw [← Array.mem_toList_iff, hargs]; simp)
          have oy : y ∈ o.op.operands := by simp only [hop, Op.operands, Call.operands, Array.mem_append]; exact .inr (by rw [← Array.mem_toList_iff, hargs]; simp)
          cases hc : (decide (0 < n) && decide (n.toNat ≤ LIM)) with
          | false => rw [hc] at hK; simp at hK
          | true =>
            refine local_mk (kl := [d]) (u := .row d) (δ := [.set d (.row e ty (List.replicate n.toNat ty.zero) false), .kill d]) (fun s2 hob hev R2 K2 => ?_) hK0
            unfold evO
            simp only [hop, hcal, hargs, htys, hdst]
            rw [if_neg htt, ht, ht', hev x ox, hev y oy, hX, hY]
            simp only [hc, cond_true]
            rfl
        rw [if_pos htt] at hK
        split at hK <;> try contradiction
        rename_i _ _ _ _ e ty ht
        split at hK <;> try contradiction
        rename_i src hsrc
        have ox : x ∈ o.op.operands := by simp only [hop, Op.operands, Call.operands, Array.mem_append]; exact .inr (by rw [← Array.mem_toList_iff, hargs]; simp)
        have oy : y ∈ o.op.operands := by simp only [hop, Op.operands, Call.operands, Array.mem_append]; exact .inr (by rw [← Array.mem_toList_iff, hargs]; simp)
        have red : ∀ s2 : St, ∀ (R2 : Type) (K2 : St → Option R2), s2.ob = s.ob → s2.ev y = s.ev y → evO E s2 o K2 = match s2.ev x with
            | .nil _ _ => bif decide (src.length ≤ LIM) then K2 ((s2.new d (.row e ty src false)).put (some d) (.row d)) else none
            | .row κ => match getO s2.ob κ with
              | some (.row e' ty' els sn) => if h : ty' = ty ∧ e' = e then
                  (bif decide (els.length + src.length ≤ LIM) then K2 ((s2.new κ (.row e ty (castL h.1 els ++ src) sn)).put (some d) (.row κ)) else none) else none
              | _ => none
            | .xs b ty' l => if b && !ty'.scal then none else if h : ty' = ty then (if isEmptyL src = false then
                  (bif decide (l.length + src.length ≤ LIM) then K2 ((s2.new d (.row e ty (castL h l ++ src) false)).put (some d) (.row d)) else none) else none) else none
            | _ => none := by
          intro s2 R2 K2 hob hy
          unfold evO
          simp only [hop, hcal, hargs, htys, hdst, htt, if_true]
          rw [← htt, ht]
          dsimp only
          rw [hob, hy, hsrc]
          rfl
        split at hK <;> try contradiction
        · rename_i hX
          cases hc : decide (src.length ≤ LIM) with
          | false => rw [hc] at hK; simp at hK
          | true =>
            refine local_mk (kl := [d]) (u := .row d) (δ := [.set d (.row e ty src false), .kill d]) (fun s2 hob hev R2 K2 => ?_) hK0
            rw [red s2 R2 K2 hob (hev y oy), hev x ox, hX]
            simp only [hc, cond_true, hdst]
            rfl
        · rename_i κ hX
          split at hK <;> try contradiction
          rename_i e' ty' els sn hob'
          split at hK <;> try contradiction
          rename_i hh
          cases hc : decide (els.length + src.length ≤ LIM) with
          | false => rw [hc] at hK; simp at hK
          | true =>
            refine local_mk (kl := [κ]) (u := .row κ) (δ := [.set κ (.row e ty (castL hh.1 els ++ src) sn), .kill κ]) (fun s2 hob hev R2 K2 => ?_) hK0
            rw [red s2 R2 K2 hob (hev y oy), hev x ox, hX]
            dsimp only
            rw [hob, hob']
            dsimp only
            rw [dif_pos hh]
            simp only [hc, cond_true, hdst]
            rfl
        · rename_i b' ty' l hX
          split at hK <;> try contradiction
          rename_i hbs
          split at hK <;> try contradiction
          rename_i hh
          split at hK <;> try contradiction
          rename_i hemp
          cases hc : decide (l.length + src.length ≤ LIM) with
          | false => rw [hc] at hK; simp at hK
          | true =>
            refine local_mk (kl := [d]) (u := .row d) (δ := [.set d (.row e ty (castL hh l ++ src) false), .kill d]) (fun s2 hob hev R2 K2 => ?_) hK0
            rw [red s2 R2 K2 hob (hev y oy), hev x ox, hX]
            dsimp only
            rw [if_neg hbs, dif_pos hh, if_pos hemp]
            simp only [hc, cond_true, hdst]
            rfl
      · refine local_Q ?_ fun s2 R2 K2 => ?_
        · unfold evO at hK
          cases b <;> first
            | exact absurd rfl hb
            | simpa only [hop, hcal] using hK
        · unfold evO
          cases b <;> first
            | exact absurd rfl hb
            | simp only [hop, hcal]
  | _ => refine local_Q ?_ fun s2 R2 K2 => ?_
         · unfold evO at hK; simpa only [hop] using hK
         · unfold evO; simp only [hop]
end
end Go.Proofs.Ytbcijglbinaioaa.Ev
