/- The evaluator: 'evO': alloc, box, store. -/
import Derived.Test.YtbcijglbinaioaaEv9
set_option linter.unusedVariables false
set_option linter.unusedSimpArgs false
set_option linter.unusedSectionVars false
set_option linter.unnecessarySimpa false
namespace Go.Proofs.Ytbcijglbinaioaa.Ev
open Go.RowKit
section
variable {P : Program} {w0 : Bs} {F0 : Nat → Nat → Prop} {N : Nat} {s : St} {a : Act} {w : World} {f : Fr} {φ : Nat → Bd} {R : Type} {E : Env} {o : Oper} {K : St → Option R} {r : R}

theorem getO_snaps_row {ks : List Nat} {ob : List OE} {κ e : Nat} {t : Ty} {els : List t.den} {sn : Bool} (h : getO (ks.map .snap ++ ob) κ = some (.row e t els sn)) : ∃ sn0, getO ob κ = some (.row e t els sn0) := by
  rw [getO_snaps] at h
  split at h
  · cases hg : getO ob κ with
    | none => simp [hg] at h
    | some o =>
      cases o with
      | box cs => simp [hg, OB.snapped] at h
      | row e' t' els' sn' =>
        simp only [hg, Option.map_some, OB.snapped, Option.some.injEq, OB.row.injEq] at h
        obtain ⟨rfl, rfl, hels, _⟩ := h
        have := eq_of_heq hels
        subst this
        exact ⟨sn', rfl⟩
  · exact ⟨sn, h⟩

theorem Fz.snaps {ks : List Nat} {ob : List OE} {κ : Nat} (h : Fz f φ ob κ) : Fz f φ (ks.map .snap ++ ob) κ := fun e t els sn ho => by
  obtain ⟨sn0, h0⟩ := getO_snaps_row ho
  exact h e t els sn0 h0

theorem frz_snaps (ks : List Nat) (ob : List OE) : ∀ (n : Nat), frz (ks.map .snap ++ ob) n = frz ob n
  | 0 => rfl
  | n + 1 => by
    funext v
    cases v <;> simp only [frz]
    · rw [frz_snaps ks ob n]
    · rw [frz_snaps ks ob n]
    · rename_i κ
      have hs := getO_snaps ks ob κ
      cases hg : getO ob κ with
      | none => rw [hs, hg]; split <;> (rename_i h; simp at h) <;> rfl
      | some o =>
        rw [hs, hg]
        by_cases hm : κ ∈ ks
        · rw [if_pos hm]; cases o <;> rfl
        · rw [if_neg hm]

theorem frzKeys_ob (ob ob' : List OE) : ∀ (n : Nat), frzKeys ob n = frzKeys ob' n
  | 0 => rfl
  | n + 1 => by
    funext v
    cases v <;> simp only [frzKeys]
    · rw [frzKeys_ob ob ob' n]
    · rw [frzKeys_ob ob ob' n]

/-- What is to be shown of an operation. -/
def Goes (P : Program) (w0 : Bs) (F0 : Nat → Nat → Prop) (N : Nat) (K : St → Option R) (r : R) (o : Oper) (a : Act) (w : World) : Prop :=
  ∀ (next : Act → World → Prop) (Q : Exit → Act → World → Prop), (∀ s' a' w' f' φ', Rel w0 F0 N s' a' w' f' φ' → K s' = some r → next a' w') → o.wp P a w next Q

theorem goes_value {v : Value} {w' : World} {s' : St} {f' : Fr} {φ' : Nat → Bd} (he : (execOp a.eval o).run P w = .ok (.value v) w') (h : Rel w0 F0 N s' (a.put o.dst v) w' f' φ') (hK : K s' = some r) : Goes P w0 F0 N K r o a w := by
  intro next Q hn
  unfold Oper.wp
  rw [he]
  exact hn _ _ _ _ _ h hK

theorem o_evQ (hD : DOk P E.D) (h : Rel w0 F0 N s a w f φ) (hd : ∀ d, o.dst = some d → d < N) (hK : evQ E s o (fun v => K (s.put o.dst v)) = some r) : Goes P w0 F0 N K r o a w := by
  obtain ⟨v, ⟨x, hx, hv⟩, hK⟩ := evQ_sound hD h hK
  exact goes_value hx (h.put o.dst hd hv) hK

theorem o_alloc (hD : DOk P E.D) (h : Rel w0 F0 N s a w f φ) (hd : ∀ d, o.dst = some d → d < N) {t d : Nat} (ho : o.op = .alloc t) (hdst : o.dst = some d) (hK : evO E s o K = some r) : Goes P w0 F0 N K r o a w := by
  unfold evO at hK
  simp only [ho, hdst] at hK
  split at hK <;> try contradiction
  rename_i td ht
  obtain ⟨i, z, hi, his, hz, hzm⟩ := (hD _ _ ht).info
  have h' := h.newAlloc d (Nat.lt_of_lt_of_le (hd d hdst) (Nat.le_trans h.Nle (by decide))) td.zero z.cells t (zm_ok hzm)
  refine goes_value (v := .pointer (some ⟨w.heap.size, 0, none⟩)) (w' := w.alloc (.cells z.cells t)) ?_ (?_ : Rel w0 F0 N _ _ _ f (upd φ d ⟨.pointer (some ⟨w.heap.size, 0, none⟩), 0⟩)) hK
  · simp [execOp, ho, Instr.alloc, zeroValue, typeInfo, hi, hz, newVar, newRow]
  · rw [hdst]
    exact h'.put (some d) (fun d' e => hd d' (by rw [hdst]; exact e)) (.ptr d 0 _ (by rw [upd_same]))

theorem o_box (hD : DOk P E.D) (h : Rel w0 F0 N s a w f φ) (hd : ∀ d, o.dst = some d → d < N) {t d : Nat} {x : Operand} (ho : o.op = .box t x) (hdst : o.dst = some d) (hK : evO E s o K = some r) : Goes P w0 F0 N K r o a w := by
  unfold evO at hK
  simp only [ho, hdst] at hK
  split at hK <;> try contradiction
  rename_i td ht
  split at hK <;> try contradiction
  rename_i hc
  have hx := (retype_ok (D := E.D) (ty := t) (h.ev x)).cells h.one hc.2
  have h' := h.newAlloc d (Nat.lt_of_lt_of_le (hd d hdst) (Nat.le_trans h.Nle (by decide))) _ (a.eval x).cells t hx
  refine goes_value (v := .pointer (some ⟨w.heap.size, 0, none⟩)) (w' := w.alloc (.cells (a.eval x).cells t)) ?_ (?_ : Rel w0 F0 N _ _ _ f (upd φ d ⟨.pointer (some ⟨w.heap.size, 0, none⟩), 0⟩)) hK
  · simp [execOp, ho, Instr.box, newVar, newRow]
  · rw [hdst]
    exact h'.put (some d) (fun d' e => hd d' (by rw [hdst]; exact e)) (.ptr d 0 _ (by rw [upd_same]))

theorem goes_skip {w' : World} {s' : St} {f' : Fr} {φ' : Nat → Bd} (hdst : o.dst = none) (he : (execOp a.eval o).run P w = .ok .skip w') (h : Rel w0 F0 N s' a w' f' φ') (hK : K s' = some r) : Goes P w0 F0 N K r o a w := by
  intro next Q hn
  unfold Oper.wp
  rw [he, Oper.upon_skip, hdst]
  exact hn _ _ _ _ _ h hK

theorem ownsRow_setCells {base : Nat} {e : TypeId} {size : Nat} {g n cap : Nat} {xs : List Value} (h : w.ownsRow base e size (.slice (some ⟨g, 0, none⟩) n cap) n xs) (o : Nat) (vs : List Value) (hl : o + vs.length ≤ n * size) :
    (w.setCells g o vs).ownsRow base e size (.slice (some ⟨g, 0, none⟩) n cap) n (xs.take o ++ vs ++ xs.drop (o + vs.length)) := by
  have hlen := h.1
  rcases h.2 with ⟨h', _⟩ | ⟨g', cap', cur, h', hb, hg, hnc, hcm, hcs, htake⟩
  · simp at h'
  · simp only [Value.slice.injEq, Option.some.injEq, Addr.mk.injEq, and_true, true_and] at h'
    obtain ⟨rfl, rfl⟩ := h'
    have hmul : n * size ≤ cap * size := Nat.mul_le_mul_right _ hnc
    obtain ⟨cur', h1, h2, h3⟩ := sc_row vs o w cur hg (by omega)
    refine ⟨by simp; omega, .inr ⟨g, cap, cur', rfl, hb, h1, hnc, hcm, by omega, ?_⟩⟩
    rw [h3, ← htake]
    have hc : cur.toList.length = cap * size := by simpa using hcs
    apply List.ext_getElem?
    intro k
    simp only [List.getElem?_take, List.getElem?_append, List.length_append, List.length_take, List.getElem?_drop, hc]
    repeat' split
    all_goals first | rfl | omega | (congr 1; omega)

theorem seg_eq {α : Type} (xs news : List α) (a off m sz : Nat) (h : off + m ≤ sz) :
    xs.take (a + off) ++ news ++ xs.drop (a + off + m) = xs.take a ++ (((xs.drop a).take sz).take off ++ news ++ ((xs.drop a).take sz).drop (off + m)) ++ xs.drop (a + sz) := by
  have e1 : ((xs.drop a).take sz).take off = (xs.drop a).take off := by rw [List.take_take, Nat.min_eq_left (by omega)]
  have e2 : ((xs.drop a).take sz).drop (off + m) ++ xs.drop (a + sz) = xs.drop (a + off + m) := by
    rw [List.drop_take, List.drop_drop, show xs.drop (a + sz) = (xs.drop (a + (off + m))).drop (sz - (off + m)) by rw [List.drop_drop]; congr 1; omega, List.take_append_drop]
    congr 1; omega
  rw [e1, List.take_add]
  simp only [List.append_assoc]
  rw [e2]

theorem o_store (hD : DOk P E.D) (h : Rel w0 F0 N s a w f φ) {t : Nat} {ad x : Operand} (ho : o.op = .store t ad x) (hdst : o.dst = none) (hK : evO E s o K = some r) : Goes P w0 F0 N K r o a w := by
  unfold evO at hK
  simp only [ho, hdst] at hK
  split at hK <;> try contradiction
  rename_i td ht
  obtain ⟨i, z, hi, his, hz, hzm⟩ := (hD _ _ ht).info
  have had := h.ev ad
  split at hK <;> try contradiction
  · rename_i κ off hA
    rw [hA] at had
    obtain ⟨g, hav, hg⟩ := had.ptrv
    split at hK <;> try contradiction
    rename_i cs hob
    split at hK <;> try contradiction
    rename_i hc
    obtain ⟨h1, h2, h3⟩ := hc
    have hxc := (retype_ok (D := E.D) (ty := t) (h.ev x)).cells h.one h3
    have hlen := hxc.len
    simp only [Array.length_toList] at hlen
    obtain ⟨tt, vs, hh, hvs, hn0, hF⟩ := (h.ob κ _ hob).boxv hg
    have hvl := hvs.len
    simp only [Array.length_toList] at hvl
    have hall : ∀ u ∈ (a.eval x).cells.toList, u.oneCell' = true := VRs.oneCell h.one hxc h3
    have hr := run_storeVar_cells (P := P) (ty := t) (x := a.eval x) hh (o := off) (by omega) (by rw [hi]; simp; omega) hall
    obtain ⟨cur', e1, e2, e3⟩ := sc_row (a.eval x).cells.toList off w vs hh (by simp; omega)
    refine goes_skip hdst (w' := w.setCells g off (a.eval x).cells.toList) ?_ (?_ : Rel w0 F0 N _ _ _ f φ) hK
    · simp [execOp, ho, hav, Instr.storeAt, Instr.sureAddr, hr]
    · refine h.setG (sc_grown g off _ w) κ _ _ hob (by simp [Bd.blk, hg]) hF fun hk => ?_
      refine ⟨g, tt, cur', hg, hn0, e1, ?_, hF⟩
      rw [e3]
      refine VRs.append (VRs.append ((hvs.keeps hk).take off) (zipNil_ok (hxc.keeps hk) _ (by rw [List.length_take, List.length_drop]; omega))) ?_
      have := (hvs.keeps hk).drop (off + td.size)
      rwa [show off + (a.eval x).cells.toList.length = off + td.size by simp only [Array.length_toList]; omega]
  · rename_i κ i' off hA
    rw [hA] at had
    obtain ⟨g, n, c, hav, hg, hin⟩ := had.rpv
    split at hK <;> try contradiction
    rename_i e0 ty els sn hob
    split at hK <;> try contradiction
    rename_i hsn
    have hsn2 : sn = false ∧ ((frzKeys s.ob 3 (s.ev x)).all fun κ' => κ' != κ) = true := by
      cases sn
      · refine ⟨rfl, ?_⟩
        cases hh : ((frzKeys s.ob 3 (s.ev x)).all fun κ' => κ' != κ) with
        | true => rfl
        | false => simp [hh] at hsn
      · simp at hsn
    obtain ⟨rfl, hkeys⟩ := hsn2
    rw [List.all_eq_true] at hkeys
    cases he : els[i']? with
    | none => simp [he] at hK
    | some e =>
      rw [he] at hK
      simp only [Option.bind_some] at hK
      split at hK <;> try contradiction
      rename_i hc
      obtain ⟨h1, h2, h3⟩ := hc
      split at hK <;> try contradiction
      rename_i e' hdec
      obtain ⟨hrel, hFz⟩ := h.snapAll (frzKeys s.ob 3 (s.ev x))
      obtain ⟨hilt, hie⟩ := List.getElem?_eq_some_iff.1 he
      -- the row in the state behind the handing over
      have hob1 : getO (s.snapAll (frzKeys s.ob 3 (s.ev x))).ob κ = some (.row e0 ty els false) := by
        rw [St.snapAll]
        show getO (_ ++ s.ob) κ = _
        rw [getO_snaps, if_neg, hob]
        intro hm
        have := hkeys κ hm
        simp at this
      have hor1 := hrel.ob κ _ hob1
      obtain ⟨xs, hown, hsz, hrl, hF1⟩ := hor1
      have hFno : ∀ o, ¬ (frozenOf f φ s.ob (frzKeys s.ob 3 (s.ev x))).F g o := fun o q => by
        have := (hF1 g (by simp [hg, Value.ownBlock]) o q).1
        simp at this
      have hx := h.ev x
      have hxcells := VR.frzCells hrel φ f.n0 (hrel.ev x) (v := s.ev x) h3 (by
        intro κ' hκ'
        rw [frzKeys_ob _ s.ob] at hκ'
        exact (hFz κ' hκ').snaps)
      rw [St.snapAll] at hxcells
      rw [frz_snaps] at hxcells
      obtain ⟨hxc, hxl⟩ := hxcells
      have hall : ∀ u ∈ (a.eval x).cells.toList, u.oneCell' = true := VRs.oneCell h.one (hx.cells h.one h3) h3
      have hlen := hxc.len
      simp only [Array.length_toList] at hlen
      rw [enc_len] at h2
      -- the element before
      obtain ⟨es, hes, hxs⟩ := hrl.get i' hilt
      have hesl := hes.len
      rw [hie] at hes
      have henc := RT.enc (φ := φ) (b := false) (f := ⟨f.n0, (frozenOf f φ s.ob (frzKeys s.ob 3 (s.ev x))).F⟩) (hes.keeps (Fok (f := ⟨f.n0, (frozenOf f φ s.ob (frzKeys s.ob 3 (s.ev x))).F⟩) false))
      have hnew := ((henc.take off).append hxc).append (henc.drop (off + td.size))
      obtain ⟨cs, ys, hcs, hrt, hys⟩ := RT.dec ty _ _ e' [] hnew hdec
      have hys' : ys = [] := List.eq_nil_of_length_eq_zero (by rw [← hys.len]; rfl)
      subst hys'
      rw [List.append_nil] at hcs
      have hset := hrl.set i' e' cs hrt
      rw [if_pos hilt] at hset
      rw [hg] at hown
      have hln := hown.1
      obtain rfl : els.length = n := by
        rcases hown.2 with ⟨h', _⟩ | ⟨_, _, _, h', _⟩
        · simp at h'
        · simp only [Value.slice.injEq, Option.some.injEq, Addr.mk.injEq, and_true] at h'
          exact h'.2.1.symm
      have hmul : (i' + 1) * ty.sz ≤ els.length * ty.sz := Nat.mul_le_mul_right _ hilt
      rw [Nat.add_mul, Nat.one_mul] at hmul
      have hown' := ownsRow_setCells hown (i' * ty.sz + off) (a.eval x).cells.toList (by simp; omega)
      have hheap : ∃ cur, w.heap[g]? = some (.cells cur e0 (0, 0)) ∧ els.length * ty.sz ≤ cur.size := by
        rcases hown.2 with ⟨h', _⟩ | ⟨g', cap, cur, h', hb, hgg, hn, hm, hcs, htake⟩
        · simp at h'
        · simp only [Value.slice.injEq, Option.some.injEq, Addr.mk.injEq, and_true] at h'
          obtain ⟨rfl, _, _⟩ := h'
          exact ⟨cur, hgg, by rw [hcs]; exact Nat.mul_le_mul_right _ hn⟩
      obtain ⟨cur, hcur, hcsz⟩ := hheap
      have hr := run_storeVar_cells (P := P) (ty := t) (x := a.eval x) hcur (o := i' * ty.sz + off) (by omega) (by rw [hi]; simp; omega) hall
      refine goes_skip hdst (w' := w.setCells g (i' * ty.sz + off) (a.eval x).cells.toList) ?_ (?_ : Rel w0 F0 N _ _ _ (frozenOf f φ s.ob (frzKeys s.ob 3 (s.ev x))) φ) hK
      · simp [execOp, ho, hav, hsz, Instr.storeAt, Instr.sureAddr, hr]
      · refine hrel.setG (sc_grown g _ _ w) κ _ _ hob1 (by simp [Bd.blk, hg]) hFno fun hk => ?_
        refine ⟨_, by rw [hg, List.length_set]; exact hown', hsz, ?_, fun g' hg' o q => ?_⟩
        · have := RL.keeps hk.Fk hset
          rw [← hcs] at this
          have hseg : (xs.drop (i' * ty.sz)).take ty.sz = es := by
            apply List.ext_getElem?
            intro k
            rw [List.getElem?_take, List.getElem?_drop]
            split
            · rename_i hk'
              rw [hxs k (by omega), List.getElem?_eq_getElem (by omega)]
            · rw [List.getElem?_eq_none (by omega)]
          rw [← hseg, ← seg_eq xs _ _ off td.size ty.sz h2] at this
          rwa [show (a.eval x).cells.toList.length = td.size by simp only [Array.length_toList]; omega]
        · rw [hg] at hg'
          simp only [Value.ownBlock, Option.some.injEq] at hg'
          subst hg'
          exact absurd q (hFno o)

theorem Rel.called (h : Rel w0 F0 N s a w f φ) {w' : World} (hb : Below w.heap.size w w') (F' : Nat → Nat → Prop) (h1 : ∀ g o, f.F g o → F' g o) (h2 : ∀ g o, F' g o → f.F g o ∨ w.heap.size ≤ g) (h3 : ∀ g o, F' g o → g < w'.heap.size) :
    Rel w0 F0 N s a w' ⟨f.n0, F'⟩ φ := by
  have hk : FKeeps w w' f ⟨f.n0, F'⟩ := ⟨rfl, h1, fun g o u _ hc => (World.cell?_of_block (w := w) (hb.block g (cell_lt hc))).trans hc⟩
  refine ⟨fun t => (h.tm t).keeps hk, fun κ o ho => ?_, h.dis, h.n0, fun g o q => h1 g o (h.F0s g o q), fun g o q => ?_, h3, ?_, h.defers, h.size, h.one, fun ψ κ o ho => ?_, h.hdis, fun ψ v x hx => (h.hvs ψ v x hx).keeps hk, h.bx, h.Nle⟩
  · have hor := h.ob κ o ho
    have hno : ∀ g, g < w.heap.size → ∀ o, F' g o → f.F g o := fun g hlt o q => by
      rcases h2 g o q with q | q
      · exact q
      · omega
    cases o with
    | box cs =>
      obtain ⟨g, t, vs, hv, h0, hh, hvs, hF⟩ := hor
      have hlt := (Array.getElem?_eq_some_iff.1 hh).1
      exact ⟨g, t, vs, hv, h0, by rw [hb.block g hlt]; exact hh, hvs.keeps hk, fun o q => hF o (hno g hlt o q)⟩
    | row e t els sn =>
      obtain ⟨xs, hown, hsz, hrl, hF⟩ := hor
      refine ⟨xs, ?_, hsz, hrl.keeps hk.Fk, fun g hg o q => hF g hg o (hno g (hown.lt g hg).2 o q)⟩
      refine ⟨hown.1, ?_⟩
      rcases hown.2 with hq | ⟨g, cap, cur, h4, hb0, hg, hn, hm, hcs, htake⟩
      · exact .inl hq
      · exact .inr ⟨g, cap, cur, h4, hb0, by rw [hb.block g (Array.getElem?_eq_some_iff.1 hg).1]; exact hg, hn, hm, hcs, htake⟩
  · rcases h2 g o q with q | q
    · exact h.Fnew g o q
    · exact .inr (Nat.le_trans h.below.size q)
  · refine h.below.trans ⟨hb.os, hb.tape, hb.output, hb.size, fun k hk' => hb.block k (Nat.lt_of_lt_of_le hk' h.below.size)⟩
  · have hor := h.hid ψ κ o ho
    refine hor.stays hk (fun g hg => hb.block g (hor.blk_lt g hg).2) fun g o' hg q => ?_
    rcases h2 g o' q with q | q
    · exact q
    · have := (hor.blk_lt g hg).2
      omega

end
end Go.Proofs.Ytbcijglbinaioaa.Ev
