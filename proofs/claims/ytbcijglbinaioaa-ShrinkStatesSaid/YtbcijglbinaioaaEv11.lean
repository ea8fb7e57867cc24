/- The evaluator: 'evO': literals, makes, appends. -/
import Derived.Test.YtbcijglbinaioaaEv10
set_option linter.unusedVariables false
set_option linter.unusedSimpArgs false
set_option linter.unusedSectionVars false
set_option linter.unnecessarySimpa false
namespace Go.Proofs.Ytbcijglbinaioaa.Ev
open Go.RowKit
section
variable {P : Program} {w0 : Bs} {F0 : Nat → Nat → Prop} {N : Nat} {s : St} {a : Act} {w : World} {f : Fr} {φ : Nat → Bd} {R : Type} {E : Env} {o : Oper} {K : St → Option R} {r : R}

theorem goes_row {v : Value} {w' : World} {s1 : St} {f' : Fr} {φ1 : Nat → Bd} {d κ sz : Nat} (hd : ∀ d, o.dst = some d → d < N) (hdst : o.dst = some d) (he : (execOp a.eval o).run P w = .ok (.value v) w')
    (h' : Rel w0 F0 N s1 a w' f' (upd φ1 κ ⟨v, sz⟩)) (hK : K (s1.put (some d) (.row κ)) = some r) : Goes P w0 F0 N K r o a w := by
  refine goes_value (v := v) (w' := w') (f' := f') (φ' := upd φ1 κ ⟨v, sz⟩) he ?_ hK
  rw [hdst]
  refine h'.put (some d) (fun d' e => hd d' (by rw [hdst]; exact e)) ?_
  have := VR.row (w := w') (f := f') (φ := upd φ1 κ ⟨v, sz⟩) κ
  rwa [upd_same] at this

theorem zc_len : ∀ t : Ty, (zc t).length = t.sz
  | .int _ => rfl
  | .bool => rfl
  | .slice _ => rfl
  | .pair a b => by simp [zc, Ty.sz, zc_len a, zc_len b]

theorem flat_rep {cs : List Value} (hs : 0 < cs.length) : ∀ (n k : Nat), k < n * cs.length → (List.replicate n cs).flatten[k]? = cs[k % cs.length]?
  | 0, k, h => by omega
  | n + 1, k, h => by
    rw [List.replicate_succ, List.flatten_cons]
    by_cases hk : k < cs.length
    · rw [List.getElem?_append_left hk, Nat.mod_eq_of_lt hk]
    · rw [List.getElem?_append_right (by omega), flat_rep hs n (k - cs.length) (by rw [Nat.add_mul] at h; omega)]
      congr 1
      rw [← Nat.mod_eq_sub_mod (by omega)]

theorem made_flat {z : Array Value} (hs : 0 < z.size) (n : Nat) : (madeCells z (n * z.size)).toList = (List.replicate n z.toList).flatten := by
  apply List.ext_getElem?
  intro k
  by_cases hk : k < n * z.size
  · rw [flat_rep (by simpa using hs) n k (by simpa using hk)]
    have hm : k % z.size < z.size := Nat.mod_lt _ hs
    simp [madeCells, hk, hm]
  · rw [List.getElem?_eq_none (by simp [madeCells]; omega), List.getElem?_eq_none (by simp; omega)]

theorem o_makeSlice (hD : DOk P E.D) (h : Rel w0 F0 N s a w f φ) (hd : ∀ d, o.dst = some d → d < N) {t d : Nat} {x y : Operand} (ho : o.op = .makeSlice t x y) (hdst : o.dst = some d) (hK : evO E s o K = some r) : Goes P w0 F0 N K r o a w := by
  unfold evO at hK
  simp only [ho, hdst] at hK
  split at hK <;> try contradiction
  rename_i _ _ _ _ e ty ht
  obtain ⟨hu, i, z, hi, his, hz, hzc, hby⟩ := (hD _ _ ht).sh
  have hx := h.ev x
  have hy := h.ev y
  split at hK <;> try contradiction
  rename_i n m hX hY
  rw [hX] at hx
  rw [hY] at hy
  cases hc : (decide (0 ≤ n) && (decide (n.toNat ≤ LIM) && (n == m))) with
  | false => rw [hc] at hK; simp at hK
  | true =>
    rw [hc] at hK
    simp only [Bool.and_eq_true, decide_eq_true_eq, beq_iff_eq] at hc
    obtain ⟨h0, hlim, rfl⟩ := hc
    simp only [cond_true] at hK
    obtain ⟨k, rfl⟩ := Int.eq_ofNat_of_zero_le h0
    simp only [Int.ofNat_eq_natCast, Int.toNat_natCast] at hK hlim hx hy
    have hzs : z.cells.size = ty.sz := by rw [← Array.length_toList, hzc, zc_len]
    obtain ⟨w', hr, hown, hg⟩ := run_make_full (P := P) w f.n0 t e i z ty.sz hu hi hz his .i64 .i64 k (by
      have : i.bytes * k ≤ 128 * LIM := Nat.mul_le_mul hby hlim
      simp only [LIM] at this
      omega) (by simp only [maxLen]; simp only [LIM] at hlim; omega) h.n0le
    have hrl : RL w f.F ty (List.replicate k ty.zero) (madeCells z.cells (k * ty.sz)).toList := by
      rw [← hzs, made_flat (by rw [hzs]; exact ty.sz_pos), hzc]
      exact RL.replicate _ _ (zc_ok w f.F ty) k
    have h' := h.newRow (w' := w') d e (.inl (Nat.lt_of_lt_of_le (hd d hdst) (Nat.le_trans h.Nle (by decide)))) ty (List.replicate k ty.zero) false _ _ (by rw [List.length_replicate]; exact hown) hrl (.inl ⟨hg, .inr rfl⟩)
    exact goes_row hd hdst (by simp [execOp, ho, hx.intv, hy.intv, hr]) h' hK

/-- A literal's parts. -/
theorem litEls_ok (h : Rel w0 F0 N s a w f φ) {t : Ty} : ∀ (parts : List (Nat × Operand)) (j : Nat) (els : List t.den), litEls s.ob t j (parts.map fun p => (p.1, s.ev p.2)) = some els →
    (∀ κ ∈ parts.flatMap (fun p => frzKeys s.ob 3 (s.ev p.2)), Fz f φ s.ob κ) →
    els.length = parts.length ∧ (parts.map fun p => (p.1, a.eval p.2)) = ((parts.map fun p => a.eval p.2).zipIdx j).map (fun x => (x.2, x.1)) ∧ (∀ v ∈ parts.map (fun p => a.eval p.2), v.cells.size = t.sz) ∧
      RL w f.F t els ((parts.map fun p => a.eval p.2).flatMap fun v => v.cells.toList)
  | [], j, els, hl, _ => by
    simp only [List.map_nil, litEls, Option.some.injEq] at hl
    subst hl
    exact ⟨rfl, rfl, by simp, .nil⟩
  | (i, p) :: parts, j, els, hl, hz => by
    simp only [List.map_cons, litEls] at hl
    split at hl <;> try contradiction
    rename_i hij
    subst hij
    split at hl <;> try contradiction
    rename_i x hdec
    split at hl <;> try contradiction
    rename_i xs hrest
    simp only [Option.some.injEq] at hl
    subst hl
    obtain ⟨h1, h2, h3, h4⟩ := litEls_ok h parts (i + 1) xs hrest fun κ hκ => hz κ (by rw [List.flatMap_cons, List.mem_append]; exact .inr hκ)
    have hv := VR.decCells h φ f.n0 (h.ev p) hdec fun κ hκ => hz κ (by rw [List.flatMap_cons, List.mem_append]; exact .inl hκ)
    obtain ⟨cs, ys, hcs, hrt, hys⟩ := RT.dec t _ _ x [] hv hdec
    have hys' : ys = [] := List.eq_nil_of_length_eq_zero (by rw [← hys.len]; rfl)
    subst hys'
    rw [List.append_nil] at hcs
    have hsz : (a.eval p).cells.size = t.sz := by rw [← Array.length_toList, hcs, hrt.len]
    refine ⟨by simp [h1], by simp [h2], fun v hv => ?_, ?_⟩
    · simp only [List.map_cons, List.mem_cons] at hv
      rcases hv with rfl | hv
      · exact hsz
      · exact h3 v hv
    · simp only [List.map_cons, List.flatMap_cons, hcs]
      exact .cons x xs cs _ hrt h4

theorem litEls_snaps (ks : List Nat) (ob : List OE) (t : Ty) : ∀ (j : Nat) (l : List (Nat × AV)), litEls (ks.map .snap ++ ob) t j l = litEls ob t j l
  | j, [] => rfl
  | j, (i, v) :: r => by simp only [litEls, frz_snaps, litEls_snaps ks ob t (j + 1) r]

/-- Out of slices that are lent. -/
theorem RT.decQ : ∀ (t : Ty) (l : List AV) (xs : List Value) (x : t.den) (r : List AV), VRs w f φ l xs → decQ t l = some (x, r) → ∃ cs ys, xs = cs ++ ys ∧ RT w (f.ok true) t x cs ∧ VRs w f φ r ys
  | .int k, l, xs, x, r, hv, h => by
    simp only [Ev.decQ] at h
    cases hv with
    | nil => simp at h
    | cons v l y ys hv hs =>
      cases hv <;> simp only [] at h <;> try contradiction
      split at h
      · rename_i hk
        subst hk
        simp only [Option.some.injEq, Prod.mk.injEq] at h
        obtain ⟨rfl, rfl⟩ := h
        exact ⟨[_], ys, rfl, rfl, hs⟩
      · contradiction
  | .bool, l, xs, x, r, hv, h => by
    simp only [Ev.decQ] at h
    cases hv with
    | nil => simp at h
    | cons v l y ys hv hs =>
      cases hv <;> simp only [] at h <;> try contradiction
      simp only [Option.some.injEq, Prod.mk.injEq] at h
      obtain ⟨rfl, rfl⟩ := h
      exact ⟨[_], ys, rfl, rfl, hs⟩
  | .slice t, l, xs, x, r, hv, h => by
    have up : ∀ b, Keeps w w (f.ok b) (f.ok true) := fun b => ⟨fun _ _ _ _ h => h, fun g o q => q.imp id fun q => ⟨rfl, q.2⟩⟩
    have emp : ∀ A, RS w (f.ok true) (RT w (f.ok true) t) t.sz A 0 [] := fun A => ⟨rfl, Nat.zero_le _, fun j hj => absurd hj (by simp)⟩
    simp only [Ev.decQ] at h
    cases hv with
    | nil => simp at h
    | cons v l y ys hv hs =>
      cases hv <;> simp only [] at h <;> try contradiction
      · rename_i b t' l' A n c hn hr
        split at h
        · rename_i ht
          subst ht
          simp only [Option.some.injEq, Prod.mk.injEq] at h
          obtain ⟨rfl, rfl⟩ := h
          exact ⟨[_], ys, rfl, ⟨A, n, c, rfl, hn, hr.keeps (up b) fun _ _ q => q.keeps (up b)⟩, hs⟩
        · contradiction
      · rename_i b t' l' A n hr
        split at h
        · rename_i ht
          subst ht
          simp only [Option.some.injEq, Prod.mk.injEq] at h
          obtain ⟨rfl, rfl⟩ := h
          exact ⟨[_], ys, rfl, ⟨A, n, n, rfl, Nat.le_refl _, hr.keeps (up b) fun _ _ q => q.keeps (up b)⟩, hs⟩
        · contradiction
      · simp only [Option.some.injEq, Prod.mk.injEq] at h
        obtain ⟨rfl, rfl⟩ := h
        exact ⟨[_], ys, rfl, ⟨none, 0, 0, rfl, Nat.le_refl _, emp _⟩, hs⟩
      · rename_i z t' A c hz
        simp only [Option.some.injEq, Prod.mk.injEq] at h
        obtain ⟨rfl, rfl⟩ := h
        exact ⟨[_], ys, rfl, ⟨A, 0, c, rfl, Nat.zero_le _, emp _⟩, hs⟩
  | .pair a b, l, xs, x, r, hv, h => by
    simp only [Ev.decQ] at h
    split at h <;> try contradiction
    rename_i x1 r1 h1
    split at h <;> try contradiction
    rename_i x2 r2 h2
    simp only [Option.some.injEq, Prod.mk.injEq] at h
    obtain ⟨rfl, rfl⟩ := h
    obtain ⟨c1, y1, rfl, q1, v1⟩ := RT.decQ a l xs x1 r1 hv h1
    obtain ⟨c2, y2, rfl, q2, v2⟩ := RT.decQ b r1 y1 x2 r2 v1 h2
    exact ⟨c1 ++ c2, y2, by simp, ⟨c1, c2, rfl, q1, q2⟩, v2⟩

theorem decQ_bad (v : AV) (hv : v = .top ∨ ∃ l, v = .tup l) : ∀ (t : Ty) (r : List AV), decQ t (v :: r) = none
  | .int k, r => by rcases hv with rfl | ⟨l, rfl⟩ <;> rfl
  | .bool, r => by rcases hv with rfl | ⟨l, rfl⟩ <;> rfl
  | .slice t, r => by rcases hv with rfl | ⟨l, rfl⟩ <;> rfl
  | .pair a b, r => by simp only [decQ, decQ_bad v hv a r]

theorem litQ_ok (h : Rel w0 F0 N s a w f φ) {t : Ty} : ∀ (parts : List (Nat × Operand)) (j : Nat) (els : List t.den), litQ t j (parts.map fun p => (p.1, s.ev p.2)) = some els →
    els.length = parts.length ∧ (parts.map fun p => (p.1, a.eval p.2)) = ((parts.map fun p => a.eval p.2).zipIdx j).map (fun x => (x.2, x.1)) ∧ (∀ v ∈ parts.map (fun p => a.eval p.2), v.cells.size = t.sz) ∧
      RL w (f.ok true) t els ((parts.map fun p => a.eval p.2).flatMap fun v => v.cells.toList)
  | [], j, els, hl => by
    simp only [List.map_nil, litQ, Option.some.injEq] at hl
    subst hl
    exact ⟨rfl, rfl, by simp, .nil⟩
  | (i, p) :: parts, j, els, hl => by
    simp only [List.map_cons, litQ] at hl
    split at hl <;> try contradiction
    rename_i hij
    subst hij
    split at hl <;> try contradiction
    rename_i x hdec
    split at hl <;> try contradiction
    rename_i xs hrest
    simp only [Option.some.injEq] at hl
    subst hl
    obtain ⟨h1, h2, h3, h4⟩ := litQ_ok h parts (i + 1) xs hrest
    have hv : VRs w f φ (s.ev p).cells (a.eval p).cells.toList := by
      have hp := h.ev p
      by_cases hok : (s.ev p).cellOk = true
      · have e : (s.ev p).cells = [s.ev p] := by
          revert hok
          cases s.ev p <;> simp [AV.cellOk, AV.cells]
        rw [e, cells_one (hp.oneCell h.one hok)]
        exact .cons _ _ _ _ hp .nil
      · generalize s.ev p = v at hp hok hdec
        generalize a.eval p = pv at hp
        cases hp <;> first
          | (simp [AV.cellOk] at hok; done)
          | (simp only [AV.cells] at hdec; rw [decQ_bad _ (by simp)] at hdec; simp at hdec; done)
          | skip
        rename_i l vs hs
        simpa [AV.cells, Value.cells] using hs
    obtain ⟨cs, ys, hcs, hrt, hys⟩ := RT.decQ t _ _ x [] hv hdec
    have hys' : ys = [] := List.eq_nil_of_length_eq_zero (by rw [← hys.len]; rfl)
    subst hys'
    rw [List.append_nil] at hcs
    have hsz : (a.eval p).cells.size = t.sz := by rw [← Array.length_toList, hcs, hrt.len]
    refine ⟨by simp [h1], by simp [h2], fun v hv => ?_, ?_⟩
    · simp only [List.map_cons, List.mem_cons] at hv
      rcases hv with rfl | hv
      · exact hsz
      · exact h3 v hv
    · simp only [List.map_cons, List.flatMap_cons, hcs]
      exact .cons x xs cs _ hrt h4

/-- A literal that is only read. -/
theorem goes_litQ (hD : DOk P E.D) (h : Rel w0 F0 N s a w f φ) (hd : ∀ d, o.dst = some d → d < N) {t n e : Nat} {ty : Ty} {td d0 : TD} {parts : Array (Nat × Operand)} {b : Bool} {els : List ty.den} (hop : o.op = .buildSlice t n parts) (ht : findD E.D t = some d0) (hsh : d0.sh = .sl e ty) (htd : findD E.D e = some td)
    (hn : parts.size = n) (htz : td.size = ty.sz) (hlim : n * td.size ≤ 1000) (h1 : els.length = parts.toList.length) (h2 : (parts.toList.map fun p => (p.1, a.eval p.2)) = ((parts.toList.map fun p => a.eval p.2).zipIdx 0).map (fun x => (x.2, x.1))) (h3 : ∀ v ∈ parts.toList.map (fun p => a.eval p.2), v.cells.size = ty.sz)
    (h4 : RL w (f.ok b) ty els ((parts.toList.map fun p => a.eval p.2).flatMap fun v => v.cells.toList)) (next : Act → World → Prop) (Q : Exit → Act → World → Prop) (hn' : ∀ a' w' f' φ', Rel w0 F0 N (s.put o.dst (.xs b ty els)) a' w' f' φ' → next a' w') : o.wp P a w next Q := by
    have hsh' := (hD _ _ ht).sh
    rw [hsh] at hsh'
    obtain ⟨hu, i, z, hi, his, hz, hzc, hby⟩ := hsh'
    have hlen : els.length = n := by rw [h1, Array.length_toList, hn]
    have hpv : (parts.map fun (x : Nat × Operand) => (x.1, a.eval x.2)).toList = parts.toList.map fun p => (p.1, a.eval p.2) := by simp
    have hrun : ∃ cells : Array Value, (Instr.buildSlice t n (parts.map fun (x : Nat × Operand) => (x.1, a.eval x.2))).run P w = .ok (.slice (some ⟨w.heap.size, 0, none⟩) n n) (w.alloc (.cells cells e)) ∧
        cells.toList = (parts.toList.map fun p => a.eval p.2).flatMap fun v => v.cells.toList := by
      rw [htz] at hlim
      refine ⟨((parts.toList.map fun p => a.eval p.2).flatMap fun v => v.cells.toList).toArray, ?_, rfl⟩
      have hfill : ∀ cells : Array Value, cells.size = n * ty.sz → Instr.fill (fun i => some (i * ty.sz, ty.sz)) cells (parts.toList.map fun p => (p.1, a.eval p.2)) = some ((parts.toList.map fun p => a.eval p.2).flatMap fun v => v.cells.toList).toArray := by
        intro cells hcl
        rw [h2]
        exact Great.fill_whole ty.sz_pos _ _ h3 (by rw [List.length_map, Array.length_toList, hn, hcl])
      rcases Nat.eq_zero_or_pos n with h0 | hpos
      · subst h0
        have hp : parts = #[] := Array.eq_empty_of_size_eq_zero hn
        subst hp
        simp [Instr.buildSlice, run_underlying hu, sizeOf, typeInfo, hi, Instr.fill, newRow]
        congr 2
        exact Array.eq_empty_of_size_eq_zero (by simp)
      · refine run_buildSlice w t e n _ _ i z hu hi hz (by rw [his]; omega) (by rw [his]; have := Nat.mul_pos hpos ty.sz_pos; omega) ?_
        rw [hpv, his]
        exact hfill _ (by simp)
    obtain ⟨cells, hrun, hcells⟩ := hrun
    have hcl := RL.len h4
    have hown : (w.alloc (.cells cells e)).ownsRow f.n0 e ty.sz (.slice (some ⟨w.heap.size, 0, none⟩) n n) n cells.toList :=
      World.ownsRow_lit w cells n h.n0le (by
        have hp := ty.sz_pos
        have : n * 1 ≤ n * ty.sz := Nat.mul_le_mul_left _ hp
        rw [htz] at hlim
        simp only [maxLen]
        omega) (by rw [← Array.length_toList, hcells, hcl, hlen])
    have hb : Below w.heap.size w (w.alloc (.cells cells e)) := (Below.refl _ w).alloc (Nat.le_refl _) _
    have hrel := h.called hb (fun g o => f.F g o ∨ (g = w.heap.size ∧ o < n * ty.sz)) (fun _ _ q => .inl q) (fun g o q => q.imp id fun q => Nat.le_of_eq q.1.symm) (fun g o q => by
      rcases q with q | q
      · exact Nat.lt_of_lt_of_le (h.Flt g o q) hb.size
      · rw [q.1]; simp)
    have hk : FKeeps w (w.alloc (.cells cells e)) f ⟨f.n0, fun g o => f.F g o ∨ (g = w.heap.size ∧ o < n * ty.sz)⟩ :=
      ⟨rfl, fun _ _ q => .inl q, fun g o u _ hc => (World.cell?_of_block (w := w) (hb.block g (cell_lt hc))).trans hc⟩
    rw [← hlen] at hown
    rw [← hcells] at h4
    obtain ⟨A, c, hv, hnc, hrs⟩ := row_RS (p := (Fr.mk f.n0 fun g o => f.F g o ∨ (g = w.heap.size ∧ o < n * ty.sz)).ok b) hown (h4.keeps (hk.ok b)) (fun g hg o ho => by
      simp only [Value.ownBlock, Option.some.injEq] at hg
      subst hg
      exact .inl (.inr ⟨rfl, by rw [← hlen]; exact ho⟩))
    simp only [Value.slice.injEq, true_and] at hv
    obtain ⟨rfl, rfl⟩ := hv
    unfold Oper.wp
    have hx : (execOp a.eval o).run P w = .ok (.value (.slice (some ⟨w.heap.size, 0, none⟩) n n)) (w.alloc (.cells cells e)) := by
      simp only [execOp, hop, Sem.run_bind, hrun, Result.andThen_ok, Sem.run_pure]
    rw [hx]
    refine hn' _ _ _ _ (hrel.put o.dst hd ?_)
    rw [hlen] at hrs
    exact .xs b ty els _ _ hrs

theorem o_buildSlice (hD : DOk P E.D) (h : Rel w0 F0 N s a w f φ) (hd : ∀ d, o.dst = some d → d < N) {t n d : Nat} {parts : Array (Nat × Operand)} (ho : o.op = .buildSlice t n parts) (hdst : o.dst = some d) (hK : evO E s o K = some r) : Goes P w0 F0 N K r o a w := by
  unfold evO at hK
  simp only [ho, hdst] at hK
  split at hK <;> try contradiction
  rename_i _ _ _ _ e ty ht
  obtain ⟨hu, i, z, hi, his, hz, hzc, hby⟩ := (hD _ _ ht).sh
  split at hK <;> try contradiction
  rename_i td htd
  split at hK <;> try contradiction
  rename_i hc
  obtain ⟨hn, htz, hlim⟩ := hc
  split at hK
  rotate_left 1
  · obtain ⟨els, hel, hK⟩ := Option.bind_eq_some_iff.1 hK
    obtain ⟨h1, h2, h3, h4⟩ := litQ_ok h parts.toList 0 els hel
    intro next Q hn'
    refine goes_litQ hD h hd ho ht rfl htd hn htz hlim h1 h2 h3 h4 next Q fun a' w' f' φ' hr => hn' _ _ _ _ _ hr ?_
    rw [hdst]
    exact hK
  rename_i els hel
  obtain ⟨hrel, hFz⟩ := h.snapAll (parts.toList.flatMap fun p => frzKeys s.ob 3 (s.ev p.2))
  have hev : ∀ x, (s.snapAll (parts.toList.flatMap fun p => frzKeys s.ob 3 (s.ev p.2))).ev x = s.ev x := fun x => by cases x <;> rfl
  obtain ⟨h1, h2, h3, h4⟩ := litEls_ok hrel (t := ty) parts.toList 0 els (by
      simp only [hev]
      show litEls (_ ++ s.ob) ty 0 _ = some els
      rw [litEls_snaps]
      exact hel) (fun κ hκ => by
      have : Fz _ φ s.ob κ := hFz κ (by
        simp only [hev, List.mem_flatMap] at hκ ⊢
        obtain ⟨p, hp, hκ⟩ := hκ
        exact ⟨p, hp, by rw [frzKeys_ob s.ob (s.snapAll (parts.toList.flatMap fun p => frzKeys s.ob 3 (s.ev p.2))).ob]; exact hκ⟩)
      exact this.snaps)
  have hlen : els.length = n := by rw [h1, Array.length_toList, hn]
  have hpv : (parts.map fun (x : Nat × Operand) => (x.1, a.eval x.2)).toList = parts.toList.map fun p => (p.1, a.eval p.2) := by simp
  -- the run
  have hrun : ∃ cells : Array Value, (Instr.buildSlice t n (parts.map fun (x : Nat × Operand) => (x.1, a.eval x.2))).run P w = .ok (.slice (some ⟨w.heap.size, 0, none⟩) n n) (w.alloc (.cells cells e)) ∧
      cells.toList = (parts.toList.map fun p => a.eval p.2).flatMap fun v => v.cells.toList := by
    rw [htz] at hlim
    refine ⟨((parts.toList.map fun p => a.eval p.2).flatMap fun v => v.cells.toList).toArray, ?_, rfl⟩
    have hfill : ∀ cells : Array Value, cells.size = n * ty.sz → Instr.fill (fun i => some (i * ty.sz, ty.sz)) cells (parts.toList.map fun p => (p.1, a.eval p.2)) = some ((parts.toList.map fun p => a.eval p.2).flatMap fun v => v.cells.toList).toArray := by
      intro cells hcl
      rw [h2]
      exact Great.fill_whole ty.sz_pos _ _ h3 (by rw [List.length_map, Array.length_toList, hn, hcl])
    rcases Nat.eq_zero_or_pos n with h0 | hpos
    · subst h0
      have hp : parts = #[] := Array.eq_empty_of_size_eq_zero hn
      subst hp
      simp [Instr.buildSlice, run_underlying hu, sizeOf, typeInfo, hi, Instr.fill, newRow]
      congr 2
      exact Array.eq_empty_of_size_eq_zero (by simp)
    · refine run_buildSlice w t e n _ _ i z hu hi hz (by rw [his]; omega) (by rw [his]; have := Nat.mul_pos hpos ty.sz_pos; omega) ?_
      rw [hpv, his]
      exact hfill _ (by simp)
  obtain ⟨cells, hrun, hcells⟩ := hrun
  have hcl := RL.len h4
  have hown : (w.alloc (.cells cells e)).ownsRow f.n0 e ty.sz (.slice (some ⟨w.heap.size, 0, none⟩) n n) n cells.toList :=
    World.ownsRow_lit w cells n h.n0le (by
      have hp := ty.sz_pos
      have : n * 1 ≤ n * ty.sz := Nat.mul_le_mul_left _ hp
      rw [htz] at hlim
      simp only [maxLen]
      omega) (by rw [← Array.length_toList, hcells, hcl, hlen])
  have h' := hrel.newRow (w' := w.alloc (.cells cells e)) d e (.inl (Nat.lt_of_lt_of_le (hd d hdst) (Nat.le_trans h.Nle (by decide)))) ty els false (.slice (some ⟨w.heap.size, 0, none⟩) n n) cells.toList (by rw [hlen]; exact hown) (by rw [hcells]; exact h4) (.inl ⟨World.grownBy_alloc w _ none, .inr rfl⟩)
  exact goes_row hd hdst (by simp only [execOp, ho, Sem.run_bind, hrun, Result.andThen_ok, Sem.run_pure]) h' hK

end
end Go.Proofs.Ytbcijglbinaioaa.Ev
