/- The evaluator: 'evQ' is told rightly, the rest. -/
import Derived.Test.YtbcijglbinaioaaEv5
set_option linter.unusedVariables false
set_option linter.unusedSimpArgs false
set_option linter.unusedSectionVars false
set_option linter.unnecessarySimpa false
namespace Go.Proofs.Ytbcijglbinaioaa.Ev
open Go.RowKit
section
variable {P : Program} {w0 : Bs} {F0 : Nat → Nat → Prop} {N : Nat} {s : St} {a : Act} {w : World} {f : Fr} {φ : Nat → Bd} {R : Type} {E : Env} {o : Oper} {K : AV → Option R} {r : R}

theorem q_load (hD : DOk P E.D) (h : Rel w0 F0 N s a w f φ) {t : Nat} {x : Operand} (ho : o.op = .load t x) (hK : evQ E s o K = some r) : ∃ v, Tells P a w f φ o v ∧ K v = some r := by
  unfold evQ at hK
  simp only [ho] at hK
  have hx := h.ev x
  split at hK <;> try contradiction
  rename_i d hd
  have ht := hD t d hd
  split at hK <;> try contradiction
  · rename_i b cs off hX
    rw [hX] at hx
    obtain ⟨us, g, o', hxv, hvs, hc⟩ := hx.epv
    split at hK <;> try contradiction
    rename_i hle
    exact ⟨_, run_load_at ht hvs (fun i hi => (hc i hi).1) hle ho hxv, hK⟩
  · rename_i κ off hX
    rw [hX] at hx
    obtain ⟨g, hxv, hg⟩ := hx.ptrv
    split at hK <;> try contradiction
    rename_i cs hob
    obtain ⟨t', vs, hh, hvs, _⟩ := (h.ob κ _ hob).boxv hg
    split at hK <;> try contradiction
    rename_i hle
    refine ⟨_, run_load_at ht hvs (o := 0) (fun i hi => ?_) hle ho (by rw [hxv, Nat.zero_add]), hK⟩
    rw [Nat.zero_add, cell_of_row w g i vs t' (0, 0) hh]
    simp
  · rename_i κ i off hX
    rw [hX] at hx
    obtain ⟨g, n, c, hxv, hg, hi⟩ := hx.rpv
    split at hK <;> try contradiction
    rename_i e ty els sn hob
    obtain ⟨rfl, hsz, hel⟩ := (h.ob κ _ hob).rowel hg
    rw [List.getElem?_eq_getElem hi] at hK
    simp only [Option.bind_some] at hK
    split at hK <;> try contradiction
    rename_i hle
    obtain ⟨es, hr, hc⟩ := hel i hi
    exact ⟨_, run_load_at ht (RT.enc (b := false) (hr.keeps (Fok false))) (fun j hj => hc j hj) hle ho (by rw [hxv, hsz]), hK⟩

theorem q_nilCheck (h : Rel w0 F0 N s a w f φ) {x : Operand} (ho : o.op = .nilCheck x) (hK : evQ E s o K = some r) : ∃ v, Tells P a w f φ o v ∧ K v = some r := by
  unfold evQ at hK
  simp only [ho] at hK
  have hx := h.ev x
  split at hK <;> try contradiction
  · rename_i b cs off hX
    rw [hX] at hx
    obtain ⟨us, g, o', hxv, _⟩ := hx.epv
    exact ⟨_, ⟨a.eval x, by simp [execOp, ho, hxv], hx⟩, hK⟩
  · rename_i κ off hX
    rw [hX] at hx
    obtain ⟨g, hxv, hg⟩ := hx.ptrv
    exact ⟨_, ⟨a.eval x, by simp [execOp, ho, hxv], hx⟩, hK⟩

theorem run_fieldAt {t : Nat} {d : TD} {fs : List (Nat × Nat × Nat)} (ht : TOk P t d) (hs : d.sh = .st fs) {i fo n ft : Nat} (hi : fs[i]? = some (fo, n, ft)) {g o' : Nat} (w : World) :
    (Instr.fieldAt t (.pointer (some ⟨g, o', none⟩)) i).run P w = .ok (.pointer (some ⟨g, o' + fo, none⟩)) w := by
  have hsh := ht.sh
  rw [hs] at hsh
  obtain ⟨flds, hu, hsz, hfl⟩ := hsh
  obtain ⟨fl, inf, h1, h2, h3, h4, h5, h6⟩ := hfl i fo n ft hi
  have hso : (sizeOf fl.type).run P w = .ok n w := by simp [sizeOf, typeInfo, h3, h4, h5]
  simp [Instr.fieldAt, run_underlying hu, h1, Instr.sureAddr, fieldPlace, hso, show n ≠ 0 by omega, add_at, h2]

theorem q_fieldAddr (hD : DOk P E.D) (h : Rel w0 F0 N s a w f φ) {t i : Nat} {x : Operand} (ho : o.op = .fieldAddr t x i) (hK : evQ E s o K = some r) : ∃ v, Tells P a w f φ o v ∧ K v = some r := by
  unfold evQ at hK
  simp only [ho] at hK
  have hx := h.ev x
  split at hK <;> try contradiction
  rename_i _ _ _ _ fs hd
  split at hK <;> try contradiction
  rename_i fo n ft hi
  have run := fun g o' => run_fieldAt (hD _ _ hd) rfl hi (g := g) (o' := o') w
  split at hK <;> try contradiction
  · rename_i b cs off hX
    rw [hX] at hx
    obtain ⟨us, g, o', hxv, hvs, hc⟩ := hx.epv
    refine ⟨_, ⟨.pointer (some ⟨g, o' + (off + fo), none⟩), by simp [execOp, ho, hxv, run, Nat.add_assoc], .ep b cs _ us g o' hvs hc⟩, hK⟩
  · rename_i κ off hX
    rw [hX] at hx
    obtain ⟨g, hxv, hg⟩ := hx.ptrv
    exact ⟨_, ⟨.pointer (some ⟨g, off + fo, none⟩), by simp [execOp, ho, hxv, run], .ptr κ _ g hg⟩, hK⟩
  · rename_i κ j off hX
    rw [hX] at hx
    obtain ⟨g, m, c, hxv, hg, hj⟩ := hx.rpv
    exact ⟨_, ⟨.pointer (some ⟨g, j * (φ κ).sz + (off + fo), none⟩), by simp [execOp, ho, hxv, run, Nat.add_assoc], .rp κ j _ g m c hg hj⟩, hK⟩

/-- A part of an aggregate. -/
theorem part_ok {t : Nat} {d : TD} (h : TOk P t d) {cs : List AV} {us : List Value} (hv : VRs w f φ cs us) {off : Nat} (hoff : off + d.size ≤ cs.length) :
    ∃ x, (part t us.toArray off).run P w = .ok x w ∧ VR w f φ (cellsAt cs off d.size d.agg) x := by
  have hl := hv.len
  unfold part cellsAt
  rw [Sem.run_bind, run_isAgg h]
  cases hg : d.agg with
  | true =>
    refine ⟨_, ?_, .agg _ _ ((hv.drop off).take d.size)⟩
    simp [run_sizeOf h]
  | false =>
    have h1 := h.one hg
    have hlt : off < us.length := by omega
    refine ⟨us[off], ?_, ?_⟩
    · simp [List.getElem?_eq_getElem hlt]
    · have hlt' : off < cs.length := by omega
      have : (cs.drop off).headD .top = cs[off] := by
        rw [List.headD_eq_head?_getD, List.head?_drop, List.getElem?_eq_getElem hlt']
        rfl
      simp only [Bool.false_eq_true, if_false, this]
      exact hv.get off hlt' hlt

theorem q_field (hD : DOk P E.D) (h : Rel w0 F0 N s a w f φ) {t i : Nat} {x : Operand} (ho : o.op = .field t x i) (hK : evQ E s o K = some r) : ∃ v, Tells P a w f φ o v ∧ K v = some r := by
  unfold evQ at hK
  simp only [ho] at hK
  have hx := h.ev x
  split at hK <;> try contradiction
  rename_i _ _ _ _ fs hd
  split at hK <;> try contradiction
  rename_i fo n ft hi
  split at hK <;> try contradiction
  rename_i cs d hX hft
  rw [hX] at hx
  obtain ⟨vs, hxv, hvs⟩ := hx.aggv
  split at hK <;> try contradiction
  rename_i hle
  simp only [Bool.and_eq_true, decide_eq_true_eq, beq_iff_eq] at hle
  obtain ⟨hle, rfl⟩ := hle
  have hsh := (hD _ _ hd).sh
  obtain ⟨flds, hu, hsz, hfl⟩ := hsh
  obtain ⟨fl, inf, h1, h2, h3, h4, h5, h6⟩ := hfl i fo _ ft hi
  obtain ⟨y, hr, hv⟩ := part_ok (P := P) (hD _ _ hft) hvs hle
  exact ⟨_, ⟨y, by simp [execOp, ho, hxv, Instr.field, run_underlying hu, h1, asAgg, h2, h3, hr], hv⟩, hK⟩

theorem run_indexAt_sl {t e : Nat} {d : TD} {ty : Ty} (ht : TOk P t d) (hs : d.sh = .sl e ty) {g o' n c : Nat} {k : IntKind} {i : Int} (h0 : 0 ≤ i) (h1 : i.toNat < n) (w : World) :
    (Instr.indexAt t (.slice (some ⟨g, o', none⟩) n c) (.int k i)).run P w = .ok (.pointer (some ⟨g, o' + i.toNat * ty.sz, none⟩)) w := by
  have hsh := ht.sh
  rw [hs] at hsh
  obtain ⟨hu, inf, z, hi, hsz, _⟩ := hsh
  simp [Instr.indexAt, asIntOf, run_underlying hu, sizeOf, typeInfo, hi, hsz, add_at, h0, show i < (n : Int) by omega]

theorem pickIdx_some {m : Int} {K : Nat → Option R} : ∀ (k j : Nat), pickIdx m K k j = some r → ∃ i, i < j + k ∧ m = (i : Int) ∧ K i = some r
  | 0, j, h => by simp [pickIdx] at h
  | k + 1, j, h => by
    simp only [pickIdx] at h
    cases hb : (m == (j : Int)) with
    | true =>
      rw [hb] at h
      exact ⟨j, by omega, by simpa using hb, h⟩
    | false =>
      rw [hb] at h
      obtain ⟨i, h1, h2, h3⟩ := pickIdx_some k (j + 1) h
      exact ⟨i, by omega, h2, h3⟩

theorem atIdx_some {n : Nat} {m : Int} {K : Nat → Option R} (h : atIdx n m K = some r) : 0 ≤ m ∧ m.toNat < n ∧ K m.toNat = some r := by
  unfold atIdx at h
  split at h
  · obtain ⟨i, h1, rfl, h3⟩ := pickIdx_some n 0 h
    exact ⟨Int.natCast_nonneg _, by simpa using h1, by simpa using h3⟩
  · cases hb : (decide (0 ≤ m) && decide (m.toNat < n)) with
    | false => rw [hb] at h; simp at h
    | true =>
      rw [hb] at h
      simp only [Bool.and_eq_true, decide_eq_true_eq] at hb
      exact ⟨hb.1, hb.2, h⟩

theorem q_indexAddr (hD : DOk P E.D) (h : Rel w0 F0 N s a w f φ) {t : Nat} {x y : Operand} (ho : o.op = .indexAddr t x y) (hK : evQ E s o K = some r) : ∃ v, Tells P a w f φ o v ∧ K v = some r := by
  unfold evQ at hK
  simp only [ho] at hK
  have hx := h.ev x
  have hy := h.ev y
  split at hK <;> try contradiction
  · rename_i _ _ _ _ e ty hd
    split at hK <;> try contradiction
    · rename_i b ty' l k n hX hY
      rw [hX] at hx
      rw [hY] at hy
      split at hK <;> try contradiction
      rename_i hty
      subst hty
      obtain ⟨A, m, c, hxv, hmc, hr⟩ := hx.slv
      cases hi : idxL l n with
      | none => simp [hi] at hK
      | some el =>
        rw [hi] at hK
        obtain ⟨h0, hlt, hel⟩ := idxL_some hi
        obtain ⟨g, o', es, hA, hl, hrt, hc⟩ := hr.2.2 _ hlt
        have hm := hr.1
        rw [hA] at hxv
        have run := run_indexAt_sl (hD _ _ hd) rfl (g := g) (o' := o') (n := m) (c := c) (k := k) h0 (by omega) w
        rw [hel] at hrt
        exact ⟨_, ⟨_, by simp [execOp, ho, hxv, hy.intv, run], .ep b _ 0 es g (o' + n.toNat * ty'.sz) (RT.enc hrt) hc⟩, hK⟩
    · rename_i κ k n hX hY
      rw [hX] at hx
      rw [hY] at hy
      split at hK <;> try contradiction
      rename_i e' ty' els sn hob
      split at hK <;> try contradiction
      rename_i hty
      subst hty
      have hb : (decide (0 ≤ n) && decide (n.toNat < els.length)) = true := by
        cases hb : (decide (0 ≤ n) && decide (n.toNat < els.length)) with
        | true => rfl
        | false => rw [hb] at hK; simp at hK
      rw [hb, cond_true] at hK
      simp only [Bool.and_eq_true, decide_eq_true_eq] at hb
      obtain ⟨A, c, hv, hA, hmax⟩ := slice_len (h.ob κ _ hob)
      rcases hA with hA | ⟨g, rfl⟩
      · omega
      · have run := run_indexAt_sl (hD _ _ hd) rfl (g := g) (o' := 0) (n := els.length) (c := c) (k := k) hb.1 hb.2 w
        have hsz : (φ κ).sz = ty'.sz := by obtain ⟨_, _, q, _⟩ := h.ob κ _ hob; exact q
        rw [← hsz, Nat.zero_add] at run
        exact ⟨_, ⟨_, by simp [execOp, ho, hx.rowv, hv, hy.intv, run], .rp κ n.toNat 0 g _ c hv hb.2⟩, hK⟩
  · rename_i _ _ _ _ n e esz hd
    have hsh := (hD _ _ hd).sh
    obtain ⟨hu, inf, hi, hsz, _⟩ := hsh
    have run : ∀ (g o' : Nat) (k : IntKind) (m : Int), 0 ≤ m → m.toNat < n → (Instr.indexAt t (.pointer (some ⟨g, o', none⟩)) (.int k m)).run P w = .ok (.pointer (some ⟨g, o' + m.toNat * esz, none⟩)) w := by
      intro g o' k m h0 h1
      simp [Instr.indexAt, asIntOf, run_underlying hu, Instr.sureAddr, sizeOf, typeInfo, hi, hsz, add_at, h0, show m < (n : Int) by omega]
    split at hK <;> try contradiction
    · rename_i κ off k m hX hY
      rw [hX] at hx
      rw [hY] at hy
      obtain ⟨h0, h1, hK⟩ := atIdx_some hK
      obtain ⟨g, hxv, hg⟩ := hx.ptrv
      exact ⟨_, ⟨_, by simp [execOp, ho, hxv, hy.intv, run g off k m h0 h1], .ptr κ _ g hg⟩, hK⟩
    · rename_i b cs off k m hX hY
      rw [hX] at hx
      rw [hY] at hy
      obtain ⟨h0, h1, hK⟩ := atIdx_some hK
      obtain ⟨us, g, o', hxv, hvs, hc⟩ := hx.epv
      exact ⟨_, ⟨.pointer (some ⟨g, o' + (off + m.toNat * esz), none⟩), by simp [execOp, ho, hxv, hy.intv, run g (o' + off) k m h0 h1, Nat.add_assoc], .ep b cs _ us g o' hvs hc⟩, hK⟩

theorem q_index (hD : DOk P E.D) (h : Rel w0 F0 N s a w f φ) {t : Nat} {x y : Operand} (ho : o.op = .index t x y) (hK : evQ E s o K = some r) : ∃ v, Tells P a w f φ o v ∧ K v = some r := by
  unfold evQ at hK
  simp only [ho] at hK
  have hx := h.ev x
  have hy := h.ev y
  split at hK <;> try contradiction
  rename_i _ _ _ _ n e hd
  obtain ⟨hu, inf, hi, hsz, hq⟩ := (hD _ _ hd).sh
  obtain ⟨u, hue, hua⟩ := hq rfl
  split at hK <;> try contradiction
  rename_i cs k m hX hY
  rw [hX] at hx
  rw [hY] at hy
  obtain ⟨vs, hxv, hvs⟩ := hx.aggv
  obtain ⟨h0, h12, hK⟩ := atIdx_some hK
  have h1 : m.toNat < n := by omega
  have h2 : m.toNat < cs.length := by omega
  have hlen := hvs.len
  have h3 : m.toNat < vs.length := by omega
  have hag : (isAgg e).run P w = .ok false w := by
    unfold isAgg
    rw [Sem.run_bind, run_underlying hue w, ← hua]
    cases u <;> rfl
  refine ⟨_, ⟨vs[m.toNat], ?_, ?_⟩, hK⟩
  · simp [execOp, ho, hxv, hy.intv, Instr.index, asIntOf, run_underlying hu, part, hag, sizeOf, typeInfo, hi, hsz, h0, show m < (n : Int) by omega, List.getElem?_eq_getElem h3]
  · rw [List.getD_eq_getElem?_getD, List.getElem?_eq_getElem h2, Option.getD_some]
    exact hvs.get _ h2 h3

theorem q_extract (h : Rel w0 F0 N s a w f φ) {i : Nat} {x : Operand} (ho : o.op = .extract x i) (hK : evQ E s o K = some r) : ∃ v, Tells P a w f φ o v ∧ K v = some r := by
  unfold evQ at hK
  simp only [ho] at hK
  have hx := h.ev x
  split at hK <;> try contradiction
  rename_i l hX
  rw [hX] at hx
  obtain ⟨vs, hxv, hvs⟩ := hx.tupv
  split at hK <;> try contradiction
  rename_i hlt
  have hlt' : i < vs.length := by have := hvs.len; omega
  refine ⟨_, ⟨vs[i], by simp [execOp, ho, hxv, Instr.extract, List.getElem?_eq_getElem hlt'], ?_⟩, hK⟩
  rw [List.getD_eq_getElem?_getD, List.getElem?_eq_getElem hlt, Option.getD_some]
  exact hvs.get i hlt hlt'

theorem Rel.evs (h : Rel w0 F0 N s a w f φ) : ∀ l : List Operand, VRs w f φ (l.map s.ev) (l.map a.eval)
  | [] => .nil
  | x :: l => .cons _ _ _ _ (h.ev x) (h.evs l)

theorem q_makeFunc (h : Rel w0 F0 N s a w f φ) {fn : Fn} {fi ca : Array Operand} (ho : o.op = .makeFunc fn fi ca) (hK : evQ E s o K = some r) : ∃ v, Tells P a w f φ o v ∧ K v = some r := by
  unfold evQ at hK
  simp only [ho] at hK
  cases fn <;> simp only [] at hK <;> try contradiction
  split at hK <;> try contradiction
  rename_i g he
  have hfi : fi = #[] := by simpa using he
  subst hfi
  refine ⟨_, ⟨.func (.func g) #[] (ca.toList.map a.eval).toArray, ?_, .fn g _ _ (h.evs ca.toList)⟩, hK⟩
  simp [execOp, ho, Instr.makeFunc]
  exact Array.ext' (by simp)

theorem run_sliceBounds {n c : Nat} (lo hi mx : Option Value) (l h m : Nat)
    (hm : (mx = none ∧ m = c) ∨ (∃ k, mx = some (.int k (m : Int)) ∧ m ≤ c))
    (hh : (hi = none ∧ mx = none ∧ h = n) ∨ (∃ k, hi = some (.int k (h : Int)) ∧ h ≤ m))
    (hl : (lo = none ∧ l = 0) ∨ (∃ k, lo = some (.int k (l : Int)) ∧ l ≤ h)) (w : World) :
    (Instr.sliceBounds true n c lo hi mx).run P w = .ok (l, h, m) w := by
  rcases hm with ⟨rfl, rfl⟩ | ⟨k1, rfl, h1⟩ <;> rcases hh with ⟨rfl, hh1, rfl⟩ | ⟨k2, rfl, h2⟩ <;> rcases hl with ⟨rfl, rfl⟩ | ⟨k3, rfl, h3⟩ <;>
    first
      | (simp [Instr.sliceBounds, Instr.sliceBound, asIntOf, *]; done)
      | (cases hh1)

theorem run_slice {t e : Nat} {d : TD} {ty : Ty} (ht : TOk P t d) (hs : d.sh = .sl e ty) {A : Option Addr} {n c : Nat} (lo hi mx : Option Value) (l h m : Nat) (w : World)
    (hb : (Instr.sliceBounds true n c lo hi mx).run P w = .ok (l, h, m) w) :
    (Instr.sliceAt t (.slice A n c) lo hi mx).run P w = .ok (.slice (if m = l then A else A.map (·.add (l * ty.sz))) (h - l) (m - l)) w := by
  have hsh := ht.sh
  rw [hs] at hsh
  obtain ⟨hu, inf, z, hi', hsz, _⟩ := hsh
  simp [Instr.sliceAt, run_underlying hu, Instr.slice, hb, sizeOf, typeInfo, hi', hsz]

theorem toNat_cast {n : Int} (h : 0 ≤ n) : ((n.toNat : Nat) : Int) = n := Int.toNat_of_nonneg h

/-- A part of what is only read. -/
theorem cut_ok {b : Bool} {ty : Ty} {l : List ty.den} {A : Option Addr} {n c lo h m : Nat} (hr : RS w (f.ok b) (RT w (f.ok b) ty) ty.sz A n l) (hn : n ≤ c) (h1 : lo ≤ h) (h2 : h ≤ l.length) (h3 : h ≤ m) (_ : m ≤ c) :
    RS w (f.ok b) (RT w (f.ok b) ty) ty.sz (if m = lo then A else A.map (·.add (lo * ty.sz))) (h - lo) ((l.take h).drop lo) := by
  split
  · rename_i hml
    have : h = lo := by omega
    subst this
    have : (l.take h).drop h = [] := by simp
    rw [this, Nat.sub_self]
    exact RS.empty A
  · exact (hr.take h h2).drop lo (by simp; omega)

theorem q_slice (hD : DOk P E.D) (h : Rel w0 F0 N s a w f φ) {t : Nat} {x : Operand} {lo hi mx : Option Operand} (ho : o.op = .slice t x lo hi mx) (hK : evQ E s o K = some r) : ∃ v, Tells P a w f φ o v ∧ K v = some r := by
  unfold evQ at hK
  simp only [ho] at hK
  have hx := h.ev x
  split at hK <;> try contradiction
  rename_i _ _ _ _ e ty hd
  split at hK <;> try contradiction
  rotate_left 1
  · rename_i e' t' hX
    rw [hX] at hx
    have hxv := hx.nilv
    have ho' : ∀ q : Option Operand, (∀ X, q.map s.ev = some X → ∃ Y, q.map a.eval = some Y ∧ VR w f φ X Y) ∧ (q.map s.ev = none → q.map a.eval = none) := by
      intro q
      cases q with
      | none => simp
      | some q => exact ⟨fun X hX => ⟨a.eval q, rfl, by simp at hX; subst hX; exact h.ev q⟩, by simp⟩
    have fin : (Instr.sliceBounds true 0 0 (lo.map a.eval) (hi.map a.eval) (mx.map a.eval)).run P w = .ok (0, 0, 0) w → Tells P a w f φ o (.nil e' t') := by
      intro hb
      refine ⟨.slice none 0 0, ?_, .nil _ _⟩
      simp [execOp, ho, hxv, run_slice (hD _ _ hd) rfl _ _ _ 0 0 0 w hb]
    unfold sliceN at hK
    split at hK <;> try contradiction
    · rename_i e1 e2 e3
      exact ⟨_, fin (run_sliceBounds _ _ _ 0 0 0 (.inl ⟨(ho' mx).2 e3, rfl⟩) (.inl ⟨(ho' hi).2 e2, (ho' mx).2 e3, rfl⟩) (.inl ⟨(ho' lo).2 e1, rfl⟩) w), hK⟩
    · rename_i k hh e1 e2 e3
      cases hc : (hh == 0) with
      | false => rw [hc] at hK; simp at hK
      | true =>
        rw [hc] at hK
        have : hh = 0 := by simpa using hc
        subst this
        obtain ⟨Y, hY, hv⟩ := (ho' hi).1 _ e2
        rw [hv.intv] at hY
        exact ⟨_, fin (run_sliceBounds _ _ _ 0 0 0 (.inl ⟨(ho' mx).2 e3, rfl⟩) (.inr ⟨k, hY, Nat.le_refl _⟩) (.inl ⟨(ho' lo).2 e1, rfl⟩) w), hK⟩
  rename_i b ty' l hX
  rw [hX] at hx
  split at hK <;> try contradiction
  rename_i hty
  subst hty
  obtain ⟨A, n, c, hxv, hnc, hr⟩ := hx.slv
  have hln := hr.1
  have ho' : ∀ q : Option Operand, (∀ X, q.map s.ev = some X → ∃ Y, q.map a.eval = some Y ∧ VR w f φ X Y) ∧ (q.map s.ev = none → q.map a.eval = none) := by
    intro q
    cases q with
    | none => simp
    | some q => exact ⟨fun X hX => ⟨a.eval q, rfl, by simp at hX; subst hX; exact h.ev q⟩, by simp⟩
  have fin : ∀ (lo' h' m' : Nat) (v : AV), (Instr.sliceBounds true n c (lo.map a.eval) (hi.map a.eval) (mx.map a.eval)).run P w = .ok (lo', h', m') w →
      VR w f φ v (.slice (if m' = lo' then A else A.map (·.add (lo' * ty'.sz))) (h' - lo') (m' - lo')) → Tells P a w f φ o v := by
    intro lo' h' m' v hb hv
    refine ⟨_, ?_, hv⟩
    simp [execOp, ho, hxv, run_slice (hD _ _ hd) rfl _ _ _ lo' h' m' w hb]
  have two : ∀ {p q : Prop} [Decidable p] [Decidable q] {X : Option R}, (bif decide p && decide q then X else none) = some r → p ∧ q ∧ X = some r := by
    intro p q _ _ X hh
    by_cases hp : p <;> by_cases hq : q <;> simp [hp, hq] at hh ⊢
    exact hh
  obtain ⟨l1, l2⟩ := ho' lo
  obtain ⟨h1, h2⟩ := ho' hi
  obtain ⟨m1, m2⟩ := ho' mx
  unfold sliceI at hK
  split at hK <;> try contradiction
  · rename_i e1 e2 e3
    refine ⟨_, fin 0 n c _ (run_sliceBounds _ _ _ 0 n c (.inl ⟨m2 e3, rfl⟩) (.inl ⟨h2 e2, m2 e3, rfl⟩) (.inl ⟨l2 e1, rfl⟩) w) ?_, hK⟩
    have := cut_ok hr hnc (lo := 0) (h := n) (m := c) (Nat.zero_le _) (by omega) hnc (Nat.le_refl _)
    simp only [← hln, List.take_length, List.drop_zero] at this
    rw [hln] at this
    exact .sl b ty' l _ _ _ (by omega) this
  · rename_i k hh e1 e2 e3
    obtain ⟨p1, p2, hK⟩ := two hK
    obtain ⟨Y, hY, hv⟩ := h1 _ e2
    have hy := hv.intv
    rw [hy] at hY
    refine ⟨_, fin 0 hh.toNat c _ (run_sliceBounds _ _ _ 0 hh.toNat c (.inl ⟨m2 e3, rfl⟩) (.inr ⟨k, by rw [toNat_cast p1]; exact hY, by omega⟩) (.inl ⟨l2 e1, rfl⟩) w) ?_, hK⟩
    have := cut_ok hr hnc (lo := 0) (h := hh.toNat) (m := c) (Nat.zero_le _) p2 (by omega) (Nat.le_refl _)
    rw [List.drop_zero] at this
    exact .sl b ty' _ _ _ _ (by omega) this
  · rename_i k aa e1 e2 e3
    obtain ⟨p1, p2, hK⟩ := two hK
    obtain ⟨Y, hY, hv⟩ := l1 _ e1
    have hy := hv.intv
    rw [hy] at hY
    refine ⟨_, fin aa.toNat n c _ (run_sliceBounds _ _ _ aa.toNat n c (.inl ⟨m2 e3, rfl⟩) (.inl ⟨h2 e2, m2 e3, rfl⟩) (.inr ⟨k, by rw [toNat_cast p1]; exact hY, by omega⟩) w) ?_, hK⟩
    have := cut_ok hr hnc (lo := aa.toNat) (h := n) (m := c) (by omega) (by omega) hnc (Nat.le_refl _)
    simp only [← hln, List.take_length] at this
    rw [hln] at this
    exact .sl b ty' _ _ _ _ (by omega) this
  · rename_i k aa k' hh e1 e2 e3
    rw [← Bool.decide_and] at hK
    obtain ⟨p1, ⟨p2, p3⟩, hK⟩ := two hK
    obtain ⟨Y, hY, hv⟩ := l1 _ e1
    rw [hv.intv] at hY
    obtain ⟨Z, hZ, hv'⟩ := h1 _ e2
    rw [hv'.intv] at hZ
    refine ⟨_, fin aa.toNat hh.toNat c _ (run_sliceBounds _ _ _ aa.toNat hh.toNat c (.inl ⟨m2 e3, rfl⟩) (.inr ⟨k', by rw [toNat_cast (by omega)]; exact hZ, by omega⟩) (.inr ⟨k, by rw [toNat_cast p1]; exact hY, by omega⟩) w) ?_, hK⟩
    exact .sl b ty' _ _ _ _ (by omega) (cut_ok hr hnc (by omega) p3 (by omega) (Nat.le_refl _))
  · rename_i k hh k' m e1 e2 e3
    rw [show (hh == m) = decide (hh = m) from rfl, ← Bool.decide_and] at hK
    obtain ⟨p1, ⟨p2, rfl⟩, hK'⟩ := two hK
    obtain ⟨Z, hZ, hv'⟩ := h1 _ e2
    rw [hv'.intv] at hZ
    obtain ⟨M, hM, hv2⟩ := m1 _ e3
    rw [hv2.intv] at hM
    refine ⟨_, fin 0 hh.toNat hh.toNat _ (run_sliceBounds _ _ _ 0 hh.toNat hh.toNat (.inr ⟨k', by rw [toNat_cast p1]; exact hM, by omega⟩) (.inr ⟨k, by rw [toNat_cast p1]; exact hZ, Nat.le_refl _⟩) (.inl ⟨l2 e1, rfl⟩) w) ?_, hK'⟩
    have := cut_ok hr hnc (lo := 0) (h := hh.toNat) (m := hh.toNat) (Nat.zero_le _) p2 (Nat.le_refl _) (by omega)
    rw [List.drop_zero] at this
    exact .xs b ty' _ _ _ this
  · rename_i k aa k' hh k2 m e1 e2 e3
    rw [show (hh == m) = decide (hh = m) from rfl, ← Bool.decide_and, ← Bool.decide_and] at hK
    obtain ⟨p1, ⟨p2, p3, rfl⟩, hK'⟩ := two hK
    obtain ⟨Y, hY, hv⟩ := l1 _ e1
    rw [hv.intv] at hY
    obtain ⟨Z, hZ, hv'⟩ := h1 _ e2
    rw [hv'.intv] at hZ
    obtain ⟨M, hM, hv2⟩ := m1 _ e3
    rw [hv2.intv] at hM
    refine ⟨_, fin aa.toNat hh.toNat hh.toNat _ (run_sliceBounds _ _ _ aa.toNat hh.toNat hh.toNat (.inr ⟨k2, by rw [toNat_cast (by omega)]; exact hM, by omega⟩) (.inr ⟨k', by rw [toNat_cast (by omega)]; exact hZ, Nat.le_refl _⟩) (.inr ⟨k, by rw [toNat_cast p1]; exact hY, by omega⟩) w) ?_, hK'⟩
    exact .xs b ty' _ _ _ (cut_ok hr hnc (by omega) p3 (Nat.le_refl _) (by omega))
end
end Go.Proofs.Ytbcijglbinaioaa.Ev
