/- The evaluator: 'evO' is told rightly: boxes, stores, literals, makes, appends. -/
import Derived.Test.YtbcijglbinaioaaEv8
set_option linter.unusedVariables false
set_option linter.unusedSimpArgs false
set_option linter.unusedSectionVars false
set_option linter.unnecessarySimpa false
namespace Go.Proofs.Ytbcijglbinaioaa.Ev
open Go.RowKit
section
variable {P : Program} {w0 : Bs} {F0 : Nat → Nat → Prop} {N : Nat} {s : St} {a : Act} {w : World} {f : Fr} {φ : Nat → Bd}

theorem sc_far {g : Nat} : ∀ (vs : List Value) (o : Nat) {w : World} (k : Nat), k ≠ g → (w.setCells g o vs).heap[k]? = w.heap[k]?
  | [], _, _, _, _ => rfl
  | v :: r, o, w, k, hk => by
    rw [World.setCells, sc_far r (o + 1) k hk]
    exact Below.heap_setCell w ⟨g, o, none⟩ v k hk
theorem sc_same (g : Nat) : ∀ (vs : List Value) (o : Nat) (w : World), (w.setCells g o vs).os = w.os ∧ (w.setCells g o vs).tape = w.tape ∧ (w.setCells g o vs).output = w.output ∧ (w.setCells g o vs).heap.size = w.heap.size
  | [], _, _ => ⟨rfl, rfl, rfl, rfl⟩
  | v :: r, o, w => by
    obtain ⟨h1, h2, h3, h4⟩ := sc_same g r (o + 1) (w.setCell ⟨g, o, none⟩ v)
    rw [World.setCells]
    exact ⟨h1, h2, h3, by rw [h4]; simp [World.setCell]⟩
theorem sc_row {g : Nat} {e : TypeId} : ∀ (vs : List Value) (o : Nat) (w : World) (cur : Array Value), w.heap[g]? = some (.cells cur e (0, 0)) → o + vs.length ≤ cur.size →
    ∃ cur', (w.setCells g o vs).heap[g]? = some (.cells cur' e (0, 0)) ∧ cur'.size = cur.size ∧ cur'.toList = cur.toList.take o ++ vs ++ cur.toList.drop (o + vs.length)
  | [], o, w, cur, h, _ => ⟨cur, h, rfl, by simp⟩
  | v :: r, o, w, cur, h, hl => by
    have h2 := heap_setCell_same w g o cur e v h
    simp only [List.length_cons] at hl
    obtain ⟨cur', h3, h4, h5⟩ := sc_row r (o + 1) (w.setCell ⟨g, o, none⟩ v) _ h2 (by simp; omega)
    refine ⟨cur', h3, by rw [h4]; simp, ?_⟩
    rw [h5, Array.toList_setIfInBounds]
    have ho : o < cur.toList.length := by rw [Array.length_toList]; omega
    rw [List.take_set, List.drop_set_of_lt (by omega)]
    simp only [List.length_cons]
    rw [show o + 1 + r.length = o + (r.length + 1) by omega]
    congr 1
    rw [List.take_succ_eq_append_getElem ho, List.set_append_right _ _ (by rw [List.length_take]; omega)]
    have ho' : o < cur.size := by omega
    simp [Nat.min_eq_left (Nat.le_of_lt ho')]
theorem sc_grown (g o : Nat) (vs : List Value) (w : World) : w.grownBy (w.setCells g o vs) (some g) :=
  let h := sc_same g vs o w
  ⟨h.1, h.2.1, h.2.2.1, Nat.le_of_eq h.2.2.2.symm, fun k _ hk => sc_far vs o k (fun e => hk (by rw [e]))⟩

/-- An object turned where it lies. -/
theorem Rel.setG (h : Rel w0 F0 N s a w f φ) {w' : World} {g : Nat} (hg : w.grownBy w' (some g)) (κ : Nat) (o0 ob : OB) (ho : getO s.ob κ = some o0) (hblk : (φ κ).blk = some g)
    (hF : ∀ o, ¬ f.F g o) (hor : FKeeps w w' f f → OR w' f φ κ ob) : Rel w0 F0 N { s with ob := .set κ ob :: s.ob } a w' f φ := by
  have hlt := (h.ob κ o0 ho).blk_lt g hblk
  have hk : FKeeps w w' f f := ⟨rfl, fun _ _ q => q, fun g' o u hp hc => by
    have hne : g' ≠ g := by
      rintro rfl
      rcases hp with hp | hp
      · exact hF o hp
      · omega
    rw [World.cell?_of_block (w := w) (hg.block g' (cell_lt hc) (by simpa using hne))]
    exact hc⟩
  refine ⟨fun t => (h.tm t).keeps hk, fun κ' o' ho' => ?_, fun κ1 κ2 o1 o2 g' h1 h2 => ?_, h.n0, h.F0s, h.Fnew, fun g o q => Nat.lt_of_lt_of_le (h.Flt g o q) hg.size, ?_, h.defers, h.size, h.one, fun ψ κ' o' ho' => ?_, fun ψ κ' o' g' ho' hgb κ1 o1 h1 => ?_, fun ψ v x hx => (h.hvs ψ v x hx).keeps hk, h.bx, h.Nle⟩
  · simp only [getO] at ho'
    split at ho'
    · rename_i he
      subst he
      simp only [Option.some.injEq] at ho'
      subst ho'
      exact hor hk
    · rename_i hne
      have hor' := h.ob κ' o' ho'
      have hb : ∀ g', (φ κ').blk = some g' → g' ≠ g := fun g' hb' e => hne (h.dis κ κ' _ _ g ho ho' hblk (e ▸ hb'))
      have hsame : ∀ g', (φ κ').blk = some g' → w'.heap[g']? = w.heap[g']? := fun g' hgb => hg.block g' (hor'.blk_lt g' hgb).2 (by simpa using hb g' hgb)
      cases o' with
      | box cs =>
        obtain ⟨g', t, vs, hv, h0, hh, hvs, hF'⟩ := hor'
        exact ⟨g', t, vs, hv, h0, by rw [hsame g' (by simp [Bd.blk, hv])]; exact hh, hvs.keeps hk, hF'⟩
      | row e t els sn =>
        obtain ⟨xs, hown, hsz, hrl, hF'⟩ := hor'
        refine ⟨xs, hown.kept hg ?_, hsz, hrl.keeps hk.Fk, hF'⟩
        cases hob : (φ κ').v.ownBlock with
        | none => exact .inl rfl
        | some g' => exact .inr fun e1 => hb g' (ownBlock_blk hob) (by simpa using e1)
  · have cls : ∀ κ' o', getO (.set κ ob :: s.ob) κ' = some o' → ∃ q, getO s.ob κ' = some q := by
      intro κ' o' ho'
      simp only [getO] at ho'
      split at ho'
      · rename_i he; subst he; exact ⟨_, ho⟩
      · exact ⟨_, ho'⟩
    obtain ⟨q1, hq1⟩ := cls κ1 o1 h1
    obtain ⟨q2, hq2⟩ := cls κ2 o2 h2
    exact h.dis κ1 κ2 q1 q2 g' hq1 hq2
  · refine h.below.grown hg h.below.size fun k hk' => ?_
    simp only [Option.some.injEq] at hk'
    have := h.n0
    omega
  · have hor' := h.hid ψ κ' o' ho'
    exact hor'.stays hk (fun g1 hgb => hg.block g1 (hor'.blk_lt g1 hgb).2 fun e => by
      simp only [Option.some.injEq] at e
      subst e
      exact h.hdis ψ κ' o' g1 ho' hgb κ o0 ho hblk) fun _ _ _ q => q
  · have : ∃ q, getO s.ob κ1 = some q := by
      simp only [getO] at h1
      split at h1
      · rename_i he; subst he; exact ⟨_, ho⟩
      · exact ⟨_, h1⟩
    obtain ⟨q, hq⟩ := this
    exact h.hdis ψ κ' o' g' ho' hgb κ1 q hq

theorem run_storeVar_cells {ty : TypeId} {b o : Nat} {x : Value} {cur : Array Value} {t : TypeId} (hh : w.heap[b]? = some (.cells cur t (0, 0))) (hl : o + x.cells.size ≤ cur.size)
    (hi : (P.info? ty).map (·.size) = some x.cells.size) (h1 : ∀ u ∈ x.cells.toList, u.oneCell' = true) :
    (storeVar ty ⟨b, o, none⟩ x).run P w = .ok () (w.setCells b o x.cells.toList) := by
  have := run_storeCells_cells (P := P) b o x.cells.toList 0 w (fun j hj => by
      rw [cell_of_row w b _ cur t (0, 0) hh]
      simp only [Array.length_toList] at hj
      simp
      omega) (fun j hj => by simp [World.frozen?, hh]) h1
  cases hq : P.info? ty with
  | none => simp [hq] at hi
  | some i =>
    have hs : x.cells.size = i.size := by simp [hq] at hi; omega
    simp only [Nat.add_zero] at this
    simp [storeVar, sizeOf, typeInfo, hq, hs, this]

theorem frz_single (v : AV) (n : Nat) (ob : List OE) (h : v.cellOk = true) : (frz ob (n + 1) v).cells = [frz ob (n + 1) v] := by
  cases v <;> first
    | (simp [AV.cellOk] at h; done)
    | rfl
    | (simp only [frz]; split <;> rfl)

theorem VR.frzCells (h : Rel w0 F0 N s a w f φ) (φ' : Nat → Bd) (n0' : Nat) {v : AV} {x : Value} (hv : VR w f φ v x) (hc : v.cells.all AV.cellOk = true) (hz : ∀ κ ∈ frzKeys s.ob 3 v, Fz f φ s.ob κ) :
    VRs w ⟨n0', f.F⟩ φ' (frz s.ob 3 v).cells x.cells.toList ∧ (frz s.ob 3 v).cells.length = v.cells.length := by
  by_cases hok : v.cellOk = true
  · rw [frz_single v 2 _ hok, cells_one (hv.oneCell h.one hok)]
    refine ⟨.cons _ _ _ _ (frz_ok0 φ' n0' 3 s.ob h.ob v x hv hz) .nil, ?_⟩
    cases v <;> first | rfl | (simp [AV.cellOk] at hok)
  · cases hv <;> first
      | (simp [AV.cellOk] at hok; done)
      | (simp [AV.cells, AV.cellOk] at hc; done)
      | skip
    rename_i l vs hs
    refine ⟨?_, by simp [frz, AV.cells]⟩
    simp only [frz, AV.cells, Value.cells]
    refine VRs.mapS _ hs fun v' hv' x' hx' => frz_ok0 φ' n0' 2 s.ob h.ob v' x' hx' fun κ hκ => hz κ ?_
    simp only [frzKeys, List.mem_flatMap]
    exact ⟨v', hv', hκ⟩

theorem dec_bad (v : AV) (hv : v = .top ∨ ∃ l, v = .tup l) : ∀ (t : Ty) (r : List AV), dec t (v :: r) = none
  | .int k, r => by rcases hv with rfl | ⟨l, rfl⟩ <;> rfl
  | .bool, r => by rcases hv with rfl | ⟨l, rfl⟩ <;> rfl
  | .slice t, r => by rcases hv with rfl | ⟨l, rfl⟩ <;> rfl
  | .pair a b, r => by simp only [dec, dec_bad v hv a r]

theorem VR.decCells (h : Rel w0 F0 N s a w f φ) (φ' : Nat → Bd) (n0' : Nat) {v : AV} {x : Value} (hv : VR w f φ v x) {t : Ty} {p} (hd : dec t (frz s.ob 3 v).cells = some p) (hz : ∀ κ ∈ frzKeys s.ob 3 v, Fz f φ s.ob κ) :
    VRs w ⟨n0', f.F⟩ φ' (frz s.ob 3 v).cells x.cells.toList := by
  have hone := fun (q : v.cellOk = true) => hv.oneCell h.one q
  have hfr := frz_ok0 φ' n0' 3 s.ob h.ob v x hv hz
  by_cases hok : v.cellOk = true
  · rw [frz_single v 2 _ hok, cells_one (hone hok)]
    exact .cons _ _ _ _ hfr .nil
  · cases hv <;> first
      | (simp [AV.cellOk] at hok; done)
      | (simp only [frz, AV.cells] at hd; rw [dec_bad _ (by simp)] at hd; simp at hd; done)
      | skip
    rename_i l vs hs
    simp only [frz, AV.cells, Value.cells]
    refine VRs.mapS _ hs fun v' hv' x' hx' => frz_ok0 φ' n0' 2 s.ob h.ob v' x' hx' fun κ hκ => hz κ ?_
    simp only [frzKeys, List.mem_flatMap]
    exact ⟨v', hv', hκ⟩

end
end Go.Proofs.Ytbcijglbinaioaa.Ev
