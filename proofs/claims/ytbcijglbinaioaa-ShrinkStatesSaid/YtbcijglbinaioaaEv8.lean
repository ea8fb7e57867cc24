/- The evaluator: objects made and turned. -/
import Derived.Test.YtbcijglbinaioaaEv7
import Derived.Maps.AppendAt
set_option linter.unusedVariables false
set_option linter.unusedSimpArgs false
set_option linter.unusedSectionVars false
set_option linter.unnecessarySimpa false
namespace Go.Proofs.Ytbcijglbinaioaa.Ev
open Go.RowKit
section
variable {P : Program} {w0 : Bs} {F0 : Nat → Nat → Prop} {N : Nat} {s : St} {a : Act} {w : World} {f : Fr} {φ : Nat → Bd}

theorem VR.killed {w' : World} {f' : Fr} (hk : FKeeps w w' f f') (κ : Nat) (b : Bd) {v : AV} {x : Value} (h : VR w f φ v x) : VR w' f' (upd φ κ b) (killV κ v) x := (h.keeps hk).kill κ b

theorem getO_new (s : St) (κ κ' : Nat) (o : OB) : getO (s.new κ o).ob κ' = if κ = κ' then some o else (getO s.ob κ').map (OB.kill κ) := by
  simp only [St.new, getO]

/-- An object under a key, new or turned; the world may have turned one row of it. -/
theorem Rel.newG (h : Rel w0 F0 N s a w f φ) {w' : World} {row : Option Nat} (hg : w.grownBy w' row) (κ : Nat) (ob : OB) (b : Bd) (hb1 : b.v.oneCell' = true)
    (hrow : ∀ g, row = some g → w0.heap.size ≤ g ∧ ∀ κ' o', κ' ≠ κ → getO s.ob κ' = some o' → (φ κ').blk ≠ some g)
    (hrowH : ∀ g, row = some g → ∀ ψ κ' o', w0.ho ψ κ' o' → (ψ κ').blk ≠ some g) (hbx : ∀ g, 1000000 ≤ κ → κ < 1001000 → (w0.φ0 κ).v ≠ .pointer (some ⟨g, 0, none⟩))
    (hcell : ∀ g o u, f.F g o → w.cell? ⟨g, o, none⟩ = some u → w'.cell? ⟨g, o, none⟩ = some u)
    (hfresh : ∀ g, b.blk = some g → w.heap.size ≤ g ∨ row = some g)
    (hor : FKeeps w w' f f → OR w' f (upd φ κ b) κ ob) : Rel w0 F0 N (s.new κ ob) a w' f (upd φ κ b) := by
  have hn := h.n0
  have hbs : ∀ g, g < w0.heap.size → w'.heap[g]? = w.heap[g]? := fun g hlt => hg.block g (Nat.lt_of_lt_of_le hlt h.below.size) (fun e => by have := (hrow g e.symm).1; omega)
  have hk : FKeeps w w' f f := ⟨rfl, fun _ _ q => q, fun g o u hp hc => by
    rcases hp with hp | hp
    · exact hcell g o u hp hc
    · rw [hn] at hp
      rw [World.cell?_of_block (w := w) (hbs g hp)]
      exact hc⟩
  have hfar : ∀ κ' o', κ' ≠ κ → getO s.ob κ' = some o' → OR w' f (upd φ κ b) κ' (o'.kill κ) := by
    intro κ' o' hne ho
    have hor' := h.ob κ' o' ho
    have hblk : ∀ g, (φ κ').blk = some g → w'.heap[g]? = w.heap[g]? := fun g hgb => hg.block g (hor'.blk_lt g hgb).2 (fun e => (hrow g e.symm).2 κ' o' hne ho hgb)
    cases o' with
    | box cs =>
      obtain ⟨g, t, vs, hv, h0, hh, hvs, hF⟩ := hor'
      refine ⟨g, t, vs, by rw [upd_ne φ b hne]; exact hv, h0, ?_, ?_, hF⟩
      · rw [hblk g (by simp [Bd.blk, hv])]; exact hh
      · have := (hvs.keeps hk).kill κ b
        rwa [killL_map] at this
    | row e t els sn =>
      obtain ⟨xs, hown, hsz, hrl, hF⟩ := hor'
      refine ⟨xs, ?_, by rw [upd_ne φ b hne]; exact hsz, hrl.keeps hk.Fk, by rw [upd_ne φ b hne]; exact hF⟩
      rw [upd_ne φ b hne]
      refine hown.kept hg ?_
      cases hob : (φ κ').v.ownBlock with
      | none => exact .inl rfl
      | some g => exact .inr fun e1 => (hrow g e1.symm).2 κ' (.row e t els sn) hne ho (ownBlock_blk hob)
  refine ⟨fun t => ?_, fun κ' o' ho => ?_, fun κ1 κ2 o1 o2 g h1 h2 hb1' hb2' => ?_, hn, h.F0s, h.Fnew, fun g o q => Nat.lt_of_lt_of_le (h.Flt g o q) hg.size, ?_, h.defers, h.size, fun κ' => ?_, fun ψ κ' o' ho => ?_, fun ψ κ' o' g ho hgb κ1 o1 h1 => ?_, fun ψ v x hx => (h.hvs ψ v x hx).keeps hk, fun κ' g h1 h2 h3 => ?_, h.Nle⟩
  · show VR w' f (upd φ κ b) (killV κ (getT s.tm t)) _
    exact (h.tm t).killed hk κ b
  · rw [getO_new] at ho
    split at ho
    · rename_i he
      subst he
      simp only [Option.some.injEq] at ho
      subst ho
      exact hor hk
    · rename_i hne
      cases hq : getO s.ob κ' with
      | none => simp [hq] at ho
      | some q =>
        rw [hq] at ho
        simp only [Option.map_some, Option.some.injEq] at ho
        subst ho
        exact hfar κ' q (fun e => hne e.symm) hq
  · have cls : ∀ κ' o', getO (s.new κ ob).ob κ' = some o' → κ' ≠ κ → ∃ q, getO s.ob κ' = some q := by
      intro κ' o' ho hne
      rw [getO_new, if_neg (fun e => hne e.symm)] at ho
      cases hq : getO s.ob κ' with
      | none => simp [hq] at ho
      | some q => exact ⟨q, rfl⟩
    have far : ∀ κ' o', getO (s.new κ ob).ob κ' = some o' → κ' ≠ κ → ∀ g, b.blk = some g → (φ κ').blk ≠ some g := by
      intro κ' o' ho hne g hgb he
      obtain ⟨q, hq⟩ := cls κ' o' ho hne
      rcases hfresh g hgb with hge | hro
      · have := ((h.ob κ' q hq).blk_lt g he).2
        omega
      · exact (hrow g hro).2 κ' q hne hq he
    by_cases e1 : κ1 = κ
    · by_cases e2 : κ2 = κ
      · rw [e1, e2]
      · subst e1
        rw [upd_same] at hb1'
        rw [upd_ne φ b e2] at hb2'
        exact absurd hb2' (far κ2 o2 h2 e2 g hb1')
    · by_cases e2 : κ2 = κ
      · subst e2
        rw [upd_same] at hb2'
        rw [upd_ne φ b e1] at hb1'
        exact absurd hb1' (far κ1 o1 h1 e1 g hb2')
      · rw [upd_ne φ b e1] at hb1'
        rw [upd_ne φ b e2] at hb2'
        obtain ⟨q1, hq1⟩ := cls κ1 o1 h1 e1
        obtain ⟨q2, hq2⟩ := cls κ2 o2 h2 e2
        exact h.dis κ1 κ2 q1 q2 g hq1 hq2 hb1' hb2'
  · exact h.below.grown hg h.below.size fun k hk' => (hrow k hk').1
  · by_cases e : κ' = κ
    · subst e; rw [upd_same]; exact hb1
    · rw [upd_ne φ b e]; exact h.one κ'
  · have hor' := h.hid ψ κ' o' ho
    exact hor'.stays hk (fun g hgb => hg.block g (hor'.blk_lt g hgb).2 fun e => hrowH g e.symm ψ κ' o' ho hgb) fun _ _ _ q => q
  · by_cases e : κ1 = κ
    · subst e
      rw [upd_same]
      intro he
      rcases hfresh g he with hge | hro
      · have := ((h.hid ψ κ' o' ho).blk_lt g hgb).2
        omega
      · exact hrowH g hro ψ κ' o' ho hgb
    · rw [upd_ne φ b e]
      rw [getO_new, if_neg (fun q => e q.symm)] at h1
      cases hq : getO s.ob κ1 with
      | none => simp [hq] at h1
      | some q => exact h.hdis ψ κ' o' g ho hgb κ1 q hq
  · by_cases e : κ' = κ
    · subst e; exact absurd h3 (hbx g h1 h2)
    · rw [upd_ne φ b e]; exact h.bx κ' g h1 h2 h3

theorem getT_put_same (s : St) (d : Nat) (v : AV) : (s.put (some d) v).tm = .set d v :: s.tm := rfl

theorem Rel.newAlloc (h : Rel w0 F0 N s a w f φ) (κ : Nat) (hκ : κ < 1000000) (cs : List AV) (vs : Array Value) (t : Nat) (hv : VRs w f φ cs vs.toList) :
    Rel w0 F0 N (s.new κ (.box (cs.map (killV κ)))) a (w.alloc (.cells vs t)) f (upd φ κ ⟨.pointer (some ⟨w.heap.size, 0, none⟩), 0⟩) := by
  refine h.newG (row := none) (World.grownBy_alloc w _ none) κ _ _ rfl (fun g e => by cases e) (fun g e => by cases e) (fun g h1 => by omega) (fun g o u _ hc => ?_) (fun g hb => ?_) (fun hk => ?_)
  · exact (World.cell?_of_block (w := w) (heap_alloc_old w _ g (cell_lt hc))).trans hc
  · simp only [Bd.blk, Option.some.injEq] at hb
    exact .inl (by omega)
  · refine ⟨w.heap.size, t, vs, by rw [upd_same], h.n0le, heap_alloc_new w _, ?_, fun o q => absurd (h.Flt _ _ q) (Nat.lt_irrefl _)⟩
    have := (hv.keeps hk).kill κ ⟨.pointer (some ⟨w.heap.size, 0, none⟩), 0⟩
    rwa [killL_map] at this

/-- What lies in a slice, cell by cell. -/
theorem RS.flat {p q : Nat → Nat → Prop} {t : Ty} : ∀ {l : List t.den} {A : Option Addr} {n : Nat}, RS w p (RT w q t) t.sz A n l →
    ∃ xs, RL w q t l xs ∧ ∀ j u, xs[j]? = some u → ∃ g o, A = some ⟨g, o, none⟩ ∧ w.cell? ⟨g, o + j, none⟩ = some u ∧ p g (o + j)
  | [], A, n, _ => ⟨[], .nil, fun j u h => by simp at h⟩
  | x :: l, A, n, h => by
    obtain ⟨g, o, es, hA, hl, hr, hc⟩ := h.2.2 0 (by simp)
    have h' := h.drop 1 (by simp)
    simp only [List.drop_succ_cons, List.drop_zero] at h'
    obtain ⟨xs, h1, h2⟩ := RS.flat h'
    refine ⟨es ++ xs, .cons x l es xs hr h1, fun j u hj => ?_⟩
    rcases Nat.lt_or_ge j es.length with hlt | hge
    · rw [List.getElem?_append_left hlt, List.getElem?_eq_getElem hlt] at hj
      have := hc j hlt
      simp only [Nat.zero_mul, Nat.add_zero] at this
      simp only [Option.some.injEq] at hj
      subst hj
      exact ⟨g, o, hA, this⟩
    · rw [List.getElem?_append_right hge] at hj
      obtain ⟨g', o', hA', hc'⟩ := h2 _ _ hj
      rw [hA] at hA'
      simp only [Option.map_some, add_at, Option.some.injEq, Addr.mk.injEq, and_true, Nat.one_mul] at hA'
      obtain ⟨rfl, rfl⟩ := hA'
      refine ⟨g, o, hA, ?_⟩
      rwa [show o + t.sz + (j - es.length) = o + j by omega] at hc'

theorem RT.one {p : Nat → Nat → Prop} : ∀ {t : Ty} {x : t.den} {cs : List Value}, RT w p t x cs → ∀ u ∈ cs, u.oneCell' = true
  | .int _, _, _, h => by simp only [RT] at h; subst h; intro u hu; simp at hu; subst hu; rfl
  | .bool, _, _, h => by simp only [RT] at h; subst h; intro u hu; simp at hu; subst hu; rfl
  | .slice _, _, _, h => by
    simp only [RT] at h
    obtain ⟨A, n, c, rfl, _⟩ := h
    intro u hu; simp at hu; subst hu; rfl
  | .pair a b, _, _, h => by
    simp only [RT] at h
    obtain ⟨c1, c2, rfl, h1, h2⟩ := h
    intro u hu
    rcases List.mem_append.1 hu with hu | hu
    · exact h1.one u hu
    · exact h2.one u hu

theorem RL.one {p : Nat → Nat → Prop} {t : Ty} : ∀ {l : List t.den} {xs : List Value}, RL w p t l xs → ∀ u ∈ xs, u.oneCell' = true
  | _, _, .nil, u, hu => by simp at hu
  | _, _, .cons x l cs xs h hs, u, hu => by
    rcases List.mem_append.1 hu with hu | hu
    · exact h.one u hu
    · exact hs.one u hu

/-- An append: in place, or in a new block. -/
theorem run_append_row (base : Nat) (t ty e : TypeId) (i : TypeInfo) (z : Value) (size bytes : Nat) (ht : P.underlying t = some (.slice e)) (hi : P.info? e = some i) (hz : i.zero = some z)
    (hsize : i.size = size) (hby : i.bytes = bytes) (hzs : z.cells.size = size) (hsz : 0 < size)
    (v : Value) (n : Nat) (xs : List Value) (hown : w.ownsRow base e size v n xs)
    (A : Option Addr) (m c : Nat) (news : List Value) (hl : news.length = m * size) (hnews : ∀ j u, news[j]? = some u → ∃ g o, A = some ⟨g, o, none⟩ ∧ w.cell? ⟨g, o + j, none⟩ = some u) (h1 : ∀ u ∈ news, u.oneCell' = true)
    (h63 : n + m ≤ maxLen) (hbytes : (n + m) * bytes ≤ 140737488355328) (hbase : base ≤ w.heap.size) :
    ∃ v' w', (Builtin.append_ #[t, t] ty #[v, .slice A m c]).run P w = .ok v' w' ∧ w'.ownsRow base e size v' (n + m) (xs ++ news) ∧
      ((w.grownBy w' none ∧ (v'.ownBlock = none ∨ v'.ownBlock = some w.heap.size)) ∨ (∃ g, v.ownBlock = some g ∧ v'.ownBlock = some g ∧ w.grownBy w' (some g))) := by
  subst hsize
  subst hby
  have hsmall : n + m ≤ 9223372036854775807 := by simp only [maxLen] at h63; omega
  have hlen : (xs ++ news).length = (n + m) * i.size := by rw [List.length_append, hown.1, hl, Nat.add_mul]
  by_cases hm0 : m = 0
  · subst hm0
    have hn : news = [] := List.eq_nil_of_length_eq_zero (by simpa using hl)
    subst hn
    refine ⟨v, w, ?_, by simpa using hown, ?_⟩
    · rcases hown.2 with ⟨rfl, rfl⟩ | ⟨g, cap, cur, rfl, hbg, hg, hnc, hcm, hcs, htake⟩
      · cases A <;> simp [Builtin.append_, run_underlying ht, sizeOf, typeInfo, hi, Builtin.lenOf, Builtin.firstCells, loadCells, loadCellsFrom]
      · cases A <;> simp [Builtin.append_, run_underlying ht, sizeOf, typeInfo, hi, Builtin.lenOf, Builtin.firstCells, loadCells, loadCellsFrom, hnc, storeCells]
    · have hg : ∀ row, w.grownBy w row := fun row => ⟨rfl, rfl, rfl, Nat.le_refl _, fun _ _ _ => rfl⟩
      cases hb : v.ownBlock with
      | none => exact .inl ⟨hg _, .inl rfl⟩
      | some g => exact .inr ⟨g, rfl, rfl, hg _⟩
  · have hpos : 0 < news.length := by rw [hl]; exact Nat.mul_pos (by omega) hsz
    obtain ⟨g0, o0, hA, _⟩ := hnews 0 news[0] (by rw [List.getElem?_eq_getElem hpos])
    subst hA
    have hnews' : ∀ j u, news[j]? = some u → w.cell? ((⟨g0, o0, none⟩ : Addr).add j) = some u := by
      intro j u hj
      obtain ⟨g, o, hA, hc⟩ := hnews j u hj
      simp only [Option.some.injEq, Addr.mk.injEq, and_true] at hA
      obtain ⟨rfl, rfl⟩ := hA
      rw [add_at]; exact hc
    have grown : ∀ (old : Nat), old < n + m →
        (w.drew.alloc (.cells (xs.toArray ++ news.toArray ++ Builtin.zeroCells z.cells (grownCap w (n + m) old e - (n + m))) e)).ownsRow base e i.size
          (.slice (some ⟨w.heap.size, 0, none⟩) (n + m) (grownCap w (n + m) old e)) (n + m) (xs ++ news) ∧
        w.grownBy (w.drew.alloc (.cells (xs.toArray ++ news.toArray ++ Builtin.zeroCells z.cells (grownCap w (n + m) old e - (n + m))) e)) none := by
      intro old ho
      have hge := grownCap_ge w (n + m) old e
      have hcm : grownCap w (n + m) old e ≤ maxLen := grownCap_le_maxLen w (n + m) old e h63
      refine ⟨⟨hlen, .inr ⟨w.heap.size, _, _, rfl, hbase, heap_alloc_new w.drew _, hge, hcm, ?_, ?_⟩⟩, ⟨rfl, rfl, rfl, by simp, fun k hk _ => heap_alloc_old w.drew _ k hk⟩⟩
      · simp only [Array.size_append, List.size_toArray, size_zeroCells, hzs, hown.1, hl, ← Nat.add_mul]
        congr 1
        omega
      · simp only [Array.toList_append, List.append_assoc]
        rw [← List.append_assoc, ← hlen]
        exact List.take_left
    rcases hown.2 with ⟨rfl, rfl⟩ | ⟨g, cap, cur, rfl, hbg, hg, hnc, hcm, hcs, htake⟩
    · have hx : xs = [] := List.eq_nil_of_length_eq_zero (by simpa using hown.1)
      subst hx
      have hr := run_append_nil (P := P) w t ty e i z ht hi hz ⟨g0, o0, none⟩ m c news hl hnews' (by omega) (by omega) (by have hb := hbytes; simp only [Nat.zero_add] at hb; omega)
      have hgr := grown 0 (by omega)
      simp only [Nat.zero_add, List.nil_append, Array.empty_append] at hgr ⊢
      exact ⟨_, _, hr, hgr.1, .inl ⟨hgr.2, .inr rfl⟩⟩
    · by_cases hroom : n + m ≤ cap
      · have hfit : n * i.size + news.length ≤ cur.size := by rw [hl, hcs, ← Nat.add_mul]; exact Nat.mul_le_mul_right _ hroom
        have hr := run_append_room (P := P) w t ty e i ht hi g n cap cur hg ⟨g0, o0, none⟩ m c news hl hnews' h1 hroom hfit
        refine ⟨_, _, hr, ⟨hlen, .inr ⟨g, cap, _, rfl, hbg, setRow_heap w g cur _ e _ hg, hroom, hcm, ?_, ?_⟩⟩, .inr ⟨g, rfl, rfl, ⟨rfl, rfl, rfl, by simp, fun k _ hk => setRow_other w g k _ (fun e => hk (by simp [e]))⟩⟩⟩
        · simp only [List.size_toArray, List.length_append, List.length_take, List.length_drop, Array.length_toList]
          omega
        · rw [htake, ← hlen]
          exact List.take_left
      · have holds : ∀ j u, xs[j]? = some u → w.cell? ((⟨g, 0, none⟩ : Addr).add j) = some u := hown.cells (g := g) rfl
        have hr := run_append_grow (P := P) w t ty e i z ht hi hz ⟨g, 0, none⟩ n cap xs hown.1 holds ⟨g0, o0, none⟩ m c news hl hnews' (by omega) (by omega) (growslice_fits (by omega) hbytes)
        have hgr := grown cap (by omega)
        exact ⟨_, _, hr, hgr.1, .inl ⟨hgr.2, .inr rfl⟩⟩

/-- A row under a key: appended to, or made. -/
theorem Rel.newRow (h : Rel w0 F0 N s a w f φ) {w' : World} (κ e : Nat) (hκ : κ < 1000000 ∨ (1001000 ≤ κ ∨ ∃ e0 t0 els0 sn0, getO s.ob κ = some (.row e0 t0 els0 sn0))) (t : Ty) (els : List t.den) (sn : Bool) (v' : Value) (xs : List Value)
    (hown : w'.ownsRow f.n0 e t.sz v' els.length xs) (hrl : RL w f.F t els xs)
    (hcase : (w.grownBy w' none ∧ (v'.ownBlock = none ∨ v'.ownBlock = some w.heap.size)) ∨
      (∃ g e0 els0 sn0 xs0, getO s.ob κ = some (.row e0 t els0 sn0) ∧ (φ κ).v.ownBlock = some g ∧ v'.ownBlock = some g ∧ w.grownBy w' (some g) ∧ w.ownsRow f.n0 e0 t.sz (φ κ).v els0.length xs0 ∧ xs0 <+: xs ∧ (sn0 = true → sn = true))) :
    Rel w0 F0 N (s.new κ (.row e t els sn)) a w' f (upd φ κ ⟨v', t.sz⟩) := by
  have hone : v'.oneCell' = true := by
    rcases hown.2 with ⟨h1, _⟩ | ⟨_, _, _, h1, _⟩ <;> rw [h1] <;> rfl
  have blkv : ∀ g, (Bd.mk v' t.sz).blk = some g → v'.ownBlock = some g := by
    intro g hg
    rcases hown.2 with ⟨h1, _⟩ | ⟨_, _, _, h1, _⟩ <;> rw [h1] at hg ⊢ <;> simpa [Bd.blk, Value.ownBlock] using hg
  have hbx : ∀ g, 1000000 ≤ κ → κ < 1001000 → (w0.φ0 κ).v ≠ .pointer (some ⟨g, 0, none⟩) := by
    intro g h1 h2 h3
    rcases hκ with hκ | hκ | ⟨e0, t0, els0, sn0, hκ⟩
    · omega
    · omega
    · have hφ := h.bx κ g h1 h2 h3
      obtain ⟨_, hown1, _⟩ := h.ob κ _ hκ
      rw [hφ, h3] at hown1
      rcases hown1.2 with ⟨h4, _⟩ | ⟨_, _, _, h4, _⟩ <;> cases h4
  rcases hcase with ⟨hg, hv⟩ | ⟨g, e0, els0, sn0, xs0, ho, hgv, hgv', hg, hown0, hpre, hsn⟩
  · refine h.newG hg κ _ _ hone (fun g e => by cases e) (fun g e => by cases e) hbx (fun g o u _ hc => ?_) (fun g hb => ?_) (fun hk => ?_)
    · exact (World.cell?_of_block (w := w) (hg.block g (cell_lt hc) (by simp))).trans hc
    · have := blkv g hb
      rcases hv with hv | hv <;> rw [hv] at this <;> simp at this
      exact .inl (by omega)
    · refine ⟨xs, by rw [upd_same]; exact hown, by rw [upd_same], hrl.keeps hk.Fk, fun g hg' o q => ?_⟩
      rw [upd_same] at hg'
      simp only at hg'
      rcases hv with hv | hv <;> rw [hv] at hg' <;> simp at hg'
      subst hg'
      exact absurd (h.Flt _ _ q) (Nat.lt_irrefl _)
  · have hor := h.ob κ _ ho
    obtain ⟨xs1, hown1, hsz1, hrl1, hF1⟩ := hor
    have hcellrow : ∀ o u, f.F g o → w.cell? ⟨g, o, none⟩ = some u → w'.cell? ⟨g, o, none⟩ = some u := by
      intro o u hF hc
      have hlt := (hF1 g hgv o hF).2
      -- the cell is one of the row's
      have hu : xs0[o]? = some u := by
        have hl0 := hown0.1
        rw [List.getElem?_eq_getElem (by omega)]
        have := hown0.cells hgv o _ (List.getElem?_eq_getElem (by omega))
        rw [add_at, Nat.zero_add, hc] at this
        exact this.symm
      have hx : xs[o]? = some u := by
        obtain ⟨r, rfl⟩ := hpre
        have hl0 := hown0.1
        rw [List.getElem?_append_left (by omega)]
        exact hu
      have := hown.cells hgv' o u hx
      rwa [add_at, Nat.zero_add] at this
    refine h.newG hg κ _ _ hone (fun g' e => ?_) (fun g' e ψ κ' o' hH he => ?_) hbx (fun g' o u hF hc => ?_) (fun g' hb => ?_) (fun hk => ?_)
    · simp only [Option.some.injEq] at e
      subst e
      refine ⟨by have := (hown0.lt g hgv).1; rw [h.n0] at this; exact this, fun κ' o' hne ho' he => hne (h.dis κ' κ o' _ g ho' ho he (ownBlock_blk hgv))⟩
    · simp only [Option.some.injEq] at e
      subst e
      exact h.hdis ψ κ' o' g hH he κ _ ho (ownBlock_blk hgv)
    · by_cases he : g' = g
      · subst he; exact hcellrow o u hF hc
      · exact (World.cell?_of_block (w := w) (hg.block g' (cell_lt hc) (by simpa using he))).trans hc
    · have := blkv g' hb
      rw [hgv'] at this
      exact .inr this
    · refine ⟨xs, by rw [upd_same]; exact hown, by rw [upd_same], hrl.keeps hk.Fk, fun g' hg' o q => ?_⟩
      rw [upd_same] at hg'
      simp only at hg'
      rw [hgv'] at hg'
      simp only [Option.some.injEq] at hg'
      subst hg'
      obtain ⟨h1, h2⟩ := hF1 g hgv o q
      refine ⟨hsn h1, ?_⟩
      have e1 := hown0.1
      have e2 := hown.1
      have := hpre.length_le
      omega

/-- A row of the call's own, with another head. -/
theorem Rel.newHead (h : Rel w0 F0 N s a w f φ) (κ e : Nat) (t : Ty) (els0 els : List t.den) (hκ : getO s.ob κ = some (.row e t els0 false)) (v' : Value) (xs : List Value) (hown : w.ownsRow f.n0 e t.sz v' els.length xs) (hrl : RL w f.F t els xs)
    (hv : v'.ownBlock = none ∨ v'.ownBlock = (φ κ).v.ownBlock) : Rel w0 F0 N (s.new κ (.row e t els false)) a w f (upd φ κ ⟨v', t.sz⟩) := by
  have hone : v'.oneCell' = true := by
    rcases hown.2 with ⟨h1, _⟩ | ⟨_, _, _, h1, _⟩ <;> rw [h1] <;> rfl
  have blkv : ∀ g, (Bd.mk v' t.sz).blk = some g → v'.ownBlock = some g := by
    intro g hg
    rcases hown.2 with ⟨h1, _⟩ | ⟨_, _, _, h1, _⟩ <;> rw [h1] at hg ⊢ <;> simpa [Bd.blk, Value.ownBlock] using hg
  have hor := h.ob κ _ hκ
  obtain ⟨xs1, hown1, hsz1, hrl1, hF1⟩ := hor
  have hbx : ∀ g, 1000000 ≤ κ → κ < 1001000 → (w0.φ0 κ).v ≠ .pointer (some ⟨g, 0, none⟩) := by
    intro g h1 h2 h3
    have hφ := h.bx κ g h1 h2 h3
    rw [hφ, h3] at hown1
    rcases hown1.2 with ⟨h4, _⟩ | ⟨_, _, _, h4, _⟩ <;> cases h4
  refine h.newG (w' := w) (row := (φ κ).v.ownBlock) ⟨rfl, rfl, rfl, Nat.le_refl _, fun _ _ _ => rfl⟩ κ _ _ hone (fun g e => ?_) (fun g e ψ κ' o' hH he => ?_) hbx (fun g o u _ hc => hc) (fun g hb => ?_) (fun hk => ?_)
  · refine ⟨by have := (hown1.lt g e).1; rw [h.n0] at this; exact this, fun κ' o' hne ho' he => hne (h.dis κ' κ o' _ g ho' hκ he (ownBlock_blk e))⟩
  · exact h.hdis ψ κ' o' g hH he κ _ hκ (ownBlock_blk e)
  · have := blkv g hb
    rcases hv with hv | hv
    · rw [hv] at this; cases this
    · exact .inr (by rw [← hv]; exact this)
  · refine ⟨xs, by rw [upd_same]; exact hown, by rw [upd_same], hrl, fun g hg o q => ?_⟩
    rw [upd_same] at hg
    simp only at hg
    rcases hv with hv | hv
    · rw [hv] at hg; cases hg
    · rw [hv] at hg
      have := (hF1 g hg o q).1
      cases this
end
end Go.Proofs.Ytbcijglbinaioaa.Ev
