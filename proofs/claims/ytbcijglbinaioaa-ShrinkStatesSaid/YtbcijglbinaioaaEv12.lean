/- The evaluator: 'evO': appends. -/
import Derived.Test.YtbcijglbinaioaaEv11
import Derived.Lib.AppendZeros
set_option linter.unusedVariables false
set_option linter.unusedSimpArgs false
set_option linter.unusedSectionVars false
set_option linter.unnecessarySimpa false
namespace Go.Proofs.Ytbcijglbinaioaa.Ev
open Go.RowKit
section
variable {P : Program} {w0 : Bs} {F0 : Nat → Nat → Prop} {N : Nat} {s : St} {a : Act} {w : World} {f : Fr} {φ : Nat → Bd} {R : Type} {E : Env} {o : Oper} {K : St → Option R} {r : R}

/-- Elements that are there for good. -/
theorem flatF {b : Bool} {t : Ty} {l : List t.den} {A : Option Addr} {n : Nat} (hb : ¬ (b && !t.scal) = true) (hr : RS w (f.ok b) (RT w (f.ok b) t) t.sz A n l) : RS w (f.ok b) (RT w f.F t) t.sz A n l := by
  refine hr.keeps ⟨fun _ _ _ _ h => h, fun _ _ h => h⟩ fun x es hx => ?_
  cases b with
  | false => exact hx.keeps okF
  | true =>
    have hs : t.scal = true := by
      cases hq : t.scal with
      | true => rfl
      | false => rw [hq] at hb; simp at hb
    exact scal_RT hs hx

theorem srcEls_ok (h : Rel w0 F0 N s a w f φ) {t : Ty} {vy : AV} {yv : Value} (hy : VR w f φ vy yv) {src : List t.den} (hs : srcEls s.ob t vy = some src) :
    ∃ A c news, yv = .slice A src.length c ∧ RL w f.F t src news ∧ ∀ j u, news[j]? = some u → ∃ g o, A = some ⟨g, o, none⟩ ∧ w.cell? ⟨g, o + j, none⟩ = some u := by
  unfold srcEls at hs
  split at hs <;> try contradiction
  · rename_i b t' l
    split at hs <;> try contradiction
    rename_i hbs
    split at hs <;> try contradiction
    rename_i ht
    subst ht
    simp only [Option.some.injEq] at hs
    obtain ⟨A, n, c, hv, _, hr⟩ := hy.slv
    obtain ⟨xs, h1, h2⟩ := (flatF hbs hr).flat
    have : src = l := hs.symm
    subst this
    refine ⟨A, c, xs, by rw [hv, hr.1], h1, fun j u hj => ?_⟩
    obtain ⟨g, o, h3, h4, _⟩ := h2 j u hj
    exact ⟨g, o, h3, h4⟩
  · rename_i b t' l
    split at hs <;> try contradiction
    rename_i hbs
    split at hs <;> try contradiction
    rename_i ht
    subst ht
    simp only [Option.some.injEq] at hs
    obtain ⟨A, n, hv, hr⟩ := hy.xsv
    obtain ⟨xs, h1, h2⟩ := (flatF hbs hr).flat
    have : src = l := hs.symm
    subst this
    refine ⟨A, n, xs, by rw [hv, hr.1], h1, fun j u hj => ?_⟩
    obtain ⟨g, o, h3, h4, _⟩ := h2 j u hj
    exact ⟨g, o, h3, h4⟩
  · simp only [Option.some.injEq] at hs
    subst hs
    exact ⟨none, 0, [], hy.nilv, .nil, fun j u hj => by simp at hj⟩
  · simp only [Option.some.injEq] at hs
    subst hs
    cases hy with
    | emp z t A c hz => exact ⟨A, c, [], rfl, .nil, fun j u hj => by simp at hj⟩
  · rename_i κ
    split at hs <;> try contradiction
    rename_i e t' els sn hob
    split at hs <;> try contradiction
    rename_i ht
    subst ht
    simp only [Option.some.injEq] at hs
    have : src = els := hs.symm
    subst this
    obtain ⟨xs, hown, hsz, hrl, hF⟩ := h.ob κ _ hob
    rw [hy.rowv]
    rcases hown.2 with ⟨h1, h0⟩ | ⟨g, cap, cur, h1, hb, hg, hn, hm, hcs, htake⟩
    · refine ⟨none, 0, xs, by rw [h1, h0], hrl, fun j u hj => ?_⟩
      have hx : xs = [] := List.eq_nil_of_length_eq_zero (by rw [hown.1, h0]; simp)
      subst hx
      simp at hj
    · refine ⟨_, cap, xs, h1, hrl, fun j u hj => ⟨g, 0, rfl, ?_⟩⟩
      have := hown.cells (g := g) (by rw [h1]; rfl) j u hj
      rwa [add_at] at this

theorem zeroCells_flat {z : Array Value} (hs : 0 < z.size) (n : Nat) : (Builtin.zeroCells z n).toList = (List.replicate n z.toList).flatten := by
  apply List.ext_getElem?
  intro k
  by_cases hk : k < n * z.size
  · rw [flat_rep (by simpa using hs) n k (by simpa using hk)]
    have hm : k % z.size < z.size := Nat.mod_lt _ hs
    simp [Builtin.zeroCells, hk, hm]
  · rw [List.getElem?_eq_none (by simp [Builtin.zeroCells]; omega), List.getElem?_eq_none (by simp; omega)]

/-- append(nil, make([]T, n)...). -/
theorem o_appendZ (hD : DOk P E.D) (h : Rel w0 F0 N s a w f φ) (hd : ∀ d, o.dst = some d → d < N) {c : Call} (ho : o.op = .call c) (hcal : c.callee = .builtin .append) {x y : Operand} {t t' : TypeId} {d : Nat} (hargs : c.args.toList = [x, y]) (htys : c.argTypes.toList = [t, t']) (hdst : o.dst = some d)
    (hK : (match findD E.D t, findD E.D t', s.ev x, s.ev y with
          | some { sh := .sl e ty, .. }, some { sh := .int _, .. }, .nil _ _, .int .i64 n =>
            bif decide (0 < n) && decide (n.toNat ≤ LIM) then K ((s.new d (.row e ty (List.replicate n.toNat ty.zero) false)).put (some d) (.row d)) else none
          | _, _, _, _ => none) = some r) : Goes P w0 F0 N K r o a w := by
  split at hK <;> try contradiction
  rename_i _ _ _ _ _ _ _ _ e ty _ _ _ _ k _ _ n ht ht' hX hY
  obtain ⟨hu, i, z, hi, his, hz, hzc, hby⟩ := (hD _ _ ht).sh
  have hu' := (hD _ _ ht').sh
  have hx := h.ev x
  have hy := h.ev y
  rw [hX] at hx
  rw [hY] at hy
  have ha : c.args = #[x, y] := by apply Array.ext'; simpa using hargs
  have hty : c.argTypes = #[t, t'] := by apply Array.ext'; simpa using htys
  have hzs : z.cells.size = ty.sz := by rw [← Array.length_toList, hzc, zc_len]
  cases hc : (decide (0 < n) && decide (n.toNat ≤ LIM)) with
  | false => rw [hc] at hK; simp at hK
  | true =>
    rw [hc] at hK
    simp only [Bool.and_eq_true, decide_eq_true_eq] at hc
    obtain ⟨h0, hlim⟩ := hc
    simp only [cond_true] at hK
    obtain ⟨m, rfl⟩ := Int.eq_ofNat_of_zero_le (Int.le_of_lt h0)
    simp only [Int.ofNat_eq_natCast, Int.toNat_natCast] at hK hlim hy h0
    have hm0 : 0 < m := by omega
    have hbm : m * i.bytes ≤ LIM * 128 := Nat.mul_le_mul hlim hby
    simp only [LIM] at hlim hbm
    have hr := Lib.run_append_nil_zeros (P := P) w t t' o.type e i z .i64 k hu hu' hi hz m hm0 (by rw [his]; exact ty.sz_pos) (by omega) (by omega)
    have hge := grownCap_ge w m 0 e
    have hcm : grownCap w m 0 e ≤ maxLen := grownCap_le_maxLen w m 0 e (by simp only [maxLen]; omega)
    have hsz : ∀ q, (Builtin.zeroCells z.cells q).size = q * ty.sz := fun q => by rw [size_zeroCells, hzs]
    have hown : (w.drew.alloc (.cells (Builtin.zeroCells z.cells m ++ Builtin.zeroCells z.cells (grownCap w m 0 e - m)) e)).ownsRow f.n0 e ty.sz (.slice (some ⟨w.heap.size, 0, none⟩) m (grownCap w m 0 e)) m (Builtin.zeroCells z.cells m).toList := by
      refine ⟨by rw [Array.length_toList, hsz], .inr ⟨w.heap.size, _, _, rfl, h.n0le, heap_alloc_new w.drew _, hge, hcm, ?_, ?_⟩⟩
      · rw [Array.size_append, hsz, hsz, ← Nat.add_mul]
        congr 1
        omega
      · rw [Array.toList_append, ← hsz m, ← Array.length_toList]
        exact List.take_left
    have hrl : RL w f.F ty (List.replicate m ty.zero) (Builtin.zeroCells z.cells m).toList := by
      rw [zeroCells_flat (by rw [hzs]; exact ty.sz_pos), hzc]
      exact RL.replicate _ _ (zc_ok w f.F ty) m
    have h' := h.newRow (w' := w.drew.alloc (.cells (Builtin.zeroCells z.cells m ++ Builtin.zeroCells z.cells (grownCap w m 0 e - m)) e)) d e (.inl (Nat.lt_of_lt_of_le (hd d hdst) (Nat.le_trans h.Nle (by decide)))) ty (List.replicate m ty.zero) false _ _ (by rw [List.length_replicate]; exact hown) hrl
      (.inl ⟨⟨rfl, rfl, rfl, by simp, fun k hk _ => heap_alloc_old w.drew _ k hk⟩, .inr rfl⟩)
    refine goes_row hd hdst ?_ h' hK
    simp [execOp, ho, resolve, hcal, ha, hty, hx.nilv, hy.intv, invoke, builtin, hr]

/-- The first part of a row of the call's own. -/
theorem o_slice (hD : DOk P E.D) (h : Rel w0 F0 N s a w f φ) (hd : ∀ d, o.dst = some d → d < N) {t d : Nat} {x : Operand} {lo hi mx : Option Operand} (ho : o.op = .slice t x lo hi mx) (hdst : o.dst = some d) (hK : evO E s o K = some r) : Goes P w0 F0 N K r o a w := by
  have hK0 := hK
  unfold evO at hK
  simp only [ho, hdst] at hK
  split at hK
  · rename_i κ hX
    have hx := h.ev x
    rw [hX] at hx
    split at hK <;> try contradiction
    rename_i _ _ _ _ _ _ _ _ _ e ty e' ty' els sn k n ht hob hh
    split at hK <;> try contradiction
    rename_i he
    obtain ⟨rfl, rfl⟩ := he
    split at hK <;> try contradiction
    rename_i hsn
    have hsn : sn = false := by simpa using hsn
    subst hsn
    cases hc : (decide (0 ≤ n) && decide (n.toNat ≤ els.length)) with
    | false => rw [hc] at hK; simp at hK
    | true =>
      rw [hc] at hK
      simp only [Bool.and_eq_true, decide_eq_true_eq] at hc
      obtain ⟨h0, hn⟩ := hc
      simp only [cond_true] at hK
      obtain ⟨xs, hown, hsz, hrl, hF⟩ := h.ob κ _ hob
      have hhi : hi.map a.eval = some (.int k n) := by
        cases hi with
        | none => simp at hh
        | some q =>
          have hv := h.ev q
          simp only [Option.map_some, Option.some.injEq] at hh
          rw [hh] at hv
          simp [hv.intv]
      have hlen : (els.take n.toNat).length = n.toNat := by rw [List.length_take]; omega
      have hrl' : RL w f.F ty' (els.take n.toNat) (xs.take (n.toNat * ty'.sz)) := RL.take hrl n.toNat
      rcases hown.2 with ⟨hv, hl0⟩ | ⟨g, cap, cur, hv, hb, hg, hnc, hcm, hcs, htake⟩
      · have hn0 : n.toNat = 0 := by omega
        have hr := run_slice (P := P) (A := none) (n := 0) (c := 0) (hD _ _ ht) rfl none (hi.map a.eval) none 0 0 0 w (run_sliceBounds none (hi.map a.eval) none 0 0 0 (.inl ⟨rfl, rfl⟩) (.inr ⟨k, by rw [hhi]; congr 2; omega, Nat.le_refl _⟩) (.inl ⟨rfl, rfl⟩) w)
        have h' := h.newHead κ e' ty' els (els.take n.toNat) hob (.slice none 0 0) (xs.take (n.toNat * ty'.sz)) (by rw [hlen, hn0]; simp; exact World.ownsRow_nil w f.n0 e' ty'.sz) hrl' (.inl rfl)
        refine goes_row hd hdst ?_ h' hK
        simp [execOp, ho, hx.rowv, hv, hr]
      · have hr := run_slice (P := P) (A := some ⟨g, 0, none⟩) (n := els.length) (c := cap) (hD _ _ ht) rfl none (hi.map a.eval) none 0 n.toNat cap w (run_sliceBounds none (hi.map a.eval) none 0 n.toNat cap (.inl ⟨rfl, rfl⟩) (.inr ⟨k, by rw [hhi]; congr 2; omega, by omega⟩) (.inl ⟨rfl, rfl⟩) w)
        have hA : (if cap = 0 then some (⟨g, 0, none⟩ : Addr) else (some (⟨g, 0, none⟩ : Addr)).map (·.add (0 * ty'.sz))) = some ⟨g, 0, none⟩ := by
          split
          · rfl
          · simp [add_at]
        rw [hA] at hr
        simp only [Nat.sub_zero] at hr
        have h' := h.newHead κ e' ty' els (els.take n.toNat) hob (.slice (some ⟨g, 0, none⟩) n.toNat cap) (xs.take (n.toNat * ty'.sz)) (by
          rw [hlen]
          have hmul : n.toNat * ty'.sz ≤ els.length * ty'.sz := Nat.mul_le_mul_right _ hn
          refine ⟨by rw [List.length_take, hown.1]; omega, .inr ⟨g, cap, cur, rfl, hb, hg, by omega, hcm, hcs, ?_⟩⟩
          rw [← htake, List.take_take, Nat.min_eq_left hmul]) hrl' (.inr (by rw [hv]; rfl))
        refine goes_row hd hdst ?_ h' hK
        simp [execOp, ho, hx.rowv, hv, hr]
  · refine o_evQ hD h hd ?_
    rw [hdst]
    exact hK

theorem o_append (hD : DOk P E.D) (h : Rel w0 F0 N s a w f φ) (hd : ∀ d, o.dst = some d → d < N) {c : Call} (ho : o.op = .call c) (hcal : c.callee = .builtin .append) (hK : evO E s o K = some r) : Goes P w0 F0 N K r o a w := by
  unfold evO at hK
  simp only [ho, hcal] at hK
  split at hK <;> try contradiction
  rename_i _ _ _ x y t t' d hargs htys hdst
  by_cases htt : t = t'
  rotate_left 1
  · rw [if_neg htt] at hK
    exact o_appendZ hD h hd ho hcal hargs htys hdst hK
  rw [if_pos htt] at hK
  subst htt
  split at hK <;> try contradiction
  rename_i _ _ _ _ e ty ht
  obtain ⟨hu, i, z, hi, his, hz, hzc, hby⟩ := (hD _ _ ht).sh
  split at hK <;> try contradiction
  rename_i src hsrc
  obtain ⟨A, cy, news, hyv, hnl, hnews⟩ := srcEls_ok h (h.ev y) hsrc
  have hx := h.ev x
  have ha : c.args = #[x, y] := by apply Array.ext'; simpa using hargs
  have hty : c.argTypes = #[t, t] := by apply Array.ext'; simpa using htys
  have hzs : z.cells.size = ty.sz := by rw [← Array.length_toList, hzc, zc_len]
  have hone := hnl.one
  have hex : ∀ v' w', (Builtin.append_ #[t, t] o.type #[a.eval x, .slice A src.length cy]).run P w = .ok v' w' → (execOp a.eval o).run P w = .ok (.value v') w' := by
    intro v' w' hr
    simp [execOp, ho, resolve, hcal, ha, hty, hyv, invoke, builtin, hr]
  have lim : ∀ n m : Nat, n + m ≤ LIM → n + m ≤ maxLen ∧ (n + m) * i.bytes ≤ 140737488355328 := by
    intro n m hl
    refine ⟨by simp only [maxLen]; simp only [LIM] at hl; omega, ?_⟩
    have : (n + m) * i.bytes ≤ LIM * 128 := Nat.mul_le_mul hl hby
    simp only [LIM] at this
    omega
  split at hK <;> try contradiction
  · rename_i hX
    rw [hX] at hx
    cases hc : decide (src.length ≤ LIM) with
    | false => rw [hc] at hK; simp at hK
    | true =>
      rw [hc] at hK
      simp only [cond_true] at hK
      simp only [decide_eq_true_eq] at hc
      obtain ⟨l1, l2⟩ := lim 0 src.length (by omega)
      obtain ⟨v', w', hr, hown, hcase⟩ := run_append_row (P := P) f.n0 t o.type e i z ty.sz i.bytes hu hi hz his rfl hzs ty.sz_pos (.slice none 0 0) 0 [] (World.ownsRow_nil w f.n0 e ty.sz) A src.length cy news hnl.len hnews hone l1 l2 h.n0le
      rw [Nat.zero_add, List.nil_append] at hown
      have h' := h.newRow (w' := w') d e (.inl (Nat.lt_of_lt_of_le (hd d hdst) (Nat.le_trans h.Nle (by decide)))) ty src false v' news hown hnl (by
        rcases hcase with hc | ⟨g, hg, _⟩
        · exact .inl hc
        · simp [Value.ownBlock] at hg)
      exact goes_row hd hdst (hex _ _ (by rw [hx.nilv]; exact hr)) h' hK
  · rename_i κ hX
    rw [hX] at hx
    split at hK <;> try contradiction
    rename_i e' ty' els sn hob
    split at hK <;> try contradiction
    rename_i hh
    obtain ⟨rfl, rfl⟩ := hh
    cases hc : decide (els.length + src.length ≤ LIM) with
    | false => rw [hc] at hK; simp at hK
    | true =>
      rw [hc] at hK
      simp only [cond_true] at hK
      simp only [decide_eq_true_eq] at hc
      obtain ⟨l1, l2⟩ := lim els.length src.length hc
      obtain ⟨xs, hown0, hsz, hrl, hF⟩ := h.ob κ _ hob
      obtain ⟨v', w', hr, hown, hcase⟩ := run_append_row (P := P) f.n0 t o.type e' i z ty'.sz i.bytes hu hi hz his rfl hzs ty'.sz_pos _ _ xs hown0 A src.length cy news hnl.len hnews hone l1 l2 h.n0le
      have h' := h.newRow (w' := w') κ e' (.inr (.inr ⟨_, _, _, _, hob⟩)) ty' (els ++ src) sn v' (xs ++ news) (by rw [List.length_append]; exact hown) (hrl.append hnl) (by
        rcases hcase with hc | ⟨g, hg, hg', hgr⟩
        · exact .inl hc
        · exact .inr ⟨g, e', els, sn, xs, hob, hg, hg', hgr, hown0, List.prefix_append _ _, id⟩)
      exact goes_row hd hdst (hex _ _ (by rw [hx.rowv]; exact hr)) h' hK
  · rename_i b ty' l hX
    rw [hX] at hx
    split at hK <;> try contradiction
    rename_i hbs
    split at hK <;> try contradiction
    rename_i hh
    subst hh
    split at hK <;> try contradiction
    rename_i hne
    cases hc : decide (l.length + src.length ≤ LIM) with
    | false => rw [hc] at hK; simp at hK
    | true =>
      rw [hc] at hK
      simp only [cond_true] at hK
      simp only [decide_eq_true_eq] at hc
      obtain ⟨l1, l2⟩ := lim l.length src.length hc
      obtain ⟨A0, n, hxv, hrs⟩ := hx.xsv
      obtain ⟨olds, ho1, ho2⟩ := (flatF hbs hrs).flat
      have hol := ho1.len
      obtain rfl := hrs.1
      have hm : 0 < src.length := by
        cases src with
        | nil => simp [isEmptyL] at hne
        | cons => simp
      have hpos : 0 < news.length := by rw [hnl.len]; exact Nat.mul_pos hm ty'.sz_pos
      have hrun : ∃ v' w', (Builtin.append_ #[t, t] o.type #[.slice A0 l.length l.length, .slice A src.length cy]).run P w = .ok v' w' ∧ w'.ownsRow f.n0 e ty'.sz v' (l.length + src.length) (olds ++ news) ∧ w.grownBy w' none ∧ (v'.ownBlock = none ∨ v'.ownBlock = some w.heap.size) := by
        cases A0 with
        | none =>
          have hl0 : olds = [] := by
            cases olds with
            | nil => rfl
            | cons u r =>
              obtain ⟨g, o, h1, _⟩ := ho2 0 u rfl
              simp at h1
          have hll : l.length = 0 := by
            rw [hl0] at hol
            simp only [List.length_nil] at hol
            rcases Nat.mul_eq_zero.1 hol.symm with h | h
            · exact h
            · have := ty'.sz_pos; omega
          obtain ⟨v', w', hr, hown, hcase⟩ := run_append_row (P := P) f.n0 t o.type e i z ty'.sz i.bytes hu hi hz his rfl hzs ty'.sz_pos (.slice none 0 0) 0 [] (World.ownsRow_nil w f.n0 e ty'.sz) A src.length cy news hnl.len hnews hone (by omega) (by have := l2; rw [hll] at this; exact this) h.n0le
          rw [hll, hl0]
          refine ⟨v', w', hr, hown, ?_⟩
          rcases hcase with hc | ⟨g, hg, _⟩
          · exact hc
          · simp [Value.ownBlock] at hg
        | some b0 =>
          obtain ⟨g0, o0, hA, _⟩ := hnews 0 news[0] (by rw [List.getElem?_eq_getElem hpos])
          subst hA
          have hnews' : ∀ j u, news[j]? = some u → w.cell? ((⟨g0, o0, none⟩ : Addr).add j) = some u := by
            intro j u hj
            obtain ⟨g, o, hA, hc⟩ := hnews j u hj
            simp only [Option.some.injEq, Addr.mk.injEq, and_true] at hA
            obtain ⟨rfl, rfl⟩ := hA
            rw [add_at]; exact hc
          have holds : ∀ j u, olds[j]? = some u → w.cell? (b0.add j) = some u := by
            intro j u hj
            obtain ⟨g, o, hA, hc, _⟩ := ho2 j u hj
            simp only [Option.some.injEq] at hA
            subst hA
            rw [add_at]; exact hc
          have hr := run_append_grow (P := P) w t o.type e i z hu hi hz b0 l.length l.length olds (by rw [hol, his]) holds ⟨g0, o0, none⟩ src.length cy news (by rw [hnl.len, his]) hnews' (by omega) (by simp only [maxLen] at l1; omega) (growslice_fits (by omega) l2)
          have hge := grownCap_ge w (l.length + src.length) l.length e
          have hcm : grownCap w (l.length + src.length) l.length e ≤ maxLen := grownCap_le_maxLen w (l.length + src.length) l.length e l1
          have hsl : (olds ++ news).length = (l.length + src.length) * ty'.sz := by rw [List.length_append, hol, hnl.len, Nat.add_mul]
          refine ⟨_, _, hr, ⟨hsl, .inr ⟨w.heap.size, _, _, rfl, h.n0le, heap_alloc_new w.drew _, hge, hcm, ?_, ?_⟩⟩, ⟨rfl, rfl, rfl, by simp, fun k hk _ => heap_alloc_old w.drew _ k hk⟩, .inr rfl⟩
          · simp only [Array.size_append, List.size_toArray, size_zeroCells, hzs, hol, hnl.len, ← Nat.add_mul]
            congr 1
            omega
          · simp only [Array.toList_append, List.append_assoc]
            rw [← List.append_assoc, ← hsl]
            exact List.take_left
      obtain ⟨v', w', hr, hown, hgr, hb⟩ := hrun
      have h' := h.newRow (w' := w') d e (.inl (Nat.lt_of_lt_of_le (hd d hdst) (Nat.le_trans h.Nle (by decide)))) ty' (l ++ src) false v' (olds ++ news) (by rw [List.length_append]; exact hown) (ho1.append hnl) (.inl ⟨hgr, hb⟩)
      exact goes_row hd hdst (hex _ _ (by rw [hxv]; exact hr)) h' hK

end
end Go.Proofs.Ytbcijglbinaioaa.Ev
