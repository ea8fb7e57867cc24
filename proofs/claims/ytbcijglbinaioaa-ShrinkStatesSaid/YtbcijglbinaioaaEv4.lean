/- The evaluator: operations that turn nothing are told rightly. -/
import Derived.Test.YtbcijglbinaioaaEv3
set_option linter.unusedVariables false
set_option linter.unusedSimpArgs false
set_option linter.unusedSectionVars false
set_option linter.unnecessarySimpa false
namespace Go.Proofs.Ytbcijglbinaioaa.Ev
open Go.RowKit
section
variable {P : Program} {w0 : Bs} {F0 : Nat → Nat → Prop} {N : Nat} {s : St} {a : Act} {w : World} {f : Fr} {φ : Nat → Bd}

theorem DOk.sh {D : List (Nat × TD)} (hD : DOk P D) {t : Nat} {d : TD} (h : findD D t = some d) : ShOk P t d.sh := (hD t d h).sh

theorem VR.epv {b : Bool} {cs : List AV} {off : Nat} {x : Value} (h : VR w f φ (.ep b cs off) x) :
    ∃ us g o, x = .pointer (some ⟨g, o + off, none⟩) ∧ VRs w f φ cs us ∧ ∀ i (h : i < us.length), w.cell? ⟨g, o + i, none⟩ = some us[i] ∧ f.ok b g (o + i) := by
  cases h
  exact ⟨_, _, _, rfl, by assumption, by assumption⟩
theorem VR.ptrv {κ off : Nat} {x : Value} (h : VR w f φ (.ptr κ off) x) : ∃ g, x = .pointer (some ⟨g, off, none⟩) ∧ (φ κ).v = .pointer (some ⟨g, 0, none⟩) := by
  cases h
  exact ⟨_, rfl, by assumption⟩
theorem VR.rpv {κ i off : Nat} {x : Value} (h : VR w f φ (.rp κ i off) x) : ∃ g n c, x = .pointer (some ⟨g, i * (φ κ).sz + off, none⟩) ∧ (φ κ).v = .slice (some ⟨g, 0, none⟩) n c ∧ i < n := by
  cases h
  exact ⟨_, _, _, rfl, by assumption, by assumption⟩
theorem VR.slv {b : Bool} {t : Ty} {l : List t.den} {x : Value} (h : VR w f φ (.sl b t l) x) : ∃ A n c, x = .slice A n c ∧ n ≤ c ∧ RS w (f.ok b) (RT w (f.ok b) t) t.sz A n l := by
  cases h
  exact ⟨_, _, _, rfl, by assumption, by assumption⟩
theorem VR.aggv {l : List AV} {x : Value} (h : VR w f φ (.agg l) x) : ∃ vs : List Value, x = .agg vs.toArray ∧ VRs w f φ l vs := by
  cases h
  exact ⟨_, rfl, by assumption⟩
theorem VR.tupv {l : List AV} {x : Value} (h : VR w f φ (.tup l) x) : ∃ vs : List Value, x = .tuple vs.toArray ∧ VRs w f φ l vs := by
  cases h
  exact ⟨_, rfl, by assumption⟩
theorem VR.fnv {g : Nat} {l : List AV} {x : Value} (h : VR w f φ (.fn g l) x) : ∃ vs : List Value, x = .func (.func g) #[] vs.toArray ∧ VRs w f φ l vs := by
  cases h
  exact ⟨_, rfl, by assumption⟩
theorem VR.rowv {κ : Nat} {x : Value} (h : VR w f φ (.row κ) x) : x = (φ κ).v := by cases h; rfl
theorem VR.nilv {e : Nat} {t : Ty} {x : Value} (h : VR w f φ (.nil e t) x) : x = .slice none 0 0 := by cases h; rfl
theorem VR.xsv {b : Bool} {t : Ty} {l : List t.den} {x : Value} (h : VR w f φ (.xs b t l) x) : ∃ A n, x = .slice A n n ∧ RS w (f.ok b) (RT w (f.ok b) t) t.sz A n l := by
  cases h
  exact ⟨_, _, rfl, by assumption⟩

/-- A box's cells, where they lie. -/
theorem OR.boxv {κ : Nat} {cs : List AV} (h : OR w f φ κ (.box cs)) {g : Nat} (hg : (φ κ).v = .pointer (some ⟨g, 0, none⟩)) :
    ∃ t vs, w.heap[g]? = some (.cells vs t (0, 0)) ∧ VRs w f φ cs vs.toList ∧ f.n0 ≤ g ∧ ∀ o, ¬ f.F g o := by
  obtain ⟨g', t, vs, hv, h0, hh, hvs, hF⟩ := h
  rw [hg] at hv
  simp only [Value.pointer.injEq, Option.some.injEq, Addr.mk.injEq, and_true] at hv
  subst hv
  exact ⟨t, vs, hh, hvs, h0, hF⟩

/-- An element of a row of the call's own, where it lies. -/
theorem OR.rowel {κ e : Nat} {t : Ty} {els : List t.den} {sn : Bool} (h : OR w f φ κ (.row e t els sn)) {g n c : Nat} (hg : (φ κ).v = .slice (some ⟨g, 0, none⟩) n c) :
    n = els.length ∧ (φ κ).sz = t.sz ∧ ∀ i (hi : i < els.length), ∃ es, RT w f.F t els[i] es ∧ ∀ j (hj : j < es.length), w.cell? ⟨g, i * t.sz + j, none⟩ = some es[j] := by
  obtain ⟨xs, hown, hsz, hrl, hF⟩ := h
  rcases hown.2 with ⟨h1, _⟩ | ⟨g', cap, cur, h1, hb, hgg, hn, hm, hcs, htake⟩
  · rw [hg] at h1; simp at h1
  · rw [hg] at h1
    simp only [Value.slice.injEq, Option.some.injEq, Addr.mk.injEq, and_true] at h1
    obtain ⟨rfl, rfl, rfl⟩ := h1
    refine ⟨rfl, hsz, fun i hi => ?_⟩
    obtain ⟨es, h1, h2⟩ := hrl.get i hi
    refine ⟨es, h1, fun j hj => ?_⟩
    have h3 := h2 j hj
    rw [← htake, List.getElem?_take] at h3
    split at h3
    · rw [cell_of_row w g _ cur e (0, 0) hgg]
      simpa using h3
    · cases h3

theorem slice_len {κ e : Nat} {t : Ty} {els : List t.den} {sn : Bool} (h : OR w f φ κ (.row e t els sn)) : ∃ A c, (φ κ).v = .slice A els.length c ∧ (els.length = 0 ∨ ∃ g, A = some ⟨g, 0, none⟩) ∧ els.length ≤ maxLen := by
  obtain ⟨xs, hown, hsz, hrl, hF⟩ := h
  rcases hown.2 with ⟨h1, h0⟩ | ⟨g', cap, cur, h1, hb, hgg, hn, hm, hcs, htake⟩
  · exact ⟨none, 0, by rw [h1, h0], .inl h0, by rw [h0]; exact Nat.zero_le _⟩
  · exact ⟨_, _, h1, .inr ⟨_, rfl⟩, Nat.le_trans hn hm⟩

theorem idxL_some {α : Type} {l : List α} {n : Int} {x : α} (h : idxL l n = some x) : 0 ≤ n ∧ ∃ h : n.toNat < l.length, l[n.toNat] = x := by
  unfold idxL at h
  split at h
  · rename_i h0
    exact ⟨h0, List.getElem?_eq_some_iff.1 h⟩
  · cases h

theorem run_load_at {t : Nat} {d : TD} (h : TOk P t d) {cs : List AV} {us : List Value} (hv : VRs w f φ cs us) {g o off : Nat} (hc : ∀ i (hi : i < us.length), w.cell? ⟨g, o + i, none⟩ = some us[i]) (hoff : off + d.size ≤ cs.length)
    {o' : Oper} {ad : Operand} (ho : o'.op = .load t ad) (hx : a.eval ad = .pointer (some ⟨g, o + off, none⟩)) : Tells P a w f φ o' (cellsAt cs off d.size d.agg) := by
  obtain ⟨x, hx', hv'⟩ := load_ok (P := P) h hv hc hoff
  exact ⟨x, by simp [execOp, ho, hx, Instr.loadAt, Instr.sureAddr, hx'], hv'⟩

theorem VRs.last {l : List AV} {v : AV} {xs : List Value} (h : VRs w f φ (l ++ [v]) xs) : ∃ ys x, xs = ys ++ [x] ∧ VRs w f φ l ys ∧ VR w f φ v x := by
  induction l generalizing xs with
  | nil =>
    cases h with
    | cons _ _ x xs h hs => cases hs; exact ⟨[], x, rfl, .nil, h⟩
  | cons q l ih =>
    cases h with
    | cons _ _ x xs h hs =>
      obtain ⟨ys, y, rfl, h1, h2⟩ := ih hs
      exact ⟨x :: ys, y, rfl, .cons _ _ _ _ h h1, h2⟩

theorem RS.take {α : Type} {p : Nat → Nat → Prop} {R : α → List Value → Prop} {sz : Nat} {A : Option Addr} {n : Nat} {l : List α} (h : RS w p R sz A n l) (m : Nat) (hm : m ≤ l.length) : RS w p R sz A m (l.take m) := by
  refine ⟨by simp; omega, Nat.le_trans (by have := h.1; omega) h.2.1, fun j hj => ?_⟩
  simp at hj
  obtain ⟨g, o, es, hA, hl, hr, hc⟩ := h.2.2 j (by omega)
  exact ⟨g, o, es, hA, hl, by simpa using hr, hc⟩

theorem RS.drop {α : Type} {p : Nat → Nat → Prop} {R : α → List Value → Prop} {sz : Nat} {A : Option Addr} {n : Nat} {l : List α} (h : RS w p R sz A n l) (m : Nat) (hm : m ≤ l.length) : RS w p R sz (A.map (·.add (m * sz))) (n - m) (l.drop m) := by
  refine ⟨by simp; have := h.1; omega, Nat.le_trans (by omega) h.2.1, fun j hj => ?_⟩
  simp at hj
  obtain ⟨g, o, es, hA, hl, hr, hc⟩ := h.2.2 (m + j) (by omega)
  refine ⟨g, o + m * sz, es, by rw [hA]; simp [add_at], hl, by simpa using hr, fun i hi => ?_⟩
  have := hc i hi
  rw [Nat.add_mul] at this
  rwa [show o + m * sz + j * sz + i = o + (m * sz + j * sz) + i by omega]

theorem RS.empty {α : Type} {p : Nat → Nat → Prop} {R : α → List Value → Prop} {sz : Nat} (A : Option Addr) : RS w p R sz A 0 ([] : List α) := ⟨rfl, Nat.zero_le _, fun j hj => absurd hj (by simp)⟩

end
end Go.Proofs.Ytbcijglbinaioaa.Ev
