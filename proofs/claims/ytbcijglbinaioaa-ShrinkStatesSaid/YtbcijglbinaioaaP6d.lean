/- ShrinkStates: frames of three values. -/
import Derived.Test.YtbcijglbinaioaaP6c
set_option linter.unusedVariables false
set_option linter.unusedSimpArgs false
set_option linter.unusedSectionVars false
set_option linter.unnecessarySimpa false
namespace Go.Proofs.Ytbcijglbinaioaa.Ev.Pure6
open Go.Proofs.Ytbcijglbinaioaa.Ev

def T3 (x : Int) : Prop := x = 0 ∨ x = 1 ∨ x = 2
def Tri (u : List Int) : Prop := ∀ x ∈ u, T3 x
def not3 (x : Int) : Int := if x = 2 then 2 else 1 - x
def and3 (a b : Int) : Int := if a = 0 ∨ b = 0 then 0 else if a = 2 ∨ b = 2 then 2 else 1
def val (u : List Int) (x : Int) : Int := if x % 2 = 1 then not3 (u.getD (x / 2).toNat 0) else u.getD (x / 2).toNat 0

theorem t0 : T3 0 := .inl rfl
theorem not3_T {x : Int} (h : T3 x) : T3 (not3 x) := by rcases h with rfl | rfl | rfl <;> simp [not3, T3]
theorem and3_T (a b : Int) : T3 (and3 a b) := by
  unfold and3
  split
  · exact .inl rfl
  · split
    · exact .inr (.inr rfl)
    · exact .inr (.inl rfl)
theorem val_T {u : List Int} (h : Tri u) (x : Int) : T3 (val u x) := by
  unfold val
  split
  · exact not3_T (getD_mem h t0 _)
  · exact getD_mem h t0 _

theorem LIMbig : 100000 ≤ LIM := by unfold LIM; omega

theorem F165_spec {x : Int} (h : T3 x) : F165 (x, ()) = some (not3 x) := by
  rcases h with rfl | rfl | rfl <;> rfl
theorem F171_spec {x : Int} (h : T3 x) : F171 (x, ()) = some (not3 x) := by
  rcases h with rfl | rfl | rfl <;> rfl
theorem F153_spec {a b : Int} (h : T3 a) (h' : T3 b) : F153 (a, (b, ())) = some (and3 a b) := by
  rcases h with rfl | rfl | rfl <;> rcases h' with rfl | rfl | rfl <;> rfl
theorem F170_spec {a b : Int} (h : T3 a) (h' : T3 b) : F170 (a, (b, ())) = some (and3 a b) := by
  rcases h with rfl | rfl | rfl <;> rcases h' with rfl | rfl | rfl <;> rfl

theorem F154_spec {u : List Int} {x : Int} (hu : Tri u) (h0 : 0 ≤ x) (hx : R64 x) (hl : x / 2 < u.length) : F154 (u, (x, ())) = some (val u x) := by
  show G154 KF u x = _
  unfold G154 val
  rw [and1 h0 hx.2, fd2, idx_int u (x / 2) 0 (by omega) (by omega)]
  simp only [Option.bind_some, beqD]
  rw [F165_spec (getD_mem hu t0 _)]
  by_cases h : x % 2 = 1 <;> simp [h]
theorem F167_spec {u : List Int} {x : Int} (hu : Tri u) (h0 : 0 ≤ x) (hx : R64 x) (hl : x / 2 < u.length) : F167 (u, (x, ())) = some (val u x) := by
  show G167 KF u x = _
  unfold G167 val
  rw [tm2 h0, td2 h0, w64 (by omega) (by have := hx.2; omega), idx_int u (x / 2) 0 (by omega) (by omega)]
  simp only [Option.bind_some, beqD]
  rw [F171_spec (getD_mem hu t0 _)]
  by_cases h : x % 2 = 1 <;> simp [h]
theorem F98_spec {u : List Int} {x : Int} (hu : Tri u) (h0 : 0 ≤ x) (hx : R64 x) (hl : x / 2 < u.length) : F98 (u, (x, ())) = some (val u x) := by
  show G98 KF u x = _
  unfold G98 val
  rw [tm2 h0, td2 h0, w64 (by omega) (by have := hx.2; omega), idx_int u (x / 2) 0 (by omega) (by omega)]
  have := getD_mem hu t0 (x / 2).toNat
  revert this
  generalize u.getD (x / 2).toNat 0 = y
  intro hy
  have e : ∀ z : Int, T3 z → z ≠ 2 → Go.IntKind.wrap .u8 (1 - z) = 1 - z := by
    intro z hz h2
    rcases hz with rfl | rfl | rfl
    · rfl
    · rfl
    · exact absurd rfl h2
  simp only [Option.bind_some, beqD, bneD]
  by_cases h2 : y = 2
  · simp [h2, not3]
  · rw [e y hy h2]
    by_cases h : x % 2 = 1 <;> simp [h, h2, not3]

/-! ### bits to values -/
def b3 (b : Bool) : Int := bif b then 1 else 0

theorem F155_spec (l : List Bool) (hl : l.length ≤ 2000) : F155 ((l, ()), ()) = some ((), (l.map b3, ())) := by
  show G155 KF l = _
  have hk := KFbig
  revert hk
  generalize KF = n
  intro hk
  unfold G155
  have hL := LIMbig
  obtain ⟨s', h1, h2⟩ := iter l.length (fun k i r => l155_0 n (fun v1 => some ((), (v1, ()))) k l ((i : Nat) : Int) r) (fun r => some ((), (r, ()))) (fun i r => r = (l.take i).map b3)
    (by
      intro k i r hi hr
      refine ⟨r ++ [b3 (l.getD i false)], ?_, ?_⟩
      · show F155_0 n _ _ l _ r = _
        unfold F155_0
        rw [ltT hi, idx_nat l i false hi, wS hi hl]
        have hlen : r.length = i := by rw [hr]; simp; omega
        simp only [cond_true, Option.bind_some, List.length_cons, List.length_nil]
        rw [show decide (r.length + (0 + 1) ≤ LIM) = true by simp; omega]
        cases l.getD i false <;> rfl
      · rw [hr, List.take_add_one, List.map_append, List.getD_eq_getElem?_getD, List.getElem?_eq_getElem hi]
        rfl)
    (by
      intro k r hr
      show F155_0 n _ _ l _ r = _
      unfold F155_0
      rw [ltF]
      rfl) l.length n 0 [] (by omega) (by omega) (by simp)
  rw [List.take_length] at h1
  rw [← h1]
  exact h2

theorem F131_spec (l : List Bool) (hl : l.length ≤ 2000) : F131 ((l, ()), ()) = some ((), (l.map b3, ())) := by
  show G131 KF l = _
  have hk := KFbig
  revert hk
  generalize KF = n
  intro hk
  unfold G131
  have hL := LIMbig
  rw [show ((decide ((0 : Int) ≤ ((l.length : Nat) : Int))) && ((decide ((Int.toNat ((l.length : Nat) : Int)) ≤ LIM)) && (((l.length : Nat) : Int) == ((l.length : Nat) : Int)))) = true by simp; omega]
  rw [cond_true]
  obtain ⟨s', h1, h2⟩ := iter l.length (fun k i r => l131_0 n (fun v1 => some ((), (v1, ()))) k l ((l.length : Nat) : Int) ((i : Nat) : Int) r) (fun r => some ((), (r, ())))
    (fun i r => r.length = l.length ∧ ∀ q (h : q < l.length), r[q]? = some (if q < i then b3 (l.getD q false) else 0))
    (by
      intro k i r hi hr
      refine ⟨bif l.getD i false then r.set i 1 else r, ?_, ?_⟩
      · show F131_0 n _ _ l _ _ r = _
        unfold F131_0
        rw [ltT hi, idx_nat l i false hi, wS hi hl, Int.toNat_natCast]
        simp only [cond_true, Option.bind_some]
        cases l.getD i false with
        | false => rfl
        | true =>
          rw [show (decide ((0 : Int) ≤ (i : Int)) && decide (i < r.length)) = true by simp; omega, hr.2 i hi]
          rfl
      · refine ⟨by cases l.getD i false <;> simp [hr.1], fun q hq => ?_⟩
        cases hb : l.getD i false with
        | false =>
          rw [cond_false, hr.2 q hq]
          by_cases e : q = i
          · subst e; rw [if_neg (by omega), if_pos (by omega), hb]; rfl
          · by_cases e2 : q < i
            · rw [if_pos e2, if_pos (by omega)]
            · rw [if_neg e2, if_neg (by omega)]
        | true =>
          rw [cond_true, List.getElem?_set]
          by_cases e : i = q
          · subst e; rw [if_pos rfl, if_pos (by omega), if_pos (by omega), hb]; rfl
          · rw [if_neg e, hr.2 q hq]
            by_cases e2 : q < i
            · rw [if_pos e2, if_pos (by omega)]
            · rw [if_neg e2, if_neg (by omega)])
    (by
      intro k r hr
      show F131_0 n _ _ l _ _ r = _
      unfold F131_0
      rw [ltF]
      rfl) l.length n 0 (List.replicate (Int.toNat ((l.length : Nat) : Int)) (0 : Int)) (by omega) (by omega) ⟨by simp, fun q hq => by simp [hq]⟩
  refine (h2.trans ?_)
  have : s' = l.map b3 := by
    refine List.ext_getElem? fun q => ?_
    by_cases hq : q < l.length
    · rw [h1.2 q hq, if_pos hq, List.getElem?_map, List.getD_eq_getElem?_getD, List.getElem?_eq_getElem hq]
      rfl
    · rw [List.getElem?_eq_none (by omega), List.getElem?_eq_none (by simp; omega)]
  rw [this]

theorem tri_b3 (l : List Bool) : Tri (l.map b3) := by
  intro x hx
  obtain ⟨b, _, rfl⟩ := List.mem_map.1 hx
  cases b
  · exact .inl rfl
  · exact .inr (.inl rfl)

/-! ### joined rows -/
theorem F162_spec (m : Nat) (hm : m ≤ 10000) : F162 (((), ((m : Int), ())), ()) = some ((), ([], ())) := by
  show G162 KF (m : Int) = _
  unfold G162
  have hL := LIMbig
  rw [w64 (n := 0 - 0) (by omega) (by omega), w64 (n := (m : Int) - (0 - 0)) (by omega) (by omega)]
  rw [show decide ((m : Int) < 0) = false by simp]
  rw [show ((m : Int) - (0 - 0)) = (m : Int) by omega, Int.toNat_natCast]
  rcases Nat.eq_zero_or_pos m with rfl | hm0
  · simp
  · simp [hm0, show m ≤ LIM by omega]

theorem F151_spec (ls : List (List Int)) (hn : ls.length ≤ 3) (hl : ∀ l ∈ ls, l.length ≤ 2000) : F151 ((ls, ()), ()) = some ((), (ls.flatten, ())) := by
  show G151 KF ls = _
  have hk := KFbig
  revert hk
  generalize KF = n
  intro hk
  unfold G151
  have hL := LIMbig
  have hg : ∀ i, (ls.getD i []).length ≤ 2000 := fun i => getD_mem (Q := fun l : List Int => l.length ≤ 2000) hl (by simp) i
  have e1 : ∀ (k0 : List (List Int) → Int → Option (Unit × ((List Int) × Unit))), ∃ m : Nat, m ≤ 6000 ∧ l151_0 n k0 n ls 0 ls ((ls.length : Nat) : Int) ((0 : Nat) : Int) = k0 ls (m : Int) := by
    intro k0
    obtain ⟨s', ⟨m, rfl, hm⟩, h2⟩ := iter ls.length (fun k i (s : Int) => l151_0 n k0 k ls s ls ((ls.length : Nat) : Int) ((i : Nat) : Int)) (fun s => k0 ls s) (fun i s => ∃ m : Nat, s = (m : Int) ∧ m ≤ 2000 * i)
      (by
        rintro k i s hi ⟨m, rfl, hm⟩
        have := hg i
        refine ⟨((m + (ls.getD i []).length : Nat) : Int), ?_, _, rfl, by omega⟩
        show F151_0 n _ _ ls _ ls _ _ = _
        unfold F151_0
        rw [ltT hi, idx_nat ls i [] hi, wS hi (by omega)]
        simp only [cond_true, Option.bind_some]
        rw [w64 (by omega) (by omega), show decide (((m : Nat) : Int) + (((ls.getD i []).length : Nat) : Int) < 0) = false by simp; omega]
        rw [cond_false]
        simp only [Int.natCast_add])
      (by
        rintro k s _
        show F151_0 n _ _ ls _ ls _ _ = _
        unfold F151_0
        rw [ltF]
        rfl) ls.length n 0 0 (by omega) (by omega) ⟨0, rfl, by omega⟩
    exact ⟨m, by omega, h2⟩
  have e2 : l151_2 n (fun v5 => some ((), (v5, ()))) n ls ((ls.length : Nat) : Int) ((0 : Nat) : Int) [] = some ((), (ls.flatten, ())) := by
    obtain ⟨s', h1, h2⟩ := iter ls.length (fun k i (r : List Int) => l151_2 n (fun v5 => some ((), (v5, ()))) k ls ((ls.length : Nat) : Int) ((i : Nat) : Int) r) (fun r => some ((), (r, ()))) (fun i r => r = (ls.take i).flatten ∧ r.length ≤ 2000 * i)
      (by
        rintro k i r hi ⟨hr, hlen⟩
        have := hg i
        refine ⟨r ++ ls.getD i [], ?_, ?_, by rw [List.length_append]; omega⟩
        · show F151_2 n _ _ ls _ _ r = _
          unfold F151_2
          rw [ltT hi, idx_nat ls i [] hi, wS hi (by omega)]
          simp only [cond_true, Option.bind_some]
          rw [show decide (r.length + (ls.getD i []).length ≤ LIM) = true by simp only [decide_eq_true_eq]; omega]
          rfl
        · rw [hr, List.take_add_one, List.flatten_append, List.getD_eq_getElem?_getD, List.getElem?_eq_getElem hi]
          simp)
      (by
        rintro k r _
        show F151_2 n _ _ ls _ _ r = _
        unfold F151_2
        rw [ltF]
        rfl) ls.length n 0 [] (by omega) (by omega) ⟨by simp, by simp⟩
    rw [List.take_length] at h1
    rw [← h1.1]
    exact h2
  obtain ⟨m, hm, h⟩ := e1 (fun v1 v2 => (F162 (((), (v2, ())), ())).bind fun (y3 : Unit × ((List Int) × Unit)) => (l151_2 n (fun v5 => (some ((), (v5, ())))) n (v1) (((v1.length : Nat) : Int)) ((0 : Int)) (y3.2.1)))
  refine h.trans ?_
  rw [F162_spec m (by omega)]
  exact e2

/-! ### values beyond three -/
theorem F152_spec (u : List Int) (hu : Tri u) (hl : u.length ≤ 2000) : F152 (u, ()) = some 0 := by
  show ((G169 KF u).bind _).bind _ = _
  have hk := KFbig
  revert hk
  generalize KF = n
  intro hk
  unfold G169
  have hst : ∀ k i, i < u.length → (∀ j, j < i → (fun _ : Nat => false) j = false) → l169_0 n (fun v2 => some v2) (some (@Neg.neg Int Int.instNegInt (1 : Int))) (k + 1) u (((u.length : Nat) : Int)) ((i : Nat) : Int) = bif (fun _ : Nat => false) i then some (i : Int) else l169_0 n (fun v2 => some v2) (some (@Neg.neg Int Int.instNegInt (1 : Int))) k u (((u.length : Nat) : Int)) ((i + 1 : Nat) : Int) := by
    intro k i hi _
    have hx := getD_mem hu t0 i
    show F169_0 n _ _ _ u _ _ = _
    unfold F169_0
    rw [ltT hi, idx_nat u i 0 hi, wS hi hl]
    simp only [cond_true, Option.bind_some]
    have : F164 (u.getD i 0, ()) = some false := by
      rcases hx with h | h | h <;> rw [h] <;> rfl
    rw [this]
    rfl
  rcases scan u.length (fun k i => l169_0 n (fun v2 => some v2) (some (@Neg.neg Int Int.instNegInt (1 : Int))) k u (((u.length : Nat) : Int)) ((i : Nat) : Int)) (fun _ => false) (fun j => some (j : Int)) (some (-1)) hst
    (fun k => by show F169_0 n _ _ _ u _ _ = _; unfold F169_0; rw [ltF]; rfl) u.length n 0 (by omega) (by omega) (fun j hj => rfl) with ⟨h1, j, h2⟩ | ⟨h1, h2⟩
  · obtain ⟨_, _, h⟩ := anyN_true.1 h1
    cases h
  · exact congrArg (fun o : Option Int => (o.bind _).bind _) h2

/-! ### frames -/
def fr (g : List (Int × Int)) (b : List Int) : Nat → List Int
  | 0 => b
  | k + 1 => fr g b k ++ [and3 (val (fr g b k) (g.getD k (0, 0)).1) (val (fr g b k) (g.getD k (0, 0)).2)]
theorem fr_len (g : List (Int × Int)) (b : List Int) : ∀ k, (fr g b k).length = b.length + k
  | 0 => rfl
  | k + 1 => by simp [fr, fr_len g b k]; omega
theorem fr_tri {g : List (Int × Int)} {b : List Int} (h : Tri b) : ∀ k, Tri (fr g b k)
  | 0 => h
  | k + 1 => by
    intro x hx
    rcases List.mem_append.1 hx with hx | hx
    · exact fr_tri h k x hx
    · rw [List.mem_singleton.1 hx]; exact and3_T _ _

def base (x1 x2 : List Int) : List Int := 0 :: (x2 ++ x1)
theorem base_tri {x1 x2 : List Int} (h1 : Tri x1) (h2 : Tri x2) : Tri (base x1 x2) := by
  intro x hx
  rcases List.mem_cons.1 hx with rfl | hx
  · exact t0
  · rcases List.mem_append.1 hx with hx | hx
    · exact h2 x hx
    · exact h1 x hx

/-- The whole frame. -/
def frame (g : List (Int × Int)) (x1 x2 : List Int) : List Int := fr g (base x1 x2) g.length

section
variable {i : Int} {la g : List (Int × Int)} {ba co : List Int} (H : Rng i la g ba co) (O : OKc i la g ba co) {x1 x2 : List Int} (h1 : x1.length = la.length) (h2 : (x2.length : Int) = i) (t1 : Tri x1) (t2 : Tri x2)
include H O h1 h2 t1 t2

theorem gate_at (k : Nat) (hk : k < g.length) : 0 ≤ (g.getD k (0, 0)).1 ∧ 0 ≤ (g.getD k (0, 0)).2 ∧ (g.getD k (0, 0)).1 / 2 < (fr g (base x1 x2) k).length ∧ (g.getD k (0, 0)).2 / 2 < (fr g (base x1 x2) k).length ∧ R64 (g.getD k (0, 0)).1 ∧ R64 (g.getD k (0, 0)).2 := by
  obtain ⟨a, b, c⟩ := O.wg k hk
  have hr := getD_mem (d := ((0 : Int), (0 : Int))) H.hg r00 k
  have : ((fr g (base x1 x2) k).length : Int) = 1 + i + la.length + k := by
    rw [fr_len]; simp [base]; omega
  refine ⟨by omega, by omega, by omega, by omega, hr.1, hr.2⟩

theorem F166_spec : F166 ((i, (la, (g, (ba, (co, ()))))), (x1, (x2, ()))) = some (frame g x1 x2) := by
  show G166 KF i la g ba co x1 x2 = _
  have hk := KFbig
  revert hk
  generalize KF = n
  intro hk
  unfold G166
  have hL := LIMbig
  have n1 := H.nla
  have n2 := H.ng
  have i1 := O.i1
  rw [show decide (((0 : Int) :: ([] : List Int)).length + x2.length ≤ LIM) = true by simp only [decide_eq_true_eq, List.length_cons, List.length_nil]; omega]
  rw [show decide ((((0 : Int) :: ([] : List Int)) ++ x2).length + x1.length ≤ LIM) = true by simp only [decide_eq_true_eq, List.length_append, List.length_cons, List.length_nil]; omega]
  rw [cond_true, cond_true]
  have eb : (((0 : Int) :: ([] : List Int)) ++ x2) ++ x1 = base x1 x2 := by simp [base]
  rw [eb]
  obtain ⟨s', hs, hd⟩ := iter g.length (fun k j r => l166_0 n (fun v5 => some v5) k ((j : Nat) : Int) i la g ba co r) (fun r => some r) (fun j r => r = fr g (base x1 x2) j)
    (by
      rintro k j r hj rfl
      obtain ⟨a1, a2, a3, a4, a5, a6⟩ := gate_at H O h1 h2 t1 t2 j hj
      have ht := fr_tri (g := g) (base_tri t1 t2) j
      refine ⟨_, ?_, rfl⟩
      show F166_0 n _ _ _ i la g ba co _ = _
      unfold F166_0
      rw [ltT hj, idx_nat g j (0, 0) hj, wS hj (by omega)]
      simp only [cond_true, Option.bind_some]
      rw [F167_spec ht a1 a5 a3, F167_spec ht a2 a6 a4]
      simp only [Option.bind_some]
      rw [F170_spec (val_T ht _) (val_T ht _)]
      simp only [Option.bind_some]
      rw [show decide ((fr g (base x1 x2) j).length + (and3 (val (fr g (base x1 x2) j) (g.getD j (0, 0)).1) (val (fr g (base x1 x2) j) (g.getD j (0, 0)).2) :: ([] : List Int)).length ≤ LIM) = true by
        rw [fr_len]; simp only [decide_eq_true_eq, List.length_cons, List.length_nil, base, List.length_append]; omega]
      rfl)
    (by
      rintro k r _
      show F166_0 n _ _ _ i la g ba co _ = _
      unfold F166_0
      rw [ltF]
      rfl) g.length n 0 (base x1 x2) (by omega) (by omega) rfl
  rw [frame, ← hs]
  exact hd

theorem F133_spec (hc : chk i la g ba co = 0) : F133 ((i, (la, (g, (ba, (co, ()))))), (x1, (x2, ()))) = some (frame g x1 x2, (0, ())) := by
  show G133 KF i la g ba co x1 x2 = _
  have hk := KFbig
  revert hk
  generalize KF = n
  intro hk
  unfold G133
  have hL := LIMbig
  have n1 := H.nla
  have n2 := H.ng
  have i1 := O.i1
  rw [F66_spec H, hc]
  simp only [Option.bind_some]
  rw [show ((0 : Int) != 0) = false by rfl, cond_false]
  rw [show (((x1.length : Nat) : Int) != ((la.length : Nat) : Int)) = false by simp [h1], show (((x2.length : Nat) : Int) != i) = false by simp [h2]]
  simp only [cond_false, Option.bind_some]
  rw [F151_spec _ (by simp) (by simp; omega)]
  have eb : (((0 : Int) :: ([] : List Int)) :: (x2 :: (x1 :: ([] : List (List Int))))).flatten = base x1 x2 := by simp [base]
  simp only [Option.bind_some, eb]
  rw [F152_spec _ (base_tri t1 t2) (by simp [base]; omega)]
  simp only [Option.bind_some]
  rw [show ((0 : Int) != 0) = false by rfl, cond_false]
  obtain ⟨s', hs, hd⟩ := iter g.length (fun k j r => l133_0 n (fun v8 => some (v8, ((0 : Int), ()))) k g ((g.length : Nat) : Int) ((j : Nat) : Int) r) (fun r => some (r, ((0 : Int), ()))) (fun j r => r = fr g (base x1 x2) j)
    (by
      rintro k j r hj rfl
      obtain ⟨a1, a2, a3, a4, a5, a6⟩ := gate_at H O h1 h2 t1 t2 j hj
      have ht := fr_tri (g := g) (base_tri t1 t2) j
      refine ⟨_, ?_, rfl⟩
      show F133_0 n _ _ g _ _ _ = _
      unfold F133_0
      rw [ltT hj, idx_nat g j (0, 0) hj, wS hj (by omega)]
      simp only [cond_true, Option.bind_some]
      rw [F154_spec ht a1 a5 a3, F154_spec ht a2 a6 a4]
      simp only [Option.bind_some]
      rw [F153_spec (val_T ht _) (val_T ht _)]
      simp only [Option.bind_some]
      rw [show decide ((fr g (base x1 x2) j).length + (and3 (val (fr g (base x1 x2) j) (g.getD j (0, 0)).1) (val (fr g (base x1 x2) j) (g.getD j (0, 0)).2) :: ([] : List Int)).length ≤ LIM) = true by
        rw [fr_len]; simp only [decide_eq_true_eq, List.length_cons, List.length_nil, base, List.length_append]; omega]
      rfl)
    (by
      rintro k r _
      show F133_0 n _ _ g _ _ _ = _
      unfold F133_0
      rw [ltF]
      rfl) g.length n 0 (base x1 x2) (by omega) (by omega) rfl
  rw [frame, ← hs]
  exact hd

theorem frame_tri : Tri (frame g x1 x2) := fr_tri (base_tri t1 t2) _
theorem frame_len : ((frame g x1 x2).length : Int) = 1 + sz i la g := by
  unfold frame sz
  rw [fr_len]
  simp [base]
  omega

theorem F134_spec (hc : chk i la g ba co = 0) : F134 ((i, (la, (g, (ba, (co, ()))))), (x1, (x2, ()))) = some (la.map fun p => val (frame g x1 x2) p.1, (0, ())) := by
  show G134 KF i la g ba co x1 x2 = _
  have hk := KFbig
  revert hk
  generalize KF = n
  intro hk
  unfold G134
  have hL := LIMbig
  have n1 := H.nla
  rw [F133_spec H O h1 h2 t1 t2 hc]
  simp only [Option.bind_some]
  rw [show ((0 : Int) != 0) = false by rfl, cond_false]
  have ht := frame_tri H O h1 h2 t1 t2
  have hlen := frame_len H O h1 h2 t1 t2
  revert ht hlen
  generalize frame g x1 x2 = u
  intro ht hlen
  obtain ⟨s', hs, hd⟩ := iter la.length (fun k j r => l134_0 n (fun v8 => some (v8, ((0 : Int), ()))) k u la ((la.length : Nat) : Int) ((j : Nat) : Int) r) (fun r => some (r, ((0 : Int), ()))) (fun j r => r = (la.take j).map fun p => val u p.1)
    (by
      rintro k j r hj hr
      have hw := O.wla (la.getD j (0, 0)) (by rw [List.getD_eq_getElem?_getD, List.getElem?_eq_getElem hj]; exact List.getElem_mem hj)
      have hrr := getD_mem (d := ((0 : Int), (0 : Int))) H.hla r00 j
      refine ⟨r ++ [val u (la.getD j (0, 0)).1], ?_, ?_⟩
      · show F134_0 n _ _ u la _ _ _ = _
        unfold F134_0
        rw [ltT hj, idx_nat la j (0, 0) hj, wS hj (by omega)]
        simp only [cond_true, Option.bind_some]
        rw [F154_spec ht hw.1 hrr.1 (by omega)]
        have hrl : r.length = j := by rw [hr]; simp; omega
        simp only [Option.bind_some]
        rw [show decide (r.length + (val u (la.getD j (0, 0)).1 :: ([] : List Int)).length ≤ LIM) = true by simp only [decide_eq_true_eq, List.length_cons, List.length_nil]; omega]
        rfl
      · rw [hr, List.take_add_one, List.map_append, List.getD_eq_getElem?_getD, List.getElem?_eq_getElem hj]
        rfl)
    (by
      rintro k r _
      show F134_0 n _ _ u la _ _ _ = _
      unfold F134_0
      rw [ltF]
      rfl) la.length n 0 [] (by omega) (by omega) (by simp)
  rw [List.take_length] at hs
  rw [← hs]
  exact hd

end
end Go.Proofs.Ytbcijglbinaioaa.Ev.Pure6
