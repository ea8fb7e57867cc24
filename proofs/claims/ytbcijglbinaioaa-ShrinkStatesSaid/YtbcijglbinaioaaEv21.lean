/- The evaluator: the row of a law. -/
import Derived.Test.YtbcijglbinaioaaEv20
import Derived.Carry
import Derived.ChangeShapes
import Derived.WideShapes
set_option linter.unusedVariables false
set_option linter.unusedSimpArgs false
set_option linter.unusedSectionVars false
set_option linter.unnecessarySimpa false
namespace Go.Proofs.Ytbcijglbinaioaa.Ev
open Go.RowKit Go.Shelf Go.ChangeShapes Go.WideShapes

/-- Arguments: a struct (true), or one cell. -/
@[reducible] def dens : List (Bool × Ty) → Type
  | [] => Unit
  | p :: r => p.2.den × dens r

def argOf (b : Bool) (t : Ty) (y : t.den) : AV := bif b then .agg (enc true t y) else (enc true t y).headD .top

def argsOf : (l : List (Bool × Ty)) → dens l → List AV
  | [], _ => []
  | p :: r, y => argOf p.1 p.2 y.1 :: argsOf r y.2

def WfA : (l : List (Bool × Ty)) → dens l → Prop
  | [], _ => True
  | p :: r, y => WfT p.2 y.1 ∧ WfA r y.2

/-- The parameters' types are read so. -/
def argB (P : Program) : List Nat → List (Bool × Ty) → Bool
  | [], [] => true
  | t :: ts, p :: r => (tyB P 8 t p.2 && (match P.underlying t with
    | some (.struct _) => p.1
    | some (.slice _) => !p.1 && decide (p.2.sz = 1)
    | some (.int _) => !p.1 && decide (p.2.sz = 1)
    | some .bool => !p.1 && decide (p.2.sz = 1)
    | _ => false)) && (P.readableRec t && (decide (t < P.types.size) && argB P ts r))
  | _, _ => false

section
variable {P : Program} {W W' : World} {H : Type} {enc : TypeId × Value → H} {base : Nat}

theorem encHead {f : Fr} {φ : Nat → Bd} {t : Ty} {y : t.den} {v : Value} (h : VRs W f φ (Ev.enc true t y) [v]) : VR W f φ ((Ev.enc true t y).headD .top) v := by
  revert h
  generalize Ev.enc true t y = l
  intro h
  cases h
  assumption

theorem arg_ok {t : Nat} {p : Bool × Ty} {v : Value} {d : DataW H} {ps : List MemPlace} (hb : tyB P 8 t p.2 = true) (hk : (match P.underlying t with
    | some (.struct _) => p.1
    | some (.slice _) => !p.1 && decide (p.2.sz = 1)
    | some (.int _) => !p.1 && decide (p.2.sz = 1)
    | some .bool => !p.1 && decide (p.2.sz = 1)
    | _ => false) = true)
    (hv : Value.okWide P W .any base t v) (h : DataW.Trod enc P W 0 (fun _ => true) true t v d ps) :
    ∃ y, WfT p.2 y ∧ ∀ φ, VR W ⟨W.heap.size, fun g _ => g < W.heap.size⟩ φ (argOf p.1 p.2 y) v := by
  obtain ⟨fuel, hf⟩ := h
  obtain ⟨y, hy, hw⟩ := trod_RT 8 t p.2 hb fuel _ _ hf
  refine ⟨y, hw, fun φ => ?_⟩
  have hr := RT.enc (φ := φ) (hy.keeps (Fok (f := ⟨W.heap.size, fun g _ => g < W.heap.size⟩) true))
  unfold argOf
  split at hk
  · rename_i hu
    obtain ⟨cs, rfl, _⟩ := okWide_struct hu hv
    rw [hk]
    simp only [cond_true]
    have : cs = cs.toList.toArray := by simp
    rw [this]
    exact .agg _ _ hr
  · rename_i hu
    obtain ⟨a, n, c, rfl⟩ := okWide_slice hu hv
    simp only [Bool.and_eq_true, Bool.not_eq_true', decide_eq_true_eq] at hk
    rw [hk.1]
    simp only [cond_false]
    exact encHead hr
  · rename_i hu
    obtain ⟨n, rfl⟩ := okWide_int hu hv
    simp only [Bool.and_eq_true, Bool.not_eq_true', decide_eq_true_eq] at hk
    rw [hk.1]
    simp only [cond_false]
    exact encHead hr
  · rename_i hu
    obtain ⟨n, rfl⟩ := okWide_bool hu hv
    simp only [Bool.and_eq_true, Bool.not_eq_true', decide_eq_true_eq] at hk
    rw [hk.1]
    simp only [cond_false]
    exact encHead hr
  · contradiction

theorem args_ok : ∀ (ts : List Nat) (l : List (Bool × Ty)) (vs : List Value) (ds : List (DataW H)) (ps : List MemPlace), argB P ts l = true →
    (∀ (j : Nat) t v, ts[j]? = some t → vs[j]? = some v → Value.okWide P W .any base t v) → DataW.TrodAll enc P W 0 (fun _ => true) true ts vs ds ps →
    ∃ y : dens l, WfA l y ∧ ∀ φ, VRs W ⟨W.heap.size, fun g _ => g < W.heap.size⟩ φ (argsOf l y) vs
  | [], [], vs, ds, ps, _, _, h => by
    obtain ⟨rfl, rfl, rfl⟩ := trodAll_nil h
    exact ⟨(), trivial, fun φ => .nil⟩
  | t :: ts, p :: r, vs, ds, ps, hb, hv, h => by
    obtain ⟨v, vs, d, ds, p1, q1, rfl, rfl, rfl, h1, h2⟩ := trodAll_cons h
    simp only [argB, Bool.and_eq_true] at hb
    obtain ⟨y, hy, hr⟩ := arg_ok hb.1.1 hb.1.2 (hv 0 t v rfl rfl) h1
    obtain ⟨z, hz, hrs⟩ := args_ok ts r vs ds q1 hb.2.2.2 (fun j t' v' e1 e2 => hv (j + 1) t' v' e1 e2) h2
    exact ⟨(y, z), ⟨hy, hz⟩, fun φ => .cons _ _ _ _ (hr φ) (hrs φ)⟩
  | [], _ :: _, _, _, _, hb, _, _ => by simp [argB] at hb
  | _ :: _, [], _, _, _, hb, _, _ => by simp [argB] at hb

theorem args_back (hl : laidOutB P = true) (bel : Below W.heap.size W W') : ∀ (ts : List Nat) (l : List (Bool × Ty)) (vs : List Value) (ds : List (DataW H)) (ps : List MemPlace), argB P ts l = true →
    DataW.TrodAll enc P W 0 (fun _ => true) true ts vs ds ps → DataW.TrodAll enc P W' 0 (fun b => decide (b < W.heap.size)) true ts vs ds ps
  | [], [], vs, ds, ps, _, h => by
    obtain ⟨rfl, rfl, rfl⟩ := trodAll_nil h
    exact trodAll_mk0
  | t :: ts, p :: r, vs, ds, ps, hb, h => by
    obtain ⟨v, vs, d, ds, p1, q1, rfl, rfl, rfl, h1, h2⟩ := trodAll_cons h
    simp only [argB, Bool.and_eq_true, decide_eq_true_eq] at hb
    refine ⟨p1, q1, Below.trod hl hb.2.1 hb.2.2.1 h1 bel (by obtain ⟨m, hm⟩ := h1; exact DataW.trod_lt m _ _ _ hm), args_back hl bel ts r vs ds q1 hb.2.2.2 h2, rfl⟩
  | [], _ :: _, _, _, _, hb, _ => by simp [argB] at hb
  | _ :: _, [], _, _, _, hb, _ => by simp [argB] at hb

theorem trodAll_len : ∀ (ts : List Nat) (vs : List Value) (ds : List (DataW H)) (ps : List MemPlace), DataW.TrodAll enc P W 0 (fun _ => true) true ts vs ds ps → ds.length = ts.length
  | [], _, _, _, h => by
    obtain ⟨_, rfl, _⟩ := trodAll_nil h
    rfl
  | t :: ts, _, _, _, h => by
    obtain ⟨v, vs, d, ds, p1, q1, rfl, rfl, rfl, h1, h2⟩ := trodAll_cons h
    rw [List.length_cons, List.length_cons, trodAll_len ts vs ds q1 h2]

/-- The call of a law: it answers true, and each argument reads as before. -/
theorem law_calls {g : Nat} {e : CallE} (he : FunOk P g e) (hl : laidOutB P = true) {ts : Array Nat} {l : List (Bool × Ty)} (hb : argB P ts.toList l = true)
    (pure : ∀ y : dens l, WfA l y → ∃ x, e.val (argsOf l y) = some x ∧ e.av x = .bool true) {vs : Array Value} {ds : List (DataW H)} {ps : List MemPlace}
    (hv : ∀ (j : Nat) t v, ts[j]? = some t → vs[j]? = some v → Value.okWide P W .any base t v) (h : DataW.TrodAll enc P W 0 (fun _ => true) true ts.toList vs.toList ds ps) :
    Calls P g vs W fun e W' => e = .returned (.bool true) ∧ Below W.heap.size W W' ∧ DataW.TrodAll enc P W' 0 (fun b => decide (b < W.heap.size)) true ts.toList vs.toList ds ps := by
  obtain ⟨y, hy, hr⟩ := args_ok (base := base) ts.toList l vs.toList ds ps hb (fun j t v e1 e2 => hv j t v (by simpa using e1) (by simpa using e2)) h
  obtain ⟨x, hx, hav⟩ := pure y hy
  have hs := he.2 _ x hx W (fun g _ => g < W.heap.size) vs.toList (fun _ _ h => h) hr
  rw [hav] at hs
  have : vs = vs.toList.toArray := by simp
  rw [this]
  refine hs.mono fun e W' hq => ?_
  obtain ⟨v, rfl, bel, F', _, _, _, hvr⟩ := hq
  have := hvr 0 triv
  cases this
  exact ⟨rfl, bel, args_back hl bel ts.toList l vs.toList ds ps hb h⟩

end
end Go.Proofs.Ytbcijglbinaioaa.Ev
