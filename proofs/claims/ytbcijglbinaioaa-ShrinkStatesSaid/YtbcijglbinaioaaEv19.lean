/- The evaluator: shapes of states at loops' heads; results' shapes. -/
import Derived.Test.YtbcijglbinaioaaEv18
set_option linter.unusedVariables false
set_option linter.unusedSimpArgs false
set_option linter.unusedSectionVars false
set_option linter.unnecessarySimpa false
namespace Go.Proofs.Ytbcijglbinaioaa.Ev
open Go.RowKit Go.Shelf

mutual
inductive PV where
  | top
  | int (k : IntKind)
  | bool
  | sl (b : Bool) (t : Ty)
  | nil (e : Nat) (t : Ty)
  | row (κ : Nat)
  | ptr (κ off : Nat)
  | agg (l : PL)
  | tup (l : PL)
  | fn (g : Nat) (l : PL)
  | ep (l : PL) (off : Nat)
inductive PL where
  | nil
  | cons (p : PV) (l : PL)
end

mutual
@[reducible] def PV.vals : PV → Type
  | .int _ => Int
  | .bool => Bool
  | .sl _ t => List t.den
  | .agg l => PL.vals l
  | .tup l => PL.vals l
  | .fn _ l => PL.vals l
  | .ep l _ => PL.vals l
  | .top => Unit
  | .nil _ _ => Unit
  | .row _ => Unit
  | .ptr _ _ => Unit
@[reducible] def PL.vals : PL → Type
  | .nil => Unit
  | .cons p l => PV.vals p × PL.vals l
end

mutual
def PV.mk : (p : PV) → p.vals → AV
  | .top, _ => .top
  | .int k, n => .int k n
  | .bool, b => .bool b
  | .sl b t, l => .sl b t l
  | .nil e t, _ => .nil e t
  | .row κ, _ => .row κ
  | .ptr κ o, _ => .ptr κ o
  | .agg l, x => .agg (PL.mk l x)
  | .tup l, x => .tup (PL.mk l x)
  | .fn g l, x => .fn g (PL.mk l x)
  | .ep l o, x => .ep true (PL.mk l x) o
def PL.mk : (l : PL) → l.vals → List AV
  | .nil, _ => []
  | .cons p l, x => PV.mk p x.1 :: PL.mk l x.2
end

mutual
def PV.get : (p : PV) → AV → Option p.vals
  | .top, v => match v with
    | .top => some ()
    | _ => none
  | .int k, v => match v with
    | .int k' n => if k' = k then some n else none
    | _ => none
  | .bool, v => match v with
    | .bool b => some b
    | _ => none
  | .sl b t, v => match v with
    | .sl b' t' l => if b' = b then (if h : t' = t then some (castL h l) else none) else none
    | _ => none
  | .nil e t, v => match v with
    | .nil e' t' => if e' = e ∧ t' = t then some () else none
    | _ => none
  | .row κ, v => match v with
    | .row κ' => if κ' = κ then some () else none
    | _ => none
  | .ptr κ o, v => match v with
    | .ptr κ' o' => if κ' = κ ∧ o' = o then some () else none
    | _ => none
  | .agg l, v => match v with
    | .agg vs => PL.get l vs
    | _ => none
  | .tup l, v => match v with
    | .tup vs => PL.get l vs
    | _ => none
  | .fn g l, v => match v with
    | .fn g' vs => if g' = g then PL.get l vs else none
    | _ => none
  | .ep l o, v => match v with
    | .ep b vs o' => if b = true ∧ o' = o then PL.get l vs else none
    | _ => none
def PL.get : (l : PL) → List AV → Option l.vals
  | .nil, vs => match vs with
    | [] => some ()
    | _ => none
  | .cons p l, vs => match vs with
    | v :: vs => match PV.get p v, PL.get l vs with
      | some x, some y => some (x, y)
      | _, _ => none
    | [] => none
end

mutual
theorem PV.get_mk : ∀ (p : PV) (v : AV) (x : p.vals), p.get v = some x → v = p.mk x
  | .top, v, x, h => by
    unfold PV.get at h
    split at h <;> first | rfl | contradiction
  | .int k, v, x, h => by
    unfold PV.get at h
    split at h <;> try contradiction
    split at h <;> try contradiction
    rename_i e
    subst e
    simp only [Option.some.injEq] at h
    subst h
    rfl
  | .bool, v, x, h => by
    unfold PV.get at h
    split at h <;> try contradiction
    simp only [Option.some.injEq] at h
    subst h
    rfl
  | .sl b t, v, x, h => by
    unfold PV.get at h
    split at h <;> try contradiction
    split at h <;> try contradiction
    rename_i e
    subst e
    split at h <;> try contradiction
    rename_i e
    subst e
    simp only [Option.some.injEq] at h
    subst h
    rfl
  | .nil e t, v, x, h => by
    unfold PV.get at h
    split at h <;> try contradiction
    split at h <;> try contradiction
    rename_i e
    obtain ⟨rfl, rfl⟩ := e
    rfl
  | .row κ, v, x, h => by
    unfold PV.get at h
    split at h <;> try contradiction
    split at h <;> try contradiction
    rename_i e
    subst e
    rfl
  | .ptr κ o, v, x, h => by
    unfold PV.get at h
    split at h <;> try contradiction
    split at h <;> try contradiction
    rename_i e
    obtain ⟨rfl, rfl⟩ := e
    rfl
  | .agg l, v, x, h => by
    unfold PV.get at h
    split at h <;> try contradiction
    rw [PL.get_mk l _ x h]
    rfl
  | .tup l, v, x, h => by
    unfold PV.get at h
    split at h <;> try contradiction
    rw [PL.get_mk l _ x h]
    rfl
  | .fn g l, v, x, h => by
    unfold PV.get at h
    split at h <;> try contradiction
    split at h <;> try contradiction
    rename_i e
    subst e
    rw [PL.get_mk l _ x h]
    rfl
  | .ep l o, v, x, h => by
    unfold PV.get at h
    split at h <;> try contradiction
    split at h <;> try contradiction
    rename_i e
    obtain ⟨rfl, rfl⟩ := e
    rw [PL.get_mk l _ x h]
    rfl
theorem PL.get_mk : ∀ (l : PL) (vs : List AV) (x : l.vals), l.get vs = some x → vs = l.mk x
  | .nil, vs, x, h => by
    unfold PL.get at h
    split at h <;> first | rfl | contradiction
  | .cons p l, vs, x, h => by
    unfold PL.get at h
    split at h <;> try contradiction
    split at h <;> try contradiction
    rename_i x1 x2 h1 h2
    simp only [Option.some.injEq] at h
    subst h
    rw [PV.get_mk p _ _ h1, PL.get_mk l _ _ h2]
    rfl
end

/-! ### arguments: what is there for good may be lent -/
mutual
def PV.getW : (p : PV) → AV → Option p.vals
  | .top, _ => some ()
  | .int k, v => match v with
    | .int k' n => if k' = k then some n else none
    | _ => none
  | .bool, v => match v with
    | .bool b => some b
    | _ => none
  | .sl b t, v => match v with
    | .sl b' t' l => if (b || !b') = true then (if h : t' = t then some (castL h l) else none) else none
    | _ => none
  | .agg l, v => match v with
    | .agg vs => PL.getW l vs
    | _ => none
  | .fn g l, v => match v with
    | .fn g' vs => if g' = g then PL.getW l vs else none
    | _ => none
  | .ep l o, v => match v with
    | .ep _ vs o' => if o' = o then PL.getW l vs else none
    | _ => none
  | .nil e t, v => match v with
    | .nil e' t' => if e' = e ∧ t' = t then some () else none
    | _ => none
  | .row κ, v => match v with
    | .row κ' => if κ' = κ then some () else none
    | _ => none
  | .ptr κ o, v => match v with
    | .ptr κ' o' => if κ' = κ ∧ o' = o then some () else none
    | _ => none
  | .tup _, _ => none
def PL.getW : (l : PL) → List AV → Option l.vals
  | .nil, vs => match vs with
    | [] => some ()
    | _ => none
  | .cons p l, vs => match vs with
    | v :: vs => match PV.getW p v, PL.getW l vs with
      | some x, some y => some (x, y)
      | _, _ => none
    | [] => none
end

mutual
theorem PV.getW_ok {w : World} {f : Fr} {φ : Nat → Bd} : ∀ (p : PV) (v : AV) (x : p.vals) (a : Value), p.getW v = some x → VR w f φ v a → VR w f φ (p.mk x) a
  | .top, v, x, a, h, hv => .top a
  | .int k, v, x, a, h, hv => by
    unfold PV.getW at h
    split at h <;> try contradiction
    split at h <;> try contradiction
    rename_i e
    subst e
    simp only [Option.some.injEq] at h
    subst h
    exact hv
  | .bool, v, x, a, h, hv => by
    unfold PV.getW at h
    split at h <;> try contradiction
    simp only [Option.some.injEq] at h
    subst h
    exact hv
  | .sl b t, v, x, a, h, hv => by
    unfold PV.getW at h
    split at h <;> try contradiction
    split at h <;> try contradiction
    rename_i b' t' l e
    split at h <;> try contradiction
    rename_i e'
    subst e'
    simp only [Option.some.injEq] at h
    subst h
    obtain ⟨A, n, c, rfl, hn, hr⟩ := hv.slv
    have up : Keeps w w (f.ok b') (f.ok b) := ⟨fun _ _ _ _ h => h, fun g o q => by
      rcases q with q | q
      · exact .inl q
      · refine .inr ⟨?_, q.2⟩
        have := q.1
        subst this
        simpa using e⟩
    exact .sl b t' _ A n c hn (hr.keeps up fun _ _ q => q.keeps up)
  | .agg l, v, x, a, h, hv => by
    unfold PV.getW at h
    split at h <;> try contradiction
    obtain ⟨vs, rfl, hs⟩ := hv.aggv
    exact .agg _ _ (PL.getW_ok l _ x _ h hs)
  | .fn g l, v, x, a, h, hv => by
    unfold PV.getW at h
    split at h <;> try contradiction
    split at h <;> try contradiction
    rename_i e
    subst e
    obtain ⟨vs, rfl, hs⟩ := hv.fnv
    exact .fn _ _ _ (PL.getW_ok l _ x _ h hs)
  | .ep l o, v, x, a, h, hv => by
    unfold PV.getW at h
    split at h <;> try contradiction
    split at h <;> try contradiction
    rename_i e
    subst e
    obtain ⟨us, g, o, rfl, hs, hc⟩ := hv.epv
    exact .ep true _ _ us g o (PL.getW_ok l _ x _ h hs) fun i hi => ⟨(hc i hi).1, (hc i hi).2.imp id fun q => ⟨rfl, q.2⟩⟩
  | .nil e t, v, x, a, h, hv => by
    unfold PV.getW at h
    split at h <;> try contradiction
    split at h <;> try contradiction
    rename_i q
    obtain ⟨rfl, rfl⟩ := q
    exact hv
  | .row κ, v, x, a, h, hv => by
    unfold PV.getW at h
    split at h <;> try contradiction
    split at h <;> try contradiction
    rename_i q
    subst q
    exact hv
  | .ptr κ o, v, x, a, h, hv => by
    unfold PV.getW at h
    split at h <;> try contradiction
    split at h <;> try contradiction
    rename_i q
    obtain ⟨rfl, rfl⟩ := q
    exact hv
  | .tup l, v, x, a, h, hv => by unfold PV.getW at h; contradiction
theorem PL.getW_ok {w : World} {f : Fr} {φ : Nat → Bd} : ∀ (l : PL) (vs : List AV) (x : l.vals) (us : List Value), l.getW vs = some x → VRs w f φ vs us → VRs w f φ (l.mk x) us
  | .nil, vs, x, us, h, hv => by
    unfold PL.getW at h
    split at h
    · exact hv
    · contradiction
  | .cons p l, vs, x, us, h, hv => by
    unfold PL.getW at h
    split at h <;> try contradiction
    split at h <;> try contradiction
    rename_i x1 x2 h1 h2
    simp only [Option.some.injEq] at h
    subst h
    cases hv with
    | cons _ _ y ys hy hys => exact .cons _ _ _ _ (PV.getW_ok p _ _ _ h1 hy) (PL.getW_ok l _ _ _ h2 hys)
end

theorem Sound.weak {P : Program} {g : Nat} {l : PL} {args : List AV} {x : l.vals} {ret : AV} (h : Sound P g (l.mk x) ret) (hw : l.getW args = some x) : Sound P g args ret :=
  fun w F0 vs hF hv => h w F0 vs hF fun φ => PL.getW_ok l _ _ _ hw (hv φ)

/-- A function's entry in the table. -/
@[reducible] def entry (ps : List (Option Ty)) (l : PL) (p : PV) (F : l.vals → Option p.vals) : CallE := ⟨ps, p.vals, fun args => (l.getW args).bind F, p.mk⟩

theorem entry_ok {P : Program} {g : Nat} {ps : List (Option Ty)} {l : PL} {p : PV} {F : l.vals → Option p.vals} (h : ∀ x y, F x = some y → Sound P g (l.mk x) (p.mk y)) (args : List AV) (y : p.vals) (hy : (entry ps l p F).val args = some y) : Sound P g args ((entry ps l p F).av y) := by
  obtain ⟨x, hx, hF⟩ := Option.bind_eq_some_iff.1 hy
  exact (h x y hF).weak hx

/-! ### objects, states -/
inductive PO where
  | box (l : PL)
  | row (e : Nat) (t : Ty) (sn : Bool)

@[reducible] def PO.vals : PO → Type
  | .box l => l.vals
  | .row _ t _ => List t.den

def PO.mk : (p : PO) → p.vals → OB
  | .box l, x => .box (l.mk x)
  | .row e t sn, x => .row e t x sn

def PO.get : (p : PO) → OB → Option p.vals
  | .box l, o => match o with
    | .box cs => l.get cs
    | _ => none
  | .row e t sn, o => match o with
    | .row e' t' els sn' => if e' = e ∧ sn' = sn then (if h : t' = t then some (castL h els) else none) else none
    | _ => none

theorem PO.get_mk (p : PO) (o : OB) (x : p.vals) (h : p.get o = some x) : o = p.mk x := by
  cases p with
  | box l =>
    simp only [PO.get] at h
    split at h <;> try contradiction
    rw [PL.get_mk l _ x h]
    rfl
  | row e t sn =>
    simp only [PO.get] at h
    split at h <;> try contradiction
    split at h <;> try contradiction
    rename_i e
    obtain ⟨rfl, rfl⟩ := e
    split at h <;> try contradiction
    rename_i e
    subst e
    simp only [Option.some.injEq] at h
    subst h
    rfl

@[reducible] def tmVals : List (Nat × PV) → Type
  | [] => Unit
  | p :: l => p.2.vals × tmVals l
def tmMk : (l : List (Nat × PV)) → tmVals l → List TE
  | [], _ => []
  | p :: l, x => .set p.1 (p.2.mk x.1) :: tmMk l x.2
def tmGet : (l : List (Nat × PV)) → List TE → Option (tmVals l)
  | [], es => match es with
    | [] => some ()
    | _ => none
  | p :: l, es => match es with
    | .set t v :: es => if t = p.1 then (match p.2.get v, tmGet l es with
      | some x, some y => some (x, y)
      | _, _ => none) else none
    | _ => none
theorem tmGet_mk : ∀ (l : List (Nat × PV)) (es : List TE) (x : tmVals l), tmGet l es = some x → es = tmMk l x
  | [], es, x, h => by
    unfold tmGet at h
    split at h <;> first | rfl | contradiction
  | p :: l, es, x, h => by
    unfold tmGet at h
    split at h <;> try contradiction
    split at h <;> try contradiction
    rename_i e
    subst e
    split at h <;> try contradiction
    rename_i x1 x2 h1 h2
    simp only [Option.some.injEq] at h
    subst h
    rw [PV.get_mk _ _ _ h1, tmGet_mk l _ _ h2]
    rfl

@[reducible] def obVals : List (Nat × PO) → Type
  | [] => Unit
  | p :: l => p.2.vals × obVals l
def obMk : (l : List (Nat × PO)) → obVals l → List OE
  | [], _ => []
  | p :: l, x => .set p.1 (p.2.mk x.1) :: obMk l x.2
def obGet : (l : List (Nat × PO)) → List OE → Option (obVals l)
  | [], es => match es with
    | [] => some ()
    | _ => none
  | p :: l, es => match es with
    | .set t v :: es => if t = p.1 then (match p.2.get v, obGet l es with
      | some x, some y => some (x, y)
      | _, _ => none) else none
    | _ => none
theorem obGet_mk : ∀ (l : List (Nat × PO)) (es : List OE) (x : obVals l), obGet l es = some x → es = obMk l x
  | [], es, x, h => by
    unfold obGet at h
    split at h <;> first | rfl | contradiction
  | p :: l, es, x, h => by
    unfold obGet at h
    split at h <;> try contradiction
    split at h <;> try contradiction
    rename_i e
    subst e
    split at h <;> try contradiction
    rename_i x1 x2 h1 h2
    simp only [Option.some.injEq] at h
    subst h
    rw [PO.get_mk _ _ _ h1, obGet_mk l _ _ h2]
    rfl

/-- A state's shape. -/
structure SP where
  tm : List (Nat × PV)
  ob : List (Nat × PO)
@[reducible] def SP.vals (p : SP) : Type := tmVals p.tm × obVals p.ob
def SP.mk' (p : SP) (x : p.vals) : St := { tm := tmMk p.tm x.1, ob := obMk p.ob x.2 }
def SP.get (p : SP) (s : St) : Option p.vals :=
  match tmGet p.tm s.tm, obGet p.ob s.ob with
  | some x, some y => some (x, y)
  | _, _ => none
theorem SP.get_mk (p : SP) (s : St) (x : p.vals) (h : p.get s = some x) : s = p.mk' x := by
  unfold SP.get at h
  split at h <;> try contradiction
  rename_i x1 x2 h1 h2
  simp only [Option.some.injEq] at h
  subst h
  cases s
  simp only [SP.mk', ← tmGet_mk _ _ _ h1, ← obGet_mk _ _ _ h2]

/-! ### functions that turn objects -/
theorem SoundI.weak {P : Program} {g : Nat} {l : PL} {args : List AV} {x : l.vals} {obs ob2 : List OE} {ret : AV} (h : SoundI P g (l.mk x) obs ret ob2) (hw : l.getW args = some x) : SoundI P g args obs ret ob2 :=
  fun w0 F0 w f φ vs h0 hr hv => h w0 F0 w f φ vs h0 hr (PL.getW_ok l _ _ _ hw hv)

/-- A function's entry in the table of those that turn objects. -/
@[reducible] def entryI (ps : List (Option Ty)) (toks : List Bool) (l : PL) (os : List (Nat × PO)) (p : PV) (os2 : List (Nat × PO)) (F : l.vals × obVals os → Option (p.vals × obVals os2)) : CallI :=
  ⟨ps, toks, p.vals × obVals os2, fun args obs => (l.getW args).bind fun x => (obGet os obs).bind fun y => F (x, y), fun r => (p.mk r.1, obMk os2 r.2)⟩

theorem entryI_ok {P : Program} {g : Nat} {ps : List (Option Ty)} {toks : List Bool} {l : PL} {os : List (Nat × PO)} {p : PV} {os2 : List (Nat × PO)} {F : l.vals × obVals os → Option (p.vals × obVals os2)}
    (h : ∀ x y, F x = some y → SoundI P g (l.mk x.1) (obMk os x.2) (p.mk y.1) (obMk os2 y.2)) (args : List AV) (obs : List OE) (y : p.vals × obVals os2) (hy : (entryI ps toks l os p os2 F).val args obs = some y) :
    SoundI P g args obs ((entryI ps toks l os p os2 F).av y).1 ((entryI ps toks l os p os2 F).av y).2 := by
  obtain ⟨x, hx, hy⟩ := Option.bind_eq_some_iff.1 hy
  obtain ⟨z, hz, hF⟩ := Option.bind_eq_some_iff.1 hy
  have := h (x, z) y hF
  rw [← obGet_mk os obs z hz] at this
  exact this.weak hx

/-- What a function that turns objects answers, read. -/
def get2 (p : PV) (os2 : List (Nat × PO)) (v : AV) (ob : List OE) : Option (p.vals × obVals os2) := (p.get v).bind fun x => (obGet os2 ob).bind fun y => some (x, y)
theorem get2_mk {p : PV} {os2 : List (Nat × PO)} {v : AV} {ob : List OE} {y : p.vals × obVals os2} (h : get2 p os2 v ob = some y) : v = p.mk y.1 ∧ ob = obMk os2 y.2 := by
  obtain ⟨a, ha, h⟩ := Option.bind_eq_some_iff.1 h
  obtain ⟨b, hb, h⟩ := Option.bind_eq_some_iff.1 h
  simp only [Option.some.injEq] at h
  subst h
  exact ⟨PV.get_mk _ _ _ ha, obGet_mk _ _ _ hb⟩

def tabIOf : List (Nat × CallI) → Nat → Option CallI
  | [], _ => none
  | p :: r, n => bif p.1 == n then some p.2 else tabIOf r n

def FunIOk (P : Program) (g : Nat) (e : CallI) : Prop := Enters P g ∧ ∀ (args : List AV) (obs : List OE) (x : e.Res), e.val args obs = some x → SoundI P g args obs (e.av x).1 (e.av x).2

theorem tabIOf_ok {P : Program} : ∀ (l : List (Nat × CallI)), (l.foldr (fun p q => FunIOk P p.1 p.2 ∧ q) True) → TabIOk P (tabIOf l)
  | [], _, g, c, h => by cases h
  | p :: l, hl, g, c, h => by
    unfold tabIOf at h
    cases hb : (p.1 == g) with
    | true =>
      rw [hb] at h
      simp only [cond_true, Option.some.injEq] at h
      subst h
      have : p.1 = g := by simpa using hb
      subst this
      exact hl.1
    | false =>
      rw [hb] at h
      exact tabIOf_ok l hl.2 g c h

def liveTab : List (Nat × Live) → Nat → Live
  | [], _ => ⟨[], [], [], [], []⟩
  | p :: r, n => bif p.1 == n then p.2 else liveTab r n
def modeTab : List (Nat × RM) → Nat → RM
  | [], _ => .seq
  | p :: r, n => bif p.1 == n then p.2 else modeTab r n
def lpTab {R : Type} : List (Nat × (St → (Ex → St → Option R) → Option R)) → Lp R
  | [], _, _, _, _, _, _ => none
  | p :: r, n, step, mk, mx, s, K => bif p.1 == n then p.2 s K else lpTab r n step mk mx s K

def tabOf : List (Nat × CallE) → Nat → Option CallE
  | [], _ => none
  | p :: r, n => bif p.1 == n then some p.2 else tabOf r n

def FunOk (P : Program) (g : Nat) (e : CallE) : Prop := Enters P g ∧ ∀ (args : List AV) (x : e.Res), e.val args = some x → Sound P g args (e.av x)

theorem tabOf_ok {P : Program} : ∀ (l : List (Nat × CallE)), (l.foldr (fun p q => FunOk P p.1 p.2 ∧ q) True) → TabOk P (tabOf l)
  | [], _, g, c, h => by cases h
  | p :: l, hl, g, c, h => by
    unfold tabOf at h
    cases hb : (p.1 == g) with
    | true =>
      rw [hb] at h
      simp only [cond_true, Option.some.injEq] at h
      subst h
      have : p.1 = g := by simpa using hb
      subst this
      exact hl.1
    | false =>
      rw [hb] at h
      exact tabOf_ok l hl.2 g c h

/-- Rounds enough. -/
def KF : Nat := 18446744073709551616

/-- A loop whose head has the shape p, read by g. -/
def viaSP {R : Type} (p : SP) (g : p.vals → (Ex → St → Option R) → Option R) (s : St) (K : Ex → St → Option R) : Option R := (p.get s).bind fun x => g x K

theorem viaSP_good {R : Type} {p : SP} {g : p.vals → (Ex → St → Option R) → Option R} {step : St → (Ex → St → Option R) → Option R} {mk mx : St → St} {k : Nat} (h : ∀ x K, evL step mk mx k (p.mk' x) K = g x K) (s : St) (K : Ex → St → Option R) (r : R)
    (hg : viaSP p g s K = some r) : ∃ j, evL step mk mx j s K = some r := by
  obtain ⟨x, hx, hr⟩ := Option.bind_eq_some_iff.1 hg
  refine ⟨k, ?_⟩
  rw [SP.get_mk p s x hx, h, hr]

theorem forall_loops {Q : Nat × Code → Prop} : ∀ (l l' : List (Nat × Code)), l = l' → (l'.foldr (fun p q => Q p ∧ q) True) → ∀ p ∈ l, Q p := by
  intro l l' e h
  subst e
  induction l with
  | nil => intro p hp; cases hp
  | cons p l ih =>
    intro q hq
    rcases List.mem_cons.1 hq with rfl | hq
    · exact h.1
    · exact ih h.2 q hq

/-- slices.Clone: joined out of what it answers of no element and of some. -/
theorem clone_ok {P : Program} {g : Nat} {T : Ty} (h1 : ∀ l, isEmptyL l = false → l.length ≤ LIM → Sound P g [.sl true T l] (.sl false T l)) (h2 : ∀ b, Sound P g [.emp b T] (.sl false T [])) (l : List T.den) (hl : l.length ≤ LIM) :
    Sound P g [.sl true T l] (.sl false T l) := by
  cases l with
  | cons x l => exact h1 (x :: l) rfl hl
  | nil =>
    intro w F0 vs hF hv
    cases hv triv with
    | cons v r y ys hy hys =>
      cases hys
      obtain ⟨A, n, c, rfl, hn, hr⟩ := hy.slv
      have hn0 : n = 0 := hr.1.symm
      subst hn0
      exact h2 A.isNone w F0 _ hF fun φ => .cons _ _ _ _ (.emp _ T A c rfl) .nil
end Go.Proofs.Ytbcijglbinaioaa.Ev
