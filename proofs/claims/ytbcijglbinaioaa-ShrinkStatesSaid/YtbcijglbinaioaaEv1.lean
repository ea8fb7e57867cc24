/- The evaluator: how its values read in a world. -/
import Derived.Test.YtbcijglbinaioaaEv0
import Derived.Great.BuildSlice
import Derived.Deep.MidRow
import Derived.Laws.StructEq
set_option linter.unusedVariables false
set_option linter.unusedSimpArgs false
set_option linter.unusedSectionVars false
set_option linter.unnecessarySimpa false
namespace Go.Proofs.Ytbcijglbinaioaa.Ev
open Go.RowKit

structure Fr where
  n0 : Nat
  F : Nat → Nat → Prop

def Fr.ok (f : Fr) (b : Bool) (g o : Nat) : Prop := f.F g o ∨ (b = true ∧ g < f.n0)

/-- n elements from A on. -/
def RS {α : Type} (w : World) (p : Nat → Nat → Prop) (R : α → List Value → Prop) (sz : Nat) (A : Option Addr) (n : Nat) (l : List α) : Prop :=
  l.length = n ∧ n ≤ maxLen ∧ ∀ j (h : j < l.length), ∃ g o es, A = some ⟨g, o, none⟩ ∧ es.length = sz ∧ R l[j] es ∧
    ∀ i (hi : i < es.length), w.cell? ⟨g, o + j * sz + i, none⟩ = some es[i] ∧ p g (o + j * sz + i)

def RT (w : World) (p : Nat → Nat → Prop) : (t : Ty) → t.den → List Value → Prop
  | .int k, n, cs => cs = [.int k n]
  | .bool, x, cs => cs = [.bool x]
  | .slice t, l, cs => ∃ A n c, cs = [.slice A n c] ∧ n ≤ c ∧ RS w p (RT w p t) t.sz A n l
  | .pair a b, x, cs => ∃ c1 c2, cs = c1 ++ c2 ∧ RT w p a x.1 c1 ∧ RT w p b x.2 c2

theorem RT.len {w : World} {p : Nat → Nat → Prop} : ∀ {t : Ty} {x : t.den} {cs : List Value}, RT w p t x cs → cs.length = t.sz
  | .int _, _, _, h => by simp only [RT] at h; subst h; rfl
  | .bool, _, _, h => by simp only [RT] at h; subst h; rfl
  | .slice _, _, _, h => by
    simp only [RT] at h
    obtain ⟨A, n, c, rfl, _⟩ := h
    rfl
  | .pair a b, _, _, h => by
    simp only [RT] at h
    obtain ⟨c1, c2, rfl, h1, h2⟩ := h
    simp [Ty.sz, h1.len, h2.len]

/-- What is told under p in w is told under p' in w'. -/
structure Keeps (w w' : World) (p p' : Nat → Nat → Prop) : Prop where
  cell : ∀ g o u, p g o → w.cell? ⟨g, o, none⟩ = some u → w'.cell? ⟨g, o, none⟩ = some u
  perm : ∀ g o, p g o → p' g o

theorem RS.keeps {α : Type} {w w' : World} {p p' : Nat → Nat → Prop} {R R' : α → List Value → Prop} {sz : Nat} {A : Option Addr} {n : Nat} {l : List α}
    (h : RS w p R sz A n l) (hk : Keeps w w' p p') (hR : ∀ x es, R x es → R' x es) : RS w' p' R' sz A n l := by
  refine ⟨h.1, h.2.1, fun j hj => ?_⟩
  obtain ⟨g, o, es, hA, hl, hr, hc⟩ := h.2.2 j hj
  exact ⟨g, o, es, hA, hl, hR _ _ hr, fun i hi => ⟨hk.cell _ _ _ (hc i hi).2 (hc i hi).1, hk.perm _ _ (hc i hi).2⟩⟩

theorem RT.keeps {w w' : World} {p p' : Nat → Nat → Prop} (hk : Keeps w w' p p') : ∀ {t : Ty} {x : t.den} {cs : List Value}, RT w p t x cs → RT w' p' t x cs
  | .int _, _, _, h => h
  | .bool, _, _, h => h
  | .slice t, l, cs, h => by
    simp only [RT] at h ⊢
    obtain ⟨A, n, c, rfl, hnc, hs⟩ := h
    exact ⟨A, n, c, rfl, hnc, hs.keeps hk fun _ _ hr => RT.keeps hk hr⟩
  | .pair a b, _, _, h => by
    simp only [RT] at h ⊢
    obtain ⟨c1, c2, rfl, h1, h2⟩ := h
    exact ⟨c1, c2, rfl, h1.keeps hk, h2.keeps hk⟩

/-- What stands behind a key: the header (a box: its address), the element's size. -/
structure Bd where
  v : Value
  sz : Nat

mutual
inductive VR (w : World) (f : Fr) (φ : Nat → Bd) : AV → Value → Prop
  | top (v : Value) : VR w f φ .top v
  | int (k : IntKind) (n : Int) : VR w f φ (.int k n) (.int k n)
  | bool (b : Bool) : VR w f φ (.bool b) (.bool b)
  | agg (l : List AV) (vs : List Value) : VRs w f φ l vs → VR w f φ (.agg l) (.agg vs.toArray)
  | tup (l : List AV) (vs : List Value) : VRs w f φ l vs → VR w f φ (.tup l) (.tuple vs.toArray)
  | fn (g : Nat) (l : List AV) (vs : List Value) : VRs w f φ l vs → VR w f φ (.fn g l) (.func (.func g) #[] vs.toArray)
  | sl (b : Bool) (t : Ty) (l : List t.den) (A : Option Addr) (n c : Nat) : n ≤ c → RS w (f.ok b) (RT w (f.ok b) t) t.sz A n l → VR w f φ (.sl b t l) (.slice A n c)
  | xs (b : Bool) (t : Ty) (l : List t.den) (A : Option Addr) (n : Nat) : RS w (f.ok b) (RT w (f.ok b) t) t.sz A n l → VR w f φ (.xs b t l) (.slice A n n)
  | ep (b : Bool) (cs : List AV) (off : Nat) (us : List Value) (g o : Nat) : VRs w f φ cs us →
      (∀ i (h : i < us.length), w.cell? ⟨g, o + i, none⟩ = some us[i] ∧ f.ok b g (o + i)) → VR w f φ (.ep b cs off) (.pointer (some ⟨g, o + off, none⟩))
  | nil (e : Nat) (t : Ty) : VR w f φ (.nil e t) (.slice none 0 0)
  | emp (z : Bool) (t : Ty) (A : Option Addr) (c : Nat) : A.isNone = z → VR w f φ (.emp z t) (.slice A 0 c)
  | row (κ : Nat) : VR w f φ (.row κ) (φ κ).v
  | rp (κ i off g n c : Nat) : (φ κ).v = .slice (some ⟨g, 0, none⟩) n c → i < n → VR w f φ (.rp κ i off) (.pointer (some ⟨g, i * (φ κ).sz + off, none⟩))
  | ptr (κ off g : Nat) : (φ κ).v = .pointer (some ⟨g, 0, none⟩) → VR w f φ (.ptr κ off) (.pointer (some ⟨g, off, none⟩))
inductive VRs (w : World) (f : Fr) (φ : Nat → Bd) : List AV → List Value → Prop
  | nil : VRs w f φ [] []
  | cons (v : AV) (l : List AV) (x : Value) (xs : List Value) : VR w f φ v x → VRs w f φ l xs → VRs w f φ (v :: l) (x :: xs)
end

theorem VRs.len {w : World} {f : Fr} {φ : Nat → Bd} : ∀ {l : List AV} {xs : List Value}, VRs w f φ l xs → l.length = xs.length
  | _, _, .nil => rfl
  | _, _, .cons _ _ _ _ _ h => by simp [h.len]

/-- From one frame to the next: what may be read stays. -/
structure FKeeps (w w' : World) (f f' : Fr) : Prop where
  n0 : f'.n0 = f.n0
  F : ∀ g o, f.F g o → f'.F g o
  cell : ∀ g o u, (f.F g o ∨ g < f.n0) → w.cell? ⟨g, o, none⟩ = some u → w'.cell? ⟨g, o, none⟩ = some u

theorem FKeeps.ok {w w' : World} {f f' : Fr} (h : FKeeps w w' f f') (b : Bool) : Keeps w w' (f.ok b) (f'.ok b) :=
  ⟨fun g o u hp hc => h.cell g o u (hp.imp id (·.2)) hc, fun g o hp => hp.imp (h.F g o) (fun q => ⟨q.1, by rw [h.n0]; exact q.2⟩)⟩
theorem FKeeps.Fk {w w' : World} {f f' : Fr} (h : FKeeps w w' f f') : Keeps w w' f.F f'.F :=
  ⟨fun g o u hp hc => h.cell g o u (.inl hp) hc, h.F⟩
theorem FKeeps.refl (w : World) (f : Fr) : FKeeps w w f f := ⟨rfl, fun _ _ h => h, fun _ _ _ _ h => h⟩
theorem FKeeps.trans {w w' w'' : World} {f f' f'' : Fr} (h : FKeeps w w' f f') (k : FKeeps w' w'' f' f'') : FKeeps w w'' f f'' :=
  ⟨k.n0.trans h.n0, fun g o q => k.F g o (h.F g o q), fun g o u hp hc => k.cell g o u (hp.imp (h.F g o) (fun q => by rw [h.n0]; exact q)) (h.cell g o u hp hc)⟩

mutual
theorem VR.keeps {w w' : World} {f f' : Fr} {φ : Nat → Bd} (hk : FKeeps w w' f f') : ∀ {v : AV} {x : Value}, VR w f φ v x → VR w' f' φ v x
  | _, _, .top v => .top v
  | _, _, .int k n => .int k n
  | _, _, .bool b => .bool b
  | _, _, .agg l vs h => .agg l vs (VRs.keeps hk h)
  | _, _, .tup l vs h => .tup l vs (VRs.keeps hk h)
  | _, _, .fn g l vs h => .fn g l vs (VRs.keeps hk h)
  | _, _, .sl b t l A n c hn h => .sl b t l A n c hn (h.keeps (hk.ok b) fun _ _ hr => hr.keeps (hk.ok b))
  | _, _, .xs b t l A n h => .xs b t l A n (h.keeps (hk.ok b) fun _ _ hr => hr.keeps (hk.ok b))
  | _, _, .ep b cs off us g o h hc => .ep b cs off us g o (VRs.keeps hk h) fun i hi => ⟨(hk.ok b).cell _ _ _ (hc i hi).2 (hc i hi).1, (hk.ok b).perm _ _ (hc i hi).2⟩
  | _, _, .nil e t => .nil e t
  | _, _, .emp z t A c h => .emp z t A c h
  | _, _, .row κ => .row κ
  | _, _, .rp κ i off g n c h hi => .rp κ i off g n c h hi
  | _, _, .ptr κ off g h => .ptr κ off g h
theorem VRs.keeps {w w' : World} {f f' : Fr} {φ : Nat → Bd} (hk : FKeeps w w' f f') : ∀ {l : List AV} {xs : List Value}, VRs w f φ l xs → VRs w' f' φ l xs
  | _, _, .nil => .nil
  | _, _, .cons v l x xs h hs => .cons v l x xs (VR.keeps hk h) (VRs.keeps hk hs)
end

def upd (φ : Nat → Bd) (κ : Nat) (b : Bd) : Nat → Bd := fun κ' => if κ' = κ then b else φ κ'
theorem upd_same (φ : Nat → Bd) (κ : Nat) (b : Bd) : upd φ κ b κ = b := by simp [upd]
theorem upd_ne (φ : Nat → Bd) {κ κ' : Nat} (b : Bd) (h : κ' ≠ κ) : upd φ κ b κ' = φ κ' := by simp [upd, h]

mutual
theorem VR.kill {w : World} {f : Fr} {φ : Nat → Bd} (κ : Nat) (b : Bd) : ∀ {v : AV} {x : Value}, VR w f φ v x → VR w f (upd φ κ b) (killV κ v) x
  | _, _, .top v => .top v
  | _, _, .int k n => .int k n
  | _, _, .bool b => .bool b
  | _, _, .agg l vs h => by simp only [killV]; exact .agg _ vs (VRs.kill κ b h)
  | _, _, .tup l vs h => by simp only [killV]; exact .tup _ vs (VRs.kill κ b h)
  | _, _, .fn g l vs h => by simp only [killV]; exact .fn g _ vs (VRs.kill κ b h)
  | _, _, .sl b t l A n c hn h => .sl b t l A n c hn h
  | _, _, .xs b t l A n h => .xs b t l A n h
  | _, _, .ep b' cs off us g o h hc => by simp only [killV]; exact .ep b' _ off us g o (VRs.kill κ b h) hc
  | _, _, .nil e t => .nil e t
  | _, _, .emp z t A c h => .emp z t A c h
  | _, _, .row κ' => by
    simp only [killV]
    split
    · exact .top _
    · rename_i hne
      have := VR.row (w := w) (f := f) (φ := upd φ κ b) κ'
      rwa [upd_ne φ b hne] at this
  | _, _, .rp κ' i off g n c h hi => by
    simp only [killV]
    split
    · exact .top _
    · rename_i hne
      have := VR.rp (w := w) (f := f) (φ := upd φ κ b) κ' i off g n c (by rw [upd_ne φ b hne]; exact h) hi
      rwa [upd_ne φ b hne] at this
  | _, _, .ptr κ' off g h => by
    simp only [killV]
    split
    · exact .top _
    · rename_i hne
      exact .ptr κ' off g (by rw [upd_ne φ b hne]; exact h)
theorem VRs.kill {w : World} {f : Fr} {φ : Nat → Bd} (κ : Nat) (b : Bd) : ∀ {l : List AV} {xs : List Value}, VRs w f φ l xs → VRs w f (upd φ κ b) (killV.killL κ l) xs
  | _, _, .nil => .nil
  | _, _, .cons v l x xs h hs => .cons _ _ x xs (VR.kill κ b h) (VRs.kill κ b hs)
end

theorem killL_map (κ : Nat) : ∀ l : List AV, killV.killL κ l = l.map (killV κ)
  | [] => rfl
  | v :: l => by simp [killV.killL, killL_map κ l]

theorem VRs.get {w : World} {f : Fr} {φ : Nat → Bd} : ∀ {l : List AV} {xs : List Value}, VRs w f φ l xs → ∀ i (h : i < l.length) (h' : i < xs.length), VR w f φ l[i] xs[i]
  | _, _, .nil, i, h, _ => absurd h (by simp)
  | _, _, .cons v l x xs hv hs, i, h, h' => by
    cases i with
    | zero => exact hv
    | succ i => exact hs.get i (by simpa using h) (by simpa using h')

theorem VRs.append {w : World} {f : Fr} {φ : Nat → Bd} : ∀ {l l' : List AV} {xs xs' : List Value}, VRs w f φ l xs → VRs w f φ l' xs' → VRs w f φ (l ++ l') (xs ++ xs')
  | _, _, _, _, .nil, h => h
  | _, _, _, _, .cons v l x xs hv hs, h => .cons _ _ _ _ hv (hs.append h)

theorem VRs.drop {w : World} {f : Fr} {φ : Nat → Bd} : ∀ (n : Nat) {l : List AV} {xs : List Value}, VRs w f φ l xs → VRs w f φ (l.drop n) (xs.drop n)
  | 0, _, _, h => h
  | _ + 1, _, _, .nil => .nil
  | n + 1, _, _, .cons v l x xs hv hs => hs.drop n

theorem VRs.take {w : World} {f : Fr} {φ : Nat → Bd} : ∀ (n : Nat) {l : List AV} {xs : List Value}, VRs w f φ l xs → VRs w f φ (l.take n) (xs.take n)
  | 0, _, _, _ => .nil
  | _ + 1, _, _, .nil => .nil
  | n + 1, _, _, .cons v l x xs hv hs => .cons _ _ _ _ hv (hs.take n)

theorem VRs.map {w : World} {f : Fr} {φ : Nat → Bd} {w' : World} {f' : Fr} {φ' : Nat → Bd} (g : AV → AV) (hg : ∀ v x, VR w f φ v x → VR w' f' φ' (g v) x) :
    ∀ {l : List AV} {xs : List Value}, VRs w f φ l xs → VRs w' f' φ' (l.map g) xs
  | _, _, .nil => .nil
  | _, _, .cons v l x xs hv hs => .cons _ _ _ _ (hg _ _ hv) (hs.map g hg)

/-- An element's cells, as values. -/
theorem RT.enc {w : World} {f : Fr} {φ : Nat → Bd} {b : Bool} : ∀ {t : Ty} {x : t.den} {cs : List Value}, RT w (f.ok b) t x cs → VRs w f φ (enc b t x) cs
  | .int k, n, _, h => by simp only [RT] at h; subst h; exact .cons _ _ _ _ (.int k n) .nil
  | .bool, b, _, h => by simp only [RT] at h; subst h; exact .cons _ _ _ _ (.bool b) .nil
  | .slice t, l, _, h => by
    simp only [RT] at h
    obtain ⟨A, n, c, rfl, hnc, hs⟩ := h
    exact .cons _ _ _ _ (.sl b t l A n c hnc hs) .nil
  | .pair a b, x, _, h => by
    simp only [RT] at h
    obtain ⟨c1, c2, rfl, h1, h2⟩ := h
    exact (RT.enc h1).append (RT.enc h2)

theorem enc_len (lent : Bool) : ∀ (t : Ty) (x : t.den), (enc lent t x).length = t.sz
  | .int _, _ => rfl
  | .bool, _ => rfl
  | .slice _, _ => rfl
  | .pair a b, x => by simp [Ev.enc, Ty.sz, enc_len lent a, enc_len lent b]

theorem Ty.sz_pos : ∀ t : Ty, 0 < t.sz
  | .int _ => Nat.one_pos
  | .bool => Nat.one_pos
  | .slice _ => Nat.one_pos
  | .pair a b => by have := Ty.sz_pos a; simp [Ty.sz]; omega

theorem Fr.ok_false {f : Fr} {g o : Nat} (h : f.ok false g o) : f.F g o := by
  rcases h with h | h
  · exact h
  · exact absurd h.1 (by simp)

theorem okF {w : World} {f : Fr} : Keeps w w (f.ok Bool.false) f.F := ⟨fun _ _ _ _ h => h, fun _ _ h => Fr.ok_false h⟩
theorem Fok {w : World} {f : Fr} (b : Bool) : Keeps w w f.F (f.ok b) := ⟨fun _ _ _ _ h => h, fun _ _ h => .inl h⟩
theorem RS.false {w : World} {f : Fr} {t : Ty} {A : Option Addr} {n : Nat} {l : List t.den} (h : RS w (f.ok Bool.false) (RT w (f.ok Bool.false) t) t.sz A n l) : RS w f.F (RT w f.F t) t.sz A n l :=
  h.keeps okF fun _ _ hr => hr.keeps okF

/-- Out of frozen cells an element. -/
theorem RT.dec {w : World} {f : Fr} {φ : Nat → Bd} : ∀ (t : Ty) (l : List AV) (xs : List Value) (x : t.den) (r : List AV), VRs w f φ l xs → dec t l = some (x, r) →
    ∃ cs ys, xs = cs ++ ys ∧ RT w f.F t x cs ∧ VRs w f φ r ys
  | .int k, l, xs, x, r, hv, h => by
    simp only [Ev.dec] at h
    cases hv with
    | nil => simp at h
    | cons v l y ys hv hs =>
      cases hv <;> simp only [] at h <;> try contradiction
      split at h
      · rename_i hk
        subst hk
        simp only [Option.some.injEq, Prod.mk.injEq] at h
        obtain ⟨rfl, rfl⟩ := h
        exact ⟨[_], ys, rfl, rfl, hs⟩
      · contradiction
  | .bool, l, xs, x, r, hv, h => by
    simp only [Ev.dec] at h
    cases hv with
    | nil => simp at h
    | cons v l y ys hv hs =>
      cases hv <;> simp only [] at h <;> try contradiction
      simp only [Option.some.injEq, Prod.mk.injEq] at h
      obtain ⟨rfl, rfl⟩ := h
      exact ⟨[_], ys, rfl, rfl, hs⟩
  | .slice t, l, xs, x, r, hv, h => by
    simp only [Ev.dec] at h
    cases hv with
    | nil => simp at h
    | cons v l y ys hv hs =>
      cases hv <;> simp only [] at h <;> try contradiction
      · rename_i b t' l' A n c hn hr
        cases b with
        | true => simp at h
        | false =>
          simp only [Bool.false_eq_true, if_false] at h
          split at h
          · rename_i ht
            subst ht
            simp only [Option.some.injEq, Prod.mk.injEq] at h
            obtain ⟨rfl, rfl⟩ := h
            exact ⟨[_], ys, rfl, ⟨A, n, c, rfl, hn, hr.false⟩, hs⟩
          · contradiction
      · simp only [Option.some.injEq, Prod.mk.injEq] at h
        obtain ⟨rfl, rfl⟩ := h
        exact ⟨[_], ys, rfl, ⟨none, 0, 0, rfl, Nat.le_refl _, rfl, Nat.zero_le _, fun j hj => absurd hj (by simp)⟩, hs⟩
  | .pair a b, l, xs, x, r, hv, h => by
    simp only [Ev.dec] at h
    split at h <;> try contradiction
    rename_i x1 r1 h1
    split at h <;> try contradiction
    rename_i x2 r2 h2
    simp only [Option.some.injEq, Prod.mk.injEq] at h
    obtain ⟨rfl, rfl⟩ := h
    obtain ⟨c1, y1, rfl, q1, v1⟩ := RT.dec a l xs x1 r1 hv h1
    obtain ⟨c2, y2, rfl, q2, v2⟩ := RT.dec b r1 y1 x2 r2 v1 h2
    exact ⟨c1 ++ c2, y2, by simp, ⟨c1, c2, rfl, q1, q2⟩, v2⟩

/-- A row's elements, laid out. -/
inductive RL (w : World) (p : Nat → Nat → Prop) (t : Ty) : List t.den → List Value → Prop
  | nil : RL w p t [] []
  | cons (x : t.den) (l : List t.den) (cs xs : List Value) : RT w p t x cs → RL w p t l xs → RL w p t (x :: l) (cs ++ xs)

theorem RL.len {w : World} {p : Nat → Nat → Prop} {t : Ty} : ∀ {l : List t.den} {xs : List Value}, RL w p t l xs → xs.length = l.length * t.sz
  | _, _, .nil => by simp
  | _, _, .cons x l cs xs h hs => by simp [h.len, hs.len, Nat.add_mul, Nat.add_comm]

theorem RL.keeps {w w' : World} {p p' : Nat → Nat → Prop} {t : Ty} (hk : Keeps w w' p p') : ∀ {l : List t.den} {xs : List Value}, RL w p t l xs → RL w' p' t l xs
  | _, _, .nil => .nil
  | _, _, .cons x l cs xs h hs => .cons x l cs xs (h.keeps hk) (hs.keeps hk)

theorem RL.append {w : World} {p : Nat → Nat → Prop} {t : Ty} : ∀ {l l' : List t.den} {xs xs' : List Value}, RL w p t l xs → RL w p t l' xs' → RL w p t (l ++ l') (xs ++ xs')
  | _, _, _, _, .nil, h => h
  | _, _, _, _, .cons x l cs xs h hs, h' => by
    rw [List.append_assoc]
    exact .cons x _ cs _ h (hs.append h')

/-- The cells of element j. -/
theorem RL.get {w : World} {p : Nat → Nat → Prop} {t : Ty} : ∀ {l : List t.den} {xs : List Value}, RL w p t l xs → ∀ j (h : j < l.length),
    ∃ es, RT w p t l[j] es ∧ ∀ i (hi : i < es.length), xs[j * t.sz + i]? = some es[i]
  | _, _, .nil, j, h => absurd h (by simp)
  | _, _, .cons x l cs xs h hs, j, hj => by
    cases j with
    | zero => exact ⟨cs, h, fun i hi => by simp [List.getElem?_append_left hi]⟩
    | succ j =>
      obtain ⟨es, h1, h2⟩ := hs.get j (by simpa using hj)
      refine ⟨es, h1, fun i hi => ?_⟩
      rw [List.getElem?_append_right (by rw [h.len, Nat.add_mul]; omega), h.len, show (j + 1) * t.sz + i - t.sz = j * t.sz + i by rw [Nat.add_mul]; omega]
      exact h2 i hi

theorem RL.take {w : World} {p : Nat → Nat → Prop} {t : Ty} : ∀ {l : List t.den} {xs : List Value}, RL w p t l xs → ∀ n, RL w p t (l.take n) (xs.take (n * t.sz))
  | _, _, .nil, n => by simpa using RL.nil
  | _, _, .cons x l cs xs h hs, 0 => by simpa using RL.nil
  | _, _, .cons x l cs xs h hs, n + 1 => by
    have e : (cs ++ xs).take ((n + 1) * t.sz) = cs ++ xs.take (n * t.sz) := by
      rw [show (n + 1) * t.sz = cs.length + n * t.sz by rw [h.len, Nat.add_mul]; omega, List.take_length_add_append]
    rw [e, List.take_succ_cons]
    exact .cons x _ cs _ h (hs.take n)

theorem RL.set {w : World} {p : Nat → Nat → Prop} {t : Ty} : ∀ {l : List t.den} {xs : List Value}, RL w p t l xs → ∀ j (x : t.den) (cs : List Value), RT w p t x cs →
    RL w p t (l.set j x) (if j < l.length then xs.take (j * t.sz) ++ cs ++ xs.drop (j * t.sz + t.sz) else xs)
  | _, _, .nil, j, x, cs, h => by simpa using RL.nil
  | _, _, .cons y l ys xs h hs, j, x, cs, hx => by
    cases j with
    | zero =>
      have : (ys ++ xs).drop t.sz = xs := by rw [← h.len]; simp
      simp only [List.set_cons_zero, List.length_cons, Nat.zero_lt_succ, if_true, Nat.zero_mul, List.take_zero, List.nil_append, Nat.zero_add, this]
      exact .cons x l cs xs hx hs
    | succ j =>
      have ih := hs.set j x cs hx
      by_cases hj : j < l.length
      · rw [if_pos hj] at ih
        rw [if_pos (by simpa using hj)]
        have e1 : (ys ++ xs).take ((j + 1) * t.sz) = ys ++ xs.take (j * t.sz) := by
          rw [show (j + 1) * t.sz = ys.length + j * t.sz by rw [h.len, Nat.add_mul]; omega, List.take_length_add_append]
        have e2 : (ys ++ xs).drop ((j + 1) * t.sz + t.sz) = xs.drop (j * t.sz + t.sz) := by
          rw [show (j + 1) * t.sz + t.sz = ys.length + (j * t.sz + t.sz) by rw [h.len, Nat.add_mul]; omega, List.drop_length_add_append]
        rw [e1, e2, List.append_assoc, List.append_assoc, ← List.append_assoc (xs.take _)]
        exact .cons y _ ys _ h ih
      · rw [if_neg hj] at ih
        rw [if_neg (by simpa using hj)]
        exact .cons y _ ys _ h ih

theorem RL.replicate {w : World} {p : Nat → Nat → Prop} {t : Ty} (x : t.den) (cs : List Value) (h : RT w p t x cs) : ∀ n, RL w p t (List.replicate n x) (List.replicate n cs).flatten
  | 0 => .nil
  | n + 1 => by simpa [List.replicate_succ] using RL.cons x _ cs _ h (RL.replicate x cs h n)

/-- What an object of the call's own is in memory. -/
def OR (w : World) (f : Fr) (φ : Nat → Bd) (κ : Nat) : OB → Prop
  | .box cs => ∃ g t vs, (φ κ).v = .pointer (some ⟨g, 0, none⟩) ∧ f.n0 ≤ g ∧ w.heap[g]? = some (.cells vs t (0, 0)) ∧ VRs w f φ cs vs.toList ∧ ∀ o, ¬ f.F g o
  | .row e t els sn => ∃ xs, w.ownsRow f.n0 e t.sz (φ κ).v els.length xs ∧ (φ κ).sz = t.sz ∧ RL w f.F t els xs ∧
      ∀ g, (φ κ).v.ownBlock = some g → ∀ o, f.F g o → sn = true ∧ o < els.length * t.sz

/-- The block of a key. -/
def Bd.blk (b : Bd) : Option Nat :=
  match b.v with
  | .pointer (some a) => some a.block
  | .slice (some a) _ _ => some a.block
  | _ => none

theorem OR.blk_lt {w : World} {f : Fr} {φ : Nat → Bd} {κ : Nat} {o : OB} (h : OR w f φ κ o) : ∀ g, (φ κ).blk = some g → f.n0 ≤ g ∧ g < w.heap.size := by
  intro g hg
  cases o with
  | box cs =>
    obtain ⟨g', t, vs, hv, h0, hh, _⟩ := h
    simp only [Bd.blk, hv, Option.some.injEq] at hg
    subst hg
    exact ⟨h0, (Array.getElem?_eq_some_iff.1 hh).1⟩
  | row e t els sn =>
    obtain ⟨xs, hown, _⟩ := h
    refine hown.lt g ?_
    revert hg
    cases hv : (φ κ).v <;> simp [Bd.blk, hv, Value.ownBlock]
    · rename_i a
      rcases hown.2 with ⟨h1, _⟩ | ⟨_, _, _, h1, _⟩ <;> simp [hv] at h1
    · rename_i a n c
      cases a <;> simp [Value.ownBlock]

end Go.Proofs.Ytbcijglbinaioaa.Ev
