/- Functions of the program, in functional form, each shown to be what the program does. Printed by wip/gen. -/
import Derived.Test.YtbcijglbinaioaaEvD
namespace Go.Proofs.Ytbcijglbinaioaa.Ev
open Go.RowKit
set_option linter.unusedVariables false
/-! ### 59: spiritlevel/spiritlevelref02.Great -/
def p59 : PL := (.cons (.agg (.cons (.int .i64) (.cons (.sl true (.pair (.int .i64) (.int .i64))) (.cons (.sl true (.pair (.int .i64) (.int .i64))) (.cons (.sl true (.int .i64)) (.cons (.sl true (.int .i64)) .nil)))))) .nil)
def q59 : PV := .bool
def G59 (n : Nat) (x0_0 : Int) (x0_1 : (List (Int × Int))) (x0_2 : (List (Int × Int))) (x0_3 : (List Int)) (x0_4 : (List Int)) : Option Bool :=
  ((bif (decide (((x0_1.length : Nat) : Int) > (60 : Int))) then (some Bool.true)
  else (bif (bif Bool.false then Bool.true else (decide (((x0_2.length : Nat) : Int) > (120 : Int)))) then (some Bool.true)
  else (bif (bif Bool.false then Bool.true else (decide (((x0_3.length : Nat) : Int) > (110 : Int)))) then (some Bool.true)
  else (bif (bif Bool.false then Bool.true else (decide (((x0_4.length : Nat) : Int) > (110 : Int)))) then (some Bool.true)
  else (bif (decide (x0_0 > (40 : Int))) then (some (bif Bool.false then Bool.true else (bif Bool.true then (decide (x0_0 < (996 : Int))) else Bool.false)))
  else (some (bif Bool.false then Bool.true else Bool.false)))))))).bind fun e0 =>
  (some e0)
def F59 (x : ((Int × ((List (Int × Int)) × ((List (Int × Int)) × ((List Int) × ((List Int) × Unit))))) × Unit)) : Option Bool := G59 KF x.1.1 x.1.2.1 x.1.2.2.1 x.1.2.2.2.1 x.1.2.2.2.2.1
def t59 : Nat → Option CallE := tabOf []
theorem t59_ok : TabOk Try.prog t59 := tabOf_ok _ trivial
def i59 : Nat → Option CallI := tabIOf []
theorem i59_ok : TabIOk Try.prog i59 := tabIOf_ok _ trivial
def c59 : Cfg := ⟨liveTab [], modeTab [(1, .one 2)]⟩
noncomputable def b59 : Code := Try.f59.body.getD .skip
def lp59 {R : Type} (n : Nat) : Lp R := lpTab []
theorem F59_eq (n : Nat) (x : p59.vals) : evF ⟨D, t59, i59⟩ c59 (lp59 n) Try.f59 (p59.mk x) q59.get = G59 n x.1.1 x.1.2.1 x.1.2.2.1 x.1.2.2.2.1 x.1.2.2.2.2.1 := by kernel_rfl
theorem F59_ok (x : p59.vals) (y : q59.vals) (h : F59 x = some y) : Sound Try.prog 59 (p59.mk x) (q59.mk y) :=
  evF_sound hm hD ⟨t59_ok, i59_ok⟩ Try.func59 (c := b59) (by kernel_rfl) (by kernel_rfl) (fun v hv => PV.get_mk _ _ _ hv)
    (forall_loops _ [] (by kernel_rfl) trivial) ((F59_eq KF x).trans h)
def e59 : CallE := entry [none] p59 q59 F59
theorem e59_ok : FunOk Try.prog 59 e59 := ⟨enters_of Try.func59 (by kernel_rfl) (c := b59) (by kernel_rfl), fun args y hy => entry_ok F59_ok args y hy⟩

/-! ### 60: spiritlevel/spiritlevelref02.Size -/
def p60 : PL := (.cons (.agg (.cons (.int .i64) (.cons (.sl true (.pair (.int .i64) (.int .i64))) (.cons (.sl true (.pair (.int .i64) (.int .i64))) (.cons (.sl true (.int .i64)) (.cons (.sl true (.int .i64)) .nil)))))) .nil)
def q60 : PV := (.int .i64)
def G60 (n : Nat) (x0_0 : Int) (x0_1 : (List (Int × Int))) (x0_2 : (List (Int × Int))) (x0_3 : (List Int)) (x0_4 : (List Int)) : Option Int :=
  (some (Go.IntKind.wrap Go.IntKind.i64 ((Go.IntKind.wrap Go.IntKind.i64 (x0_0 + ((x0_1.length : Nat) : Int))) + ((x0_2.length : Nat) : Int))))
def F60 (x : ((Int × ((List (Int × Int)) × ((List (Int × Int)) × ((List Int) × ((List Int) × Unit))))) × Unit)) : Option Int := G60 KF x.1.1 x.1.2.1 x.1.2.2.1 x.1.2.2.2.1 x.1.2.2.2.2.1
def t60 : Nat → Option CallE := tabOf []
theorem t60_ok : TabOk Try.prog t60 := tabOf_ok _ trivial
def i60 : Nat → Option CallI := tabIOf []
theorem i60_ok : TabIOk Try.prog i60 := tabIOf_ok _ trivial
def c60 : Cfg := ⟨liveTab [], modeTab []⟩
noncomputable def b60 : Code := Try.f60.body.getD .skip
def lp60 {R : Type} (n : Nat) : Lp R := lpTab []
theorem F60_eq (n : Nat) (x : p60.vals) : evF ⟨D, t60, i60⟩ c60 (lp60 n) Try.f60 (p60.mk x) q60.get = G60 n x.1.1 x.1.2.1 x.1.2.2.1 x.1.2.2.2.1 x.1.2.2.2.2.1 := by kernel_rfl
theorem F60_ok (x : p60.vals) (y : q60.vals) (h : F60 x = some y) : Sound Try.prog 60 (p60.mk x) (q60.mk y) :=
  evF_sound hm hD ⟨t60_ok, i60_ok⟩ Try.func60 (c := b60) (by kernel_rfl) (by kernel_rfl) (fun v hv => PV.get_mk _ _ _ hv)
    (forall_loops _ [] (by kernel_rfl) trivial) ((F60_eq KF x).trans h)
def e60 : CallE := entry [none] p60 q60 F60
theorem e60_ok : FunOk Try.prog 60 e60 := ⟨enters_of Try.func60 (by kernel_rfl) (c := b60) (by kernel_rfl), fun args y hy => entry_ok F60_ok args y hy⟩

/-! ### 101: spiritlevel/spiritlevelref02.literals -/
def p101 : PL := (.cons (.sl true (.int .i64)) (.cons (.int .i64) .nil))
def q101 : PV := .bool
def sp101_0 : SP := ⟨[(0, (.sl true (.int .i64))), (1, (.int .i64)), (5, (.int .i64))], []⟩
def F101_0 {R : Type} (n : Nat) (k0_0 : Bool → Option R) (k0_1 : Option R) (rec_0 : (List Int) → Int → Int → Option R) (x0 : (List Int)) (x1 : Int) (x5 : Int) : Option R :=
  (bif (decide (x5 < ((x0.length : Nat) : Int))) then (((idxL x0 x5)).bind fun e1 =>
  (bif (decide (e1 < (0 : Int))) then (some Bool.true)
  else ((idxL x0 x5)).bind fun e2 =>
  (some (bif Bool.false then Bool.true else (decide ((Go.IntKind.wrap Go.IntKind.i64 (Int.tdiv e2 (2 : Int))) > x1)))))).bind fun e0 =>
  (bif e0 then (k0_0 (Bool.false))
  else (rec_0 (x0) (x1) ((Go.IntKind.wrap Go.IntKind.i64 (x5 + (1 : Int))))))
  else (k0_1 ))
def l101_0 {R : Type} (n : Nat) (k0_0 : Bool → Option R) (k0_1 : Option R) : Nat → (List Int) → Int → Int → Option R
  | 0, _, _, _ => none
  | k + 1, x0, x1, x5 => F101_0 n k0_0 k0_1 (l101_0 n k0_0 k0_1 k) x0 x1 x5
def G101 (n : Nat) (x0 : (List Int)) (x1 : Int) : Option Bool :=
  (l101_0 n (fun v3 =>
  (some v3)) ((some Bool.true)) n (x0) (x1) ((0 : Int)))
def F101 (x : ((List Int) × (Int × Unit))) : Option Bool := G101 KF x.1 x.2.1
def t101 : Nat → Option CallE := tabOf []
theorem t101_ok : TabOk Try.prog t101 := tabOf_ok _ trivial
def i101 : Nat → Option CallI := tabIOf []
theorem i101_ok : TabIOk Try.prog i101 := tabIOf_ok _ trivial
def c101 : Cfg := ⟨liveTab [(0, ⟨[(0, .keep), (1, .keep), (5, .keep)], [], [4], [], []⟩)], modeTab [(4, .one 25)]⟩
noncomputable def b101 : Code := Try.f101.body.getD .skip
def lp101 {R : Type} (n : Nat) : Lp R := lpTab [(0, viaSP sp101_0 fun x K => l101_0 n (fun v0 => K (.ret) ⟨[.set 4 (.bool v0)], []⟩) (K (.exit 0) ⟨[.set 4 (.top)], []⟩) n x.1.1 x.1.2.1 x.1.2.2.1)]
noncomputable def b101_0 : Code := ((loopsIn b101 0).getD 0 (0, .skip)).2
theorem l101_0_step {R : Type} (n k : Nat) (x : sp101_0.vals) (K : Ex → St → Option R) : evL (fun s K => evC ⟨D, t101, i101⟩ c101 (lp101 n) b101_0 0 s K) (c101.live 0).head (c101.live 0).leave (k + 1) (sp101_0.mk' x) K = F101_0 n (fun v0 => K (.ret) ⟨[.set 4 (.bool v0)], []⟩) (K (.exit 0) ⟨[.set 4 (.top)], []⟩) (fun w0 w1 w2 => evL (fun s K => evC ⟨D, t101, i101⟩ c101 (lp101 n) b101_0 0 s K) (c101.live 0).head (c101.live 0).leave k (sp101_0.mk' ((w0, (w1, (w2, ()))), ())) K) x.1.1 x.1.2.1 x.1.2.2.1 := by kernel_rfl
theorem l101_0_ok {R : Type} (n : Nat) : ∀ (k : Nat) (x : sp101_0.vals) (K : Ex → St → Option R), evL (fun s K => evC ⟨D, t101, i101⟩ c101 (lp101 n) b101_0 0 s K) (c101.live 0).head (c101.live 0).leave k (sp101_0.mk' x) K = l101_0 n (fun v0 => K (.ret) ⟨[.set 4 (.bool v0)], []⟩) (K (.exit 0) ⟨[.set 4 (.top)], []⟩) k x.1.1 x.1.2.1 x.1.2.2.1
  | 0, _, _ => rfl
  | k + 1, x, K => (l101_0_step n k x K).trans (congrArg (fun rec => F101_0 n (fun v0 => K (.ret) ⟨[.set 4 (.bool v0)], []⟩) (K (.exit 0) ⟨[.set 4 (.top)], []⟩) rec x.1.1 x.1.2.1 x.1.2.2.1) (by funext w0 w1 w2; exact l101_0_ok n k ((w0, (w1, (w2, ()))), ()) K))
theorem F101_eq (n : Nat) (x : p101.vals) : evF ⟨D, t101, i101⟩ c101 (lp101 n) Try.f101 (p101.mk x) q101.get = G101 n x.1 x.2.1 := by kernel_rfl
theorem F101_ok (x : p101.vals) (y : q101.vals) (h : F101 x = some y) : Sound Try.prog 101 (p101.mk x) (q101.mk y) :=
  evF_sound hm hD ⟨t101_ok, i101_ok⟩ Try.func101 (c := b101) (by kernel_rfl) (by kernel_rfl) (fun v hv => PV.get_mk _ _ _ hv)
    (forall_loops _ [(0, b101_0)] (by kernel_rfl) ⟨fun s K r h => viaSP_good (p := sp101_0) (l101_0_ok KF KF) s K r h, trivial⟩) ((F101_eq KF x).trans h)
def e101 : CallE := entry [some (.int .i64), none] p101 q101 F101
theorem e101_ok : FunOk Try.prog 101 e101 := ⟨enters_of Try.func101 (by kernel_rfl) (c := b101) (by kernel_rfl), fun args y hy => entry_ok F101_ok args y hy⟩

/-! ### 52: spiritlevel/spiritlevelref02.Check -/
def p52 : PL := (.cons (.agg (.cons (.int .i64) (.cons (.sl true (.pair (.int .i64) (.int .i64))) (.cons (.sl true (.pair (.int .i64) (.int .i64))) (.cons (.sl true (.int .i64)) (.cons (.sl true (.int .i64)) .nil)))))) .nil)
def q52 : PV := (.int .i64)
def sp52_2 : SP := ⟨[(1, (.ptr 1 0)), (5, (.int .i64))], [(1, (.box (.cons (.int .i64) (.cons (.sl true (.pair (.int .i64) (.int .i64))) (.cons (.sl true (.pair (.int .i64) (.int .i64))) (.cons (.sl true (.int .i64)) (.cons (.sl true (.int .i64)) .nil)))))))]⟩
def F52_2 {R : Type} (n : Nat) (k2_0 : Int → Option R) (k2_1 : Option R) (rec_2 : Int → Int → (List (Int × Int)) → (List (Int × Int)) → (List Int) → (List Int) → Option R) (x5 : Int) (r1_0 : Int) (r1_1 : (List (Int × Int))) (r1_2 : (List (Int × Int))) (r1_3 : (List Int)) (r1_4 : (List Int)) : Option R :=
  (bif (decide (x5 < ((r1_2.length : Nat) : Int))) then ((idxL r1_2 x5)).bind fun e21 =>
  ((bif (decide (e21.2 < (0 : Int))) then (some Bool.true)
  else (bif (bif Bool.false then Bool.true else (decide (e21.1 < e21.2))) then (some Bool.true)
  else (some (bif Bool.false then Bool.true else (decide ((Go.IntKind.wrap Go.IntKind.i64 (Int.tdiv e21.1 (2 : Int))) > (Go.IntKind.wrap Go.IntKind.i64 ((Go.IntKind.wrap Go.IntKind.i64 (r1_0 + ((r1_1.length : Nat) : Int))) + x5))))))))).bind fun e22 =>
  (bif e22 then (k2_0 ((8 : Int)))
  else (rec_2 ((Go.IntKind.wrap Go.IntKind.i64 (x5 + (1 : Int)))) (r1_0) (r1_1) (r1_2) (r1_3) (r1_4)))
  else (k2_1 ))
def l52_2 {R : Type} (n : Nat) (k2_0 : Int → Option R) (k2_1 : Option R) : Nat → Int → Int → (List (Int × Int)) → (List (Int × Int)) → (List Int) → (List Int) → Option R
  | 0, _, _, _, _, _, _ => none
  | k + 1, x5, r1_0, r1_1, r1_2, r1_3, r1_4 => F52_2 n k2_0 k2_1 (l52_2 n k2_0 k2_1 k) x5 r1_0 r1_1 r1_2 r1_3 r1_4
def sp52_0 : SP := ⟨[(1, (.ptr 1 0)), (3, (.int .i64)), (4, (.int .i64))], [(1, (.box (.cons (.int .i64) (.cons (.sl true (.pair (.int .i64) (.int .i64))) (.cons (.sl true (.pair (.int .i64) (.int .i64))) (.cons (.sl true (.int .i64)) (.cons (.sl true (.int .i64)) .nil)))))))]⟩
def F52_0 {R : Type} (n : Nat) (k0_0 : Int → Int → (List (Int × Int)) → (List (Int × Int)) → (List Int) → (List Int) → Option R) (k0_1 : Int → (List (Int × Int)) → (List (Int × Int)) → (List Int) → (List Int) → Option R) (rec_0 : Int → Int → Int → (List (Int × Int)) → (List (Int × Int)) → (List Int) → (List Int) → Option R) (x3 : Int) (x4 : Int) (r1_0 : Int) (r1_1 : (List (Int × Int))) (r1_2 : (List (Int × Int))) (r1_3 : (List Int)) (r1_4 : (List Int)) : Option R :=
  (bif (decide (x4 < ((r1_1.length : Nat) : Int))) then ((idxL r1_1 x4)).bind fun e6 =>
  (F101 ((e6.1 :: ([] : List Int)), (x3, ()))).bind fun (y7 : Bool) =>
  (bif (!y7) then (k0_0 ((8 : Int)) (r1_0) (r1_1) (r1_2) (r1_3) (r1_4))
  else ((idxL r1_1 x4)).bind fun e8 =>
  (bif (bif Bool.false then Bool.true else (decide (e8.2 < (0 : Int)))) then (k0_0 ((8 : Int)) (r1_0) (r1_1) (r1_2) (r1_3) (r1_4))
  else ((idxL r1_1 x4)).bind fun e9 =>
  (bif (bif Bool.false then Bool.true else (decide (e9.2 > (2 : Int)))) then (k0_0 ((8 : Int)) (r1_0) (r1_1) (r1_2) (r1_3) (r1_4))
  else (rec_0 (x3) ((Go.IntKind.wrap Go.IntKind.i64 (x4 + (1 : Int)))) (r1_0) (r1_1) (r1_2) (r1_3) (r1_4)))))
  else (k0_1 (r1_0) (r1_1) (r1_2) (r1_3) (r1_4)))
def l52_0 {R : Type} (n : Nat) (k0_0 : Int → Int → (List (Int × Int)) → (List (Int × Int)) → (List Int) → (List Int) → Option R) (k0_1 : Int → (List (Int × Int)) → (List (Int × Int)) → (List Int) → (List Int) → Option R) : Nat → Int → Int → Int → (List (Int × Int)) → (List (Int × Int)) → (List Int) → (List Int) → Option R
  | 0, _, _, _, _, _, _, _ => none
  | k + 1, x3, x4, r1_0, r1_1, r1_2, r1_3, r1_4 => F52_0 n k0_0 k0_1 (l52_0 n k0_0 k0_1 k) x3 x4 r1_0 r1_1 r1_2 r1_3 r1_4
def G52 (n : Nat) (x0_0 : Int) (x0_1 : (List (Int × Int))) (x0_2 : (List (Int × Int))) (x0_3 : (List Int)) (x0_4 : (List Int)) : Option Int :=
  (bif (decide (x0_0 < (0 : Int))) then (some (8 : Int))
  else ((bif (decide (x0_0 > (1000 : Int))) then (some Bool.true)
  else (F60 ((x0_0, (x0_1, (x0_2, (x0_3, (x0_4, ()))))), ())).bind fun (y1 : Int) =>
  (bif (bif Bool.false then Bool.true else (decide (y1 > (1000 : Int)))) then (some Bool.true)
  else (bif (bif Bool.false then Bool.true else (decide (((x0_3.length : Nat) : Int) > (100 : Int)))) then (some Bool.true)
  else (some (bif Bool.false then Bool.true else (decide (((x0_4.length : Nat) : Int) > (100 : Int))))))))).bind fun e0 =>
  (bif e0 then (some (4 : Int))
  else (F60 ((x0_0, (x0_1, (x0_2, (x0_3, (x0_4, ()))))), ())).bind fun (y2 : Int) =>
  ((F101 (x0_3, (y2, ()))).bind fun (y4 : Bool) =>
  (bif (!y4) then (some Bool.true)
  else (F101 (x0_4, (y2, ()))).bind fun (y5 : Bool) =>
  (some (bif Bool.false then Bool.true else (!y5))))).bind fun e3 =>
  (bif e3 then (some (8 : Int))
  else (l52_0 n (fun v10 v11 v12 v13 v14 v15 =>
  (some v10)) (fun v16 v17 v18 v19 v20 =>
  (l52_2 n (fun v23 =>
  (some v23)) ((some (0 : Int))) n ((0 : Int)) (v16) (v17) (v18) (v19) (v20))) n (y2) ((0 : Int)) (x0_0) (x0_1) (x0_2) (x0_3) (x0_4)))))
def F52 (x : ((Int × ((List (Int × Int)) × ((List (Int × Int)) × ((List Int) × ((List Int) × Unit))))) × Unit)) : Option Int := G52 KF x.1.1 x.1.2.1 x.1.2.2.1 x.1.2.2.2.1 x.1.2.2.2.2.1
def t52 : Nat → Option CallE := tabOf [(101, e101), (60, e60)]
theorem t52_ok : TabOk Try.prog t52 := tabOf_ok _ ⟨e101_ok, ⟨e60_ok, trivial⟩⟩
def i52 : Nat → Option CallI := tabIOf []
theorem i52_ok : TabIOk Try.prog i52 := tabIOf_ok _ trivial
def c52 : Cfg := ⟨liveTab [(0, ⟨[(1, .keep), (3, .keep), (4, .keep)], [1], [1, 2], [1], []⟩), (2, ⟨[(1, .keep), (5, .keep)], [1], [2], [], []⟩)], modeTab [(3, .one 29), (6, .one 43), (17, .one 114)]⟩
noncomputable def b52 : Code := Try.f52.body.getD .skip
def lp52 {R : Type} (n : Nat) : Lp R := lpTab [(2, viaSP sp52_2 fun x K => l52_2 n (fun v0 => K (.ret) ⟨[.set 2 (.int .i64 v0)], []⟩) (K (.exit 2) ⟨[.set 2 (.top)], []⟩) n x.1.2.1 x.2.1.1 x.2.1.2.1 x.2.1.2.2.1 x.2.1.2.2.2.1 x.2.1.2.2.2.2.1), (0, viaSP sp52_0 fun x K => l52_0 n (fun v0 v1 v2 v3 v4 v5 => K (.ret) ⟨[.set 1 (.ptr 1 0), .set 2 (.int .i64 v0)], [.set 1 (.box [.int .i64 v1, .sl true (.pair (.int .i64) (.int .i64)) v2, .sl true (.pair (.int .i64) (.int .i64)) v3, .sl true (.int .i64) v4, .sl true (.int .i64) v5])]⟩) (fun v0 v1 v2 v3 v4 => K (.exit 0) ⟨[.set 1 (.ptr 1 0), .set 2 (.top)], [.set 1 (.box [.int .i64 v0, .sl true (.pair (.int .i64) (.int .i64)) v1, .sl true (.pair (.int .i64) (.int .i64)) v2, .sl true (.int .i64) v3, .sl true (.int .i64) v4])]⟩) n x.1.2.1 x.1.2.2.1 x.2.1.1 x.2.1.2.1 x.2.1.2.2.1 x.2.1.2.2.2.1 x.2.1.2.2.2.2.1)]
noncomputable def b52_0 : Code := ((loopsIn b52 0).getD 0 (0, .skip)).2
theorem l52_0_step {R : Type} (n k : Nat) (x : sp52_0.vals) (K : Ex → St → Option R) : evL (fun s K => evC ⟨D, t52, i52⟩ c52 (lp52 n) b52_0 0 s K) (c52.live 0).head (c52.live 0).leave (k + 1) (sp52_0.mk' x) K = F52_0 n (fun v0 v1 v2 v3 v4 v5 => K (.ret) ⟨[.set 1 (.ptr 1 0), .set 2 (.int .i64 v0)], [.set 1 (.box [.int .i64 v1, .sl true (.pair (.int .i64) (.int .i64)) v2, .sl true (.pair (.int .i64) (.int .i64)) v3, .sl true (.int .i64) v4, .sl true (.int .i64) v5])]⟩) (fun v0 v1 v2 v3 v4 => K (.exit 0) ⟨[.set 1 (.ptr 1 0), .set 2 (.top)], [.set 1 (.box [.int .i64 v0, .sl true (.pair (.int .i64) (.int .i64)) v1, .sl true (.pair (.int .i64) (.int .i64)) v2, .sl true (.int .i64) v3, .sl true (.int .i64) v4])]⟩) (fun w0 w1 w2 w3 w4 w5 w6 => evL (fun s K => evC ⟨D, t52, i52⟩ c52 (lp52 n) b52_0 0 s K) (c52.live 0).head (c52.live 0).leave k (sp52_0.mk' (((), (w0, (w1, ()))), ((w2, (w3, (w4, (w5, (w6, ()))))), ()))) K) x.1.2.1 x.1.2.2.1 x.2.1.1 x.2.1.2.1 x.2.1.2.2.1 x.2.1.2.2.2.1 x.2.1.2.2.2.2.1 := by kernel_rfl
theorem l52_0_ok {R : Type} (n : Nat) : ∀ (k : Nat) (x : sp52_0.vals) (K : Ex → St → Option R), evL (fun s K => evC ⟨D, t52, i52⟩ c52 (lp52 n) b52_0 0 s K) (c52.live 0).head (c52.live 0).leave k (sp52_0.mk' x) K = l52_0 n (fun v0 v1 v2 v3 v4 v5 => K (.ret) ⟨[.set 1 (.ptr 1 0), .set 2 (.int .i64 v0)], [.set 1 (.box [.int .i64 v1, .sl true (.pair (.int .i64) (.int .i64)) v2, .sl true (.pair (.int .i64) (.int .i64)) v3, .sl true (.int .i64) v4, .sl true (.int .i64) v5])]⟩) (fun v0 v1 v2 v3 v4 => K (.exit 0) ⟨[.set 1 (.ptr 1 0), .set 2 (.top)], [.set 1 (.box [.int .i64 v0, .sl true (.pair (.int .i64) (.int .i64)) v1, .sl true (.pair (.int .i64) (.int .i64)) v2, .sl true (.int .i64) v3, .sl true (.int .i64) v4])]⟩) k x.1.2.1 x.1.2.2.1 x.2.1.1 x.2.1.2.1 x.2.1.2.2.1 x.2.1.2.2.2.1 x.2.1.2.2.2.2.1
  | 0, _, _ => rfl
  | k + 1, x, K => (l52_0_step n k x K).trans (congrArg (fun rec => F52_0 n (fun v0 v1 v2 v3 v4 v5 => K (.ret) ⟨[.set 1 (.ptr 1 0), .set 2 (.int .i64 v0)], [.set 1 (.box [.int .i64 v1, .sl true (.pair (.int .i64) (.int .i64)) v2, .sl true (.pair (.int .i64) (.int .i64)) v3, .sl true (.int .i64) v4, .sl true (.int .i64) v5])]⟩) (fun v0 v1 v2 v3 v4 => K (.exit 0) ⟨[.set 1 (.ptr 1 0), .set 2 (.top)], [.set 1 (.box [.int .i64 v0, .sl true (.pair (.int .i64) (.int .i64)) v1, .sl true (.pair (.int .i64) (.int .i64)) v2, .sl true (.int .i64) v3, .sl true (.int .i64) v4])]⟩) rec x.1.2.1 x.1.2.2.1 x.2.1.1 x.2.1.2.1 x.2.1.2.2.1 x.2.1.2.2.2.1 x.2.1.2.2.2.2.1) (by funext w0 w1 w2 w3 w4 w5 w6; exact l52_0_ok n k (((), (w0, (w1, ()))), ((w2, (w3, (w4, (w5, (w6, ()))))), ())) K))
noncomputable def b52_1 : Code := ((loopsIn b52 0).getD 1 (0, .skip)).2
theorem l52_2_step {R : Type} (n k : Nat) (x : sp52_2.vals) (K : Ex → St → Option R) : evL (fun s K => evC ⟨D, t52, i52⟩ c52 (lp52 n) b52_1 2 s K) (c52.live 2).head (c52.live 2).leave (k + 1) (sp52_2.mk' x) K = F52_2 n (fun v0 => K (.ret) ⟨[.set 2 (.int .i64 v0)], []⟩) (K (.exit 2) ⟨[.set 2 (.top)], []⟩) (fun w0 w1 w2 w3 w4 w5 => evL (fun s K => evC ⟨D, t52, i52⟩ c52 (lp52 n) b52_1 2 s K) (c52.live 2).head (c52.live 2).leave k (sp52_2.mk' (((), (w0, ())), ((w1, (w2, (w3, (w4, (w5, ()))))), ()))) K) x.1.2.1 x.2.1.1 x.2.1.2.1 x.2.1.2.2.1 x.2.1.2.2.2.1 x.2.1.2.2.2.2.1 := by kernel_rfl
theorem l52_2_ok {R : Type} (n : Nat) : ∀ (k : Nat) (x : sp52_2.vals) (K : Ex → St → Option R), evL (fun s K => evC ⟨D, t52, i52⟩ c52 (lp52 n) b52_1 2 s K) (c52.live 2).head (c52.live 2).leave k (sp52_2.mk' x) K = l52_2 n (fun v0 => K (.ret) ⟨[.set 2 (.int .i64 v0)], []⟩) (K (.exit 2) ⟨[.set 2 (.top)], []⟩) k x.1.2.1 x.2.1.1 x.2.1.2.1 x.2.1.2.2.1 x.2.1.2.2.2.1 x.2.1.2.2.2.2.1
  | 0, _, _ => rfl
  | k + 1, x, K => (l52_2_step n k x K).trans (congrArg (fun rec => F52_2 n (fun v0 => K (.ret) ⟨[.set 2 (.int .i64 v0)], []⟩) (K (.exit 2) ⟨[.set 2 (.top)], []⟩) rec x.1.2.1 x.2.1.1 x.2.1.2.1 x.2.1.2.2.1 x.2.1.2.2.2.1 x.2.1.2.2.2.2.1) (by funext w0 w1 w2 w3 w4 w5; exact l52_2_ok n k (((), (w0, ())), ((w1, (w2, (w3, (w4, (w5, ()))))), ())) K))
theorem F52_eq (n : Nat) (x : p52.vals) : evF ⟨D, t52, i52⟩ c52 (lp52 n) Try.f52 (p52.mk x) q52.get = G52 n x.1.1 x.1.2.1 x.1.2.2.1 x.1.2.2.2.1 x.1.2.2.2.2.1 := by kernel_rfl
theorem F52_ok (x : p52.vals) (y : q52.vals) (h : F52 x = some y) : Sound Try.prog 52 (p52.mk x) (q52.mk y) :=
  evF_sound hm hD ⟨t52_ok, i52_ok⟩ Try.func52 (c := b52) (by kernel_rfl) (by kernel_rfl) (fun v hv => PV.get_mk _ _ _ hv)
    (forall_loops _ [(0, b52_0), (2, b52_1)] (by kernel_rfl) ⟨fun s K r h => viaSP_good (p := sp52_0) (l52_0_ok KF KF) s K r h, ⟨fun s K r h => viaSP_good (p := sp52_2) (l52_2_ok KF KF) s K r h, trivial⟩⟩) ((F52_eq KF x).trans h)
def e52 : CallE := entry [none] p52 q52 F52
theorem e52_ok : FunOk Try.prog 52 e52 := ⟨enters_of Try.func52 (by kernel_rfl) (c := b52) (by kernel_rfl), fun args y hy => entry_ok F52_ok args y hy⟩

/-! ### 12: spiritlevel/spiritlevelref36.Great -/
def p12 : PL := (.cons (.agg (.cons (.int .i64) (.cons (.sl true (.pair (.int .i64) (.int .i64))) (.cons (.sl true (.pair (.int .i64) (.int .i64))) (.cons (.sl true (.int .i64)) (.cons (.sl true (.int .i64)) .nil)))))) .nil)
def q12 : PV := .bool
def G12 (n : Nat) (x0_0 : Int) (x0_1 : (List (Int × Int))) (x0_2 : (List (Int × Int))) (x0_3 : (List Int)) (x0_4 : (List Int)) : Option Bool :=
  (F59 ((x0_0, (x0_1, (x0_2, (x0_3, (x0_4, ()))))), ())).bind fun (y0 : Bool) =>
  (bif y0 then (some Bool.true)
  else ((F52 ((x0_0, (x0_1, (x0_2, (x0_3, (x0_4, ()))))), ())).bind fun (y2 : Int) =>
  (bif (y2 == (0 : Int)) then (F60 ((x0_0, (x0_1, (x0_2, (x0_3, (x0_4, ()))))), ())).bind fun (y3 : Int) =>
  (bif (decide (y3 > (40 : Int))) then (some (bif Bool.true then Bool.true else Bool.false))
  else (bif (bif Bool.false then Bool.true else (decide (((x0_3.length : Nat) : Int) > (10 : Int)))) then (some (bif Bool.true then Bool.true else Bool.false))
  else (some (bif Bool.true then (bif Bool.false then Bool.true else (decide (((x0_4.length : Nat) : Int) > (10 : Int)))) else Bool.false))))
  else (some Bool.false))).bind fun e1 =>
  (some e1))
def F12 (x : ((Int × ((List (Int × Int)) × ((List (Int × Int)) × ((List Int) × ((List Int) × Unit))))) × Unit)) : Option Bool := G12 KF x.1.1 x.1.2.1 x.1.2.2.1 x.1.2.2.2.1 x.1.2.2.2.2.1
def t12 : Nat → Option CallE := tabOf [(60, e60), (52, e52), (59, e59)]
theorem t12_ok : TabOk Try.prog t12 := tabOf_ok _ ⟨e60_ok, ⟨e52_ok, ⟨e59_ok, trivial⟩⟩⟩
def i12 : Nat → Option CallI := tabIOf []
theorem i12_ok : TabIOk Try.prog i12 := tabIOf_ok _ trivial
def c12 : Cfg := ⟨liveTab [], modeTab [(3, .one 2)]⟩
noncomputable def b12 : Code := Try.f12.body.getD .skip
def lp12 {R : Type} (n : Nat) : Lp R := lpTab []
theorem F12_eq (n : Nat) (x : p12.vals) : evF ⟨D, t12, i12⟩ c12 (lp12 n) Try.f12 (p12.mk x) q12.get = G12 n x.1.1 x.1.2.1 x.1.2.2.1 x.1.2.2.2.1 x.1.2.2.2.2.1 := by kernel_rfl
theorem F12_ok (x : p12.vals) (y : q12.vals) (h : F12 x = some y) : Sound Try.prog 12 (p12.mk x) (q12.mk y) :=
  evF_sound hm hD ⟨t12_ok, i12_ok⟩ Try.func12 (c := b12) (by kernel_rfl) (by kernel_rfl) (fun v hv => PV.get_mk _ _ _ hv)
    (forall_loops _ [] (by kernel_rfl) trivial) ((F12_eq KF x).trans h)
def e12 : CallE := entry [none] p12 q12 F12
theorem e12_ok : FunOk Try.prog 12 e12 := ⟨enters_of Try.func12 (by kernel_rfl) (c := b12) (by kernel_rfl), fun args y hy => entry_ok F12_ok args y hy⟩

/-! ### 116: spiritlevel/gates.starts -/
def p116 : PL := (.cons (.agg (.cons (.int .i64) (.cons (.sl true (.pair (.int .i64) (.int .i64))) (.cons (.sl true (.pair (.int .i64) (.int .i64))) (.cons (.sl true (.int .i64)) (.cons (.sl true (.int .i64)) .nil)))))) .nil)
def q116 : PV := (.agg (.cons (.int .i64) (.cons (.int .i64) (.cons (.int .i64) (.cons (.int .i64) .nil)))))
def G116 (n : Nat) (x0_0 : Int) (x0_1 : (List (Int × Int))) (x0_2 : (List (Int × Int))) (x0_3 : (List Int)) (x0_4 : (List Int)) : Option (Int × (Int × (Int × (Int × Unit)))) :=
  (some ((1 : Int), ((Go.IntKind.wrap Go.IntKind.i64 ((1 : Int) + x0_0)), ((Go.IntKind.wrap Go.IntKind.i64 ((Go.IntKind.wrap Go.IntKind.i64 ((1 : Int) + x0_0)) + ((x0_1.length : Nat) : Int))), ((Go.IntKind.wrap Go.IntKind.i64 ((Go.IntKind.wrap Go.IntKind.i64 ((Go.IntKind.wrap Go.IntKind.i64 ((1 : Int) + x0_0)) + ((x0_1.length : Nat) : Int))) + ((x0_2.length : Nat) : Int))), ())))))
def F116 (x : ((Int × ((List (Int × Int)) × ((List (Int × Int)) × ((List Int) × ((List Int) × Unit))))) × Unit)) : Option (Int × (Int × (Int × (Int × Unit)))) := G116 KF x.1.1 x.1.2.1 x.1.2.2.1 x.1.2.2.2.1 x.1.2.2.2.2.1
def t116 : Nat → Option CallE := tabOf []
theorem t116_ok : TabOk Try.prog t116 := tabOf_ok _ trivial
def i116 : Nat → Option CallI := tabIOf []
theorem i116_ok : TabIOk Try.prog i116 := tabIOf_ok _ trivial
def c116 : Cfg := ⟨liveTab [], modeTab []⟩
noncomputable def b116 : Code := Try.f116.body.getD .skip
def lp116 {R : Type} (n : Nat) : Lp R := lpTab []
theorem F116_eq (n : Nat) (x : p116.vals) : evF ⟨D, t116, i116⟩ c116 (lp116 n) Try.f116 (p116.mk x) q116.get = G116 n x.1.1 x.1.2.1 x.1.2.2.1 x.1.2.2.2.1 x.1.2.2.2.2.1 := by kernel_rfl
theorem F116_ok (x : p116.vals) (y : q116.vals) (h : F116 x = some y) : Sound Try.prog 116 (p116.mk x) (q116.mk y) :=
  evF_sound hm hD ⟨t116_ok, i116_ok⟩ Try.func116 (c := b116) (by kernel_rfl) (by kernel_rfl) (fun v hv => PV.get_mk _ _ _ hv)
    (forall_loops _ [] (by kernel_rfl) trivial) ((F116_eq KF x).trans h)
def e116 : CallE := entry [none] p116 q116 F116
theorem e116_ok : FunOk Try.prog 116 e116 := ⟨enters_of Try.func116 (by kernel_rfl) (c := b116) (by kernel_rfl), fun args y hy => entry_ok F116_ok args y hy⟩

/-! ### 117: spiritlevel/gates.Check$1 -/
def p117 : PL := (.cons (.int .i64) (.cons (.ep (.cons (.int .i64) (.cons (.int .i64) (.cons (.int .i64) (.cons (.int .i64) .nil)))) 0) .nil))
def q117 : PV := .bool
def G117 (n : Nat) (x0 : Int) (x1_0 : Int) (x1_1 : Int) (x1_2 : Int) (x1_3 : Int) : Option Bool :=
  ((bif (decide (x0 < (0 : Int))) then (some Bool.true)
  else (some (bif Bool.false then Bool.true else (decide ((Int.fdiv x0 ((2 : Int) ^ (@Min.min Nat instMinNat (Int.toNat (1 : Int)) (Go.IntKind.bits Go.IntKind.i64)))) ≥ x1_3)))))).bind fun e0 =>
  (some e0)
def F117 (x : (Int × ((Int × (Int × (Int × (Int × Unit)))) × Unit))) : Option Bool := G117 KF x.1 x.2.1.1 x.2.1.2.1 x.2.1.2.2.1 x.2.1.2.2.2.1
def t117 : Nat → Option CallE := tabOf []
theorem t117_ok : TabOk Try.prog t117 := tabOf_ok _ trivial
def i117 : Nat → Option CallI := tabIOf []
theorem i117_ok : TabIOk Try.prog i117 := tabIOf_ok _ trivial
def c117 : Cfg := ⟨liveTab [], modeTab [(1, .one 3)]⟩
noncomputable def b117 : Code := Try.f117.body.getD .skip
def lp117 {R : Type} (n : Nat) : Lp R := lpTab []
theorem F117_eq (n : Nat) (x : p117.vals) : evF ⟨D, t117, i117⟩ c117 (lp117 n) Try.f117 (p117.mk x) q117.get = G117 n x.1 x.2.1.1 x.2.1.2.1 x.2.1.2.2.1 x.2.1.2.2.2.1 := by kernel_rfl
theorem F117_ok (x : p117.vals) (y : q117.vals) (h : F117 x = some y) : Sound Try.prog 117 (p117.mk x) (q117.mk y) :=
  evF_sound hm hD ⟨t117_ok, i117_ok⟩ Try.func117 (c := b117) (by kernel_rfl) (by kernel_rfl) (fun v hv => PV.get_mk _ _ _ hv)
    (forall_loops _ [] (by kernel_rfl) trivial) ((F117_eq KF x).trans h)
def e117 : CallE := entry [none] p117 q117 F117
theorem e117_ok : FunOk Try.prog 117 e117 := ⟨enters_of Try.func117 (by kernel_rfl) (c := b117) (by kernel_rfl), fun args y hy => entry_ok F117_ok args y hy⟩

/-! ### 125: slices.IndexFunc[[]int,int] -/
def p125 : PL := (.cons (.sl true (.int .i64)) (.cons (.fn 117 (.cons (.ep (.cons (.int .i64) (.cons (.int .i64) (.cons (.int .i64) (.cons (.int .i64) .nil)))) 0) .nil)) .nil))
def q125 : PV := (.int .i64)
def sp125_0 : SP := ⟨[(0, (.sl true (.int .i64))), (1, (.fn 117 (.cons (.ep (.cons (.int .i64) (.cons (.int .i64) (.cons (.int .i64) (.cons (.int .i64) .nil)))) 0) .nil))), (7, (.int .i64)), (8, (.int .i64))], []⟩
def F125_0 {R : Type} (n : Nat) (k0_0 : Int → Option R) (k0_1 : Option R) (rec_0 : (List Int) → Int → Int → Int → Int → Int → Int → Option R) (x0 : (List Int)) (x1_0 : Int) (x1_1 : Int) (x1_2 : Int) (x1_3 : Int) (x7 : Int) (x8 : Int) : Option R :=
  (bif (decide (x8 < x7)) then ((idxL x0 x8)).bind fun e0 =>
  (F117 (e0, ((x1_0, (x1_1, (x1_2, (x1_3, ())))), ()))).bind fun (y1 : Bool) =>
  (bif y1 then (k0_0 (x8))
  else (rec_0 (x0) (x1_0) (x1_1) (x1_2) (x1_3) (x7) ((Go.IntKind.wrap Go.IntKind.i64 (x8 + (1 : Int))))))
  else (k0_1 ))
def l125_0 {R : Type} (n : Nat) (k0_0 : Int → Option R) (k0_1 : Option R) : Nat → (List Int) → Int → Int → Int → Int → Int → Int → Option R
  | 0, _, _, _, _, _, _, _ => none
  | k + 1, x0, x1_0, x1_1, x1_2, x1_3, x7, x8 => F125_0 n k0_0 k0_1 (l125_0 n k0_0 k0_1 k) x0 x1_0 x1_1 x1_2 x1_3 x7 x8
def G125 (n : Nat) (x0 : (List Int)) (x1_0 : Int) (x1_1 : Int) (x1_2 : Int) (x1_3 : Int) : Option Int :=
  (l125_0 n (fun v2 =>
  (some v2)) ((some (@Neg.neg Int Int.instNegInt (1 : Int)))) n (x0) (x1_0) (x1_1) (x1_2) (x1_3) (((x0.length : Nat) : Int)) ((0 : Int)))
def F125 (x : ((List Int) × (((Int × (Int × (Int × (Int × Unit)))) × Unit) × Unit))) : Option Int := G125 KF x.1 x.2.1.1.1 x.2.1.1.2.1 x.2.1.1.2.2.1 x.2.1.1.2.2.2.1
def t125 : Nat → Option CallE := tabOf [(117, e117)]
theorem t125_ok : TabOk Try.prog t125 := tabOf_ok _ ⟨e117_ok, trivial⟩
def i125 : Nat → Option CallI := tabIOf []
theorem i125_ok : TabIOk Try.prog i125 := tabIOf_ok _ trivial
def c125 : Cfg := ⟨liveTab [(0, ⟨[(0, .keep), (1, .keep), (7, .keep), (8, .keep)], [], [4], [], []⟩)], modeTab []⟩
noncomputable def b125 : Code := Try.f125.body.getD .skip
def lp125 {R : Type} (n : Nat) : Lp R := lpTab [(0, viaSP sp125_0 fun x K => l125_0 n (fun v0 => K (.ret) ⟨[.set 4 (.int .i64 v0)], []⟩) (K (.exit 0) ⟨[.set 4 (.top)], []⟩) n x.1.1 x.1.2.1.1.1 x.1.2.1.1.2.1 x.1.2.1.1.2.2.1 x.1.2.1.1.2.2.2.1 x.1.2.2.1 x.1.2.2.2.1)]
noncomputable def b125_0 : Code := ((loopsIn b125 0).getD 0 (0, .skip)).2
theorem l125_0_step {R : Type} (n k : Nat) (x : sp125_0.vals) (K : Ex → St → Option R) : evL (fun s K => evC ⟨D, t125, i125⟩ c125 (lp125 n) b125_0 0 s K) (c125.live 0).head (c125.live 0).leave (k + 1) (sp125_0.mk' x) K = F125_0 n (fun v0 => K (.ret) ⟨[.set 4 (.int .i64 v0)], []⟩) (K (.exit 0) ⟨[.set 4 (.top)], []⟩) (fun w0 w1 w2 w3 w4 w5 w6 => evL (fun s K => evC ⟨D, t125, i125⟩ c125 (lp125 n) b125_0 0 s K) (c125.live 0).head (c125.live 0).leave k (sp125_0.mk' ((w0, (((w1, (w2, (w3, (w4, ())))), ()), (w5, (w6, ())))), ())) K) x.1.1 x.1.2.1.1.1 x.1.2.1.1.2.1 x.1.2.1.1.2.2.1 x.1.2.1.1.2.2.2.1 x.1.2.2.1 x.1.2.2.2.1 := by kernel_rfl
theorem l125_0_ok {R : Type} (n : Nat) : ∀ (k : Nat) (x : sp125_0.vals) (K : Ex → St → Option R), evL (fun s K => evC ⟨D, t125, i125⟩ c125 (lp125 n) b125_0 0 s K) (c125.live 0).head (c125.live 0).leave k (sp125_0.mk' x) K = l125_0 n (fun v0 => K (.ret) ⟨[.set 4 (.int .i64 v0)], []⟩) (K (.exit 0) ⟨[.set 4 (.top)], []⟩) k x.1.1 x.1.2.1.1.1 x.1.2.1.1.2.1 x.1.2.1.1.2.2.1 x.1.2.1.1.2.2.2.1 x.1.2.2.1 x.1.2.2.2.1
  | 0, _, _ => rfl
  | k + 1, x, K => (l125_0_step n k x K).trans (congrArg (fun rec => F125_0 n (fun v0 => K (.ret) ⟨[.set 4 (.int .i64 v0)], []⟩) (K (.exit 0) ⟨[.set 4 (.top)], []⟩) rec x.1.1 x.1.2.1.1.1 x.1.2.1.1.2.1 x.1.2.1.1.2.2.1 x.1.2.1.1.2.2.2.1 x.1.2.2.1 x.1.2.2.2.1) (by funext w0 w1 w2 w3 w4 w5 w6; exact l125_0_ok n k ((w0, (((w1, (w2, (w3, (w4, ())))), ()), (w5, (w6, ())))), ()) K))
theorem F125_eq (n : Nat) (x : p125.vals) : evF ⟨D, t125, i125⟩ c125 (lp125 n) Try.f125 (p125.mk x) q125.get = G125 n x.1 x.2.1.1.1 x.2.1.1.2.1 x.2.1.1.2.2.1 x.2.1.1.2.2.2.1 := by kernel_rfl
theorem F125_ok (x : p125.vals) (y : q125.vals) (h : F125 x = some y) : Sound Try.prog 125 (p125.mk x) (q125.mk y) :=
  evF_sound hm hD ⟨t125_ok, i125_ok⟩ Try.func125 (c := b125) (by kernel_rfl) (by kernel_rfl) (fun v hv => PV.get_mk _ _ _ hv)
    (forall_loops _ [(0, b125_0)] (by kernel_rfl) ⟨fun s K r h => viaSP_good (p := sp125_0) (l125_0_ok KF KF) s K r h, trivial⟩) ((F125_eq KF x).trans h)
def e125 : CallE := entry [some (.int .i64), none] p125 q125 F125
theorem e125_ok : FunOk Try.prog 125 e125 := ⟨enters_of Try.func125 (by kernel_rfl) (c := b125) (by kernel_rfl), fun args y hy => entry_ok F125_ok args y hy⟩

/-! ### 82: slices.ContainsFunc[[]int,int] -/
def p82 : PL := (.cons (.sl true (.int .i64)) (.cons (.fn 117 (.cons (.ep (.cons (.int .i64) (.cons (.int .i64) (.cons (.int .i64) (.cons (.int .i64) .nil)))) 0) .nil)) .nil))
def q82 : PV := .bool
def G82 (n : Nat) (x0 : (List Int)) (x1_0 : Int) (x1_1 : Int) (x1_2 : Int) (x1_3 : Int) : Option Bool :=
  (F125 (x0, (((x1_0, (x1_1, (x1_2, (x1_3, ())))), ()), ()))).bind fun (y0 : Int) =>
  (some (decide (y0 ≥ (0 : Int))))
def F82 (x : ((List Int) × (((Int × (Int × (Int × (Int × Unit)))) × Unit) × Unit))) : Option Bool := G82 KF x.1 x.2.1.1.1 x.2.1.1.2.1 x.2.1.1.2.2.1 x.2.1.1.2.2.2.1
def t82 : Nat → Option CallE := tabOf [(125, e125)]
theorem t82_ok : TabOk Try.prog t82 := tabOf_ok _ ⟨e125_ok, trivial⟩
def i82 : Nat → Option CallI := tabIOf []
theorem i82_ok : TabIOk Try.prog i82 := tabIOf_ok _ trivial
def c82 : Cfg := ⟨liveTab [], modeTab []⟩
noncomputable def b82 : Code := Try.f82.body.getD .skip
def lp82 {R : Type} (n : Nat) : Lp R := lpTab []
theorem F82_eq (n : Nat) (x : p82.vals) : evF ⟨D, t82, i82⟩ c82 (lp82 n) Try.f82 (p82.mk x) q82.get = G82 n x.1 x.2.1.1.1 x.2.1.1.2.1 x.2.1.1.2.2.1 x.2.1.1.2.2.2.1 := by kernel_rfl
theorem F82_ok (x : p82.vals) (y : q82.vals) (h : F82 x = some y) : Sound Try.prog 82 (p82.mk x) (q82.mk y) :=
  evF_sound hm hD ⟨t82_ok, i82_ok⟩ Try.func82 (c := b82) (by kernel_rfl) (by kernel_rfl) (fun v hv => PV.get_mk _ _ _ hv)
    (forall_loops _ [] (by kernel_rfl) trivial) ((F82_eq KF x).trans h)
def e82 : CallE := entry [some (.int .i64), none] p82 q82 F82
theorem e82_ok : FunOk Try.prog 82 e82 := ⟨enters_of Try.func82 (by kernel_rfl) (c := b82) (by kernel_rfl), fun args y hy => entry_ok F82_ok args y hy⟩

/-! ### 118: spiritlevel/gates.Check$2 -/
def p118 : PL := (.cons (.agg (.cons (.int .i64) (.cons (.int .i64) .nil))) (.cons (.ep (.cons (.fn 117 (.cons (.ep (.cons (.int .i64) (.cons (.int .i64) (.cons (.int .i64) (.cons (.int .i64) .nil)))) 0) .nil)) .nil) 0) .nil))
def q118 : PV := .bool
def G118 (n : Nat) (x0_0 : Int) (x0_1 : Int) (x1_0 : Int) (x1_1 : Int) (x1_2 : Int) (x1_3 : Int) : Option Bool :=
  ((F117 (x0_0, ((x1_0, (x1_1, (x1_2, (x1_3, ())))), ()))).bind fun (y1 : Bool) =>
  (bif y1 then (some Bool.true)
  else (bif (bif Bool.false then Bool.true else (decide (x0_1 < (0 : Int)))) then (some Bool.true)
  else (some (bif Bool.false then Bool.true else (decide (x0_1 > (2 : Int)))))))).bind fun e0 =>
  (some e0)
def F118 (x : ((Int × (Int × Unit)) × ((((Int × (Int × (Int × (Int × Unit)))) × Unit) × Unit) × Unit))) : Option Bool := G118 KF x.1.1 x.1.2.1 x.2.1.1.1.1 x.2.1.1.1.2.1 x.2.1.1.1.2.2.1 x.2.1.1.1.2.2.2.1
def t118 : Nat → Option CallE := tabOf [(117, e117)]
theorem t118_ok : TabOk Try.prog t118 := tabOf_ok _ ⟨e117_ok, trivial⟩
def i118 : Nat → Option CallI := tabIOf []
theorem i118_ok : TabIOk Try.prog i118 := tabIOf_ok _ trivial
def c118 : Cfg := ⟨liveTab [], modeTab [(1, .one 3)]⟩
noncomputable def b118 : Code := Try.f118.body.getD .skip
def lp118 {R : Type} (n : Nat) : Lp R := lpTab []
theorem F118_eq (n : Nat) (x : p118.vals) : evF ⟨D, t118, i118⟩ c118 (lp118 n) Try.f118 (p118.mk x) q118.get = G118 n x.1.1 x.1.2.1 x.2.1.1.1.1 x.2.1.1.1.2.1 x.2.1.1.1.2.2.1 x.2.1.1.1.2.2.2.1 := by kernel_rfl
theorem F118_ok (x : p118.vals) (y : q118.vals) (h : F118 x = some y) : Sound Try.prog 118 (p118.mk x) (q118.mk y) :=
  evF_sound hm hD ⟨t118_ok, i118_ok⟩ Try.func118 (c := b118) (by kernel_rfl) (by kernel_rfl) (fun v hv => PV.get_mk _ _ _ hv)
    (forall_loops _ [] (by kernel_rfl) trivial) ((F118_eq KF x).trans h)
def e118 : CallE := entry [none] p118 q118 F118
theorem e118_ok : FunOk Try.prog 118 e118 := ⟨enters_of Try.func118 (by kernel_rfl) (c := b118) (by kernel_rfl), fun args y hy => entry_ok F118_ok args y hy⟩

/-! ### 144: slices.IndexFunc[[]spiritlevel/api.Latch,spiritlevel/api.Latch] -/
def p144 : PL := (.cons (.sl true (.pair (.int .i64) (.int .i64))) (.cons (.fn 118 (.cons (.ep (.cons (.fn 117 (.cons (.ep (.cons (.int .i64) (.cons (.int .i64) (.cons (.int .i64) (.cons (.int .i64) .nil)))) 0) .nil)) .nil) 0) .nil)) .nil))
def q144 : PV := (.int .i64)
def sp144_0 : SP := ⟨[(0, (.sl true (.pair (.int .i64) (.int .i64)))), (1, (.fn 118 (.cons (.ep (.cons (.fn 117 (.cons (.ep (.cons (.int .i64) (.cons (.int .i64) (.cons (.int .i64) (.cons (.int .i64) .nil)))) 0) .nil)) .nil) 0) .nil))), (7, (.int .i64)), (8, (.int .i64))], []⟩
def F144_0 {R : Type} (n : Nat) (k0_0 : Int → Option R) (k0_1 : Option R) (rec_0 : (List (Int × Int)) → Int → Int → Int → Int → Int → Int → Option R) (x0 : (List (Int × Int))) (x1_0 : Int) (x1_1 : Int) (x1_2 : Int) (x1_3 : Int) (x7 : Int) (x8 : Int) : Option R :=
  (bif (decide (x8 < x7)) then ((idxL x0 x8)).bind fun e0 =>
  (F118 ((e0.1, (e0.2, ())), ((((x1_0, (x1_1, (x1_2, (x1_3, ())))), ()), ()), ()))).bind fun (y1 : Bool) =>
  (bif y1 then (k0_0 (x8))
  else (rec_0 (x0) (x1_0) (x1_1) (x1_2) (x1_3) (x7) ((Go.IntKind.wrap Go.IntKind.i64 (x8 + (1 : Int))))))
  else (k0_1 ))
def l144_0 {R : Type} (n : Nat) (k0_0 : Int → Option R) (k0_1 : Option R) : Nat → (List (Int × Int)) → Int → Int → Int → Int → Int → Int → Option R
  | 0, _, _, _, _, _, _, _ => none
  | k + 1, x0, x1_0, x1_1, x1_2, x1_3, x7, x8 => F144_0 n k0_0 k0_1 (l144_0 n k0_0 k0_1 k) x0 x1_0 x1_1 x1_2 x1_3 x7 x8
def G144 (n : Nat) (x0 : (List (Int × Int))) (x1_0 : Int) (x1_1 : Int) (x1_2 : Int) (x1_3 : Int) : Option Int :=
  (l144_0 n (fun v2 =>
  (some v2)) ((some (@Neg.neg Int Int.instNegInt (1 : Int)))) n (x0) (x1_0) (x1_1) (x1_2) (x1_3) (((x0.length : Nat) : Int)) ((0 : Int)))
def F144 (x : ((List (Int × Int)) × (((((Int × (Int × (Int × (Int × Unit)))) × Unit) × Unit) × Unit) × Unit))) : Option Int := G144 KF x.1 x.2.1.1.1.1.1 x.2.1.1.1.1.2.1 x.2.1.1.1.1.2.2.1 x.2.1.1.1.1.2.2.2.1
def t144 : Nat → Option CallE := tabOf [(118, e118)]
theorem t144_ok : TabOk Try.prog t144 := tabOf_ok _ ⟨e118_ok, trivial⟩
def i144 : Nat → Option CallI := tabIOf []
theorem i144_ok : TabIOk Try.prog i144 := tabIOf_ok _ trivial
def c144 : Cfg := ⟨liveTab [(0, ⟨[(0, .keep), (1, .keep), (7, .keep), (8, .keep)], [], [4], [], []⟩)], modeTab []⟩
noncomputable def b144 : Code := Try.f144.body.getD .skip
def lp144 {R : Type} (n : Nat) : Lp R := lpTab [(0, viaSP sp144_0 fun x K => l144_0 n (fun v0 => K (.ret) ⟨[.set 4 (.int .i64 v0)], []⟩) (K (.exit 0) ⟨[.set 4 (.top)], []⟩) n x.1.1 x.1.2.1.1.1.1.1 x.1.2.1.1.1.1.2.1 x.1.2.1.1.1.1.2.2.1 x.1.2.1.1.1.1.2.2.2.1 x.1.2.2.1 x.1.2.2.2.1)]
noncomputable def b144_0 : Code := ((loopsIn b144 0).getD 0 (0, .skip)).2
theorem l144_0_step {R : Type} (n k : Nat) (x : sp144_0.vals) (K : Ex → St → Option R) : evL (fun s K => evC ⟨D, t144, i144⟩ c144 (lp144 n) b144_0 0 s K) (c144.live 0).head (c144.live 0).leave (k + 1) (sp144_0.mk' x) K = F144_0 n (fun v0 => K (.ret) ⟨[.set 4 (.int .i64 v0)], []⟩) (K (.exit 0) ⟨[.set 4 (.top)], []⟩) (fun w0 w1 w2 w3 w4 w5 w6 => evL (fun s K => evC ⟨D, t144, i144⟩ c144 (lp144 n) b144_0 0 s K) (c144.live 0).head (c144.live 0).leave k (sp144_0.mk' ((w0, (((((w1, (w2, (w3, (w4, ())))), ()), ()), ()), (w5, (w6, ())))), ())) K) x.1.1 x.1.2.1.1.1.1.1 x.1.2.1.1.1.1.2.1 x.1.2.1.1.1.1.2.2.1 x.1.2.1.1.1.1.2.2.2.1 x.1.2.2.1 x.1.2.2.2.1 := by kernel_rfl
theorem l144_0_ok {R : Type} (n : Nat) : ∀ (k : Nat) (x : sp144_0.vals) (K : Ex → St → Option R), evL (fun s K => evC ⟨D, t144, i144⟩ c144 (lp144 n) b144_0 0 s K) (c144.live 0).head (c144.live 0).leave k (sp144_0.mk' x) K = l144_0 n (fun v0 => K (.ret) ⟨[.set 4 (.int .i64 v0)], []⟩) (K (.exit 0) ⟨[.set 4 (.top)], []⟩) k x.1.1 x.1.2.1.1.1.1.1 x.1.2.1.1.1.1.2.1 x.1.2.1.1.1.1.2.2.1 x.1.2.1.1.1.1.2.2.2.1 x.1.2.2.1 x.1.2.2.2.1
  | 0, _, _ => rfl
  | k + 1, x, K => (l144_0_step n k x K).trans (congrArg (fun rec => F144_0 n (fun v0 => K (.ret) ⟨[.set 4 (.int .i64 v0)], []⟩) (K (.exit 0) ⟨[.set 4 (.top)], []⟩) rec x.1.1 x.1.2.1.1.1.1.1 x.1.2.1.1.1.1.2.1 x.1.2.1.1.1.1.2.2.1 x.1.2.1.1.1.1.2.2.2.1 x.1.2.2.1 x.1.2.2.2.1) (by funext w0 w1 w2 w3 w4 w5 w6; exact l144_0_ok n k ((w0, (((((w1, (w2, (w3, (w4, ())))), ()), ()), ()), (w5, (w6, ())))), ()) K))
theorem F144_eq (n : Nat) (x : p144.vals) : evF ⟨D, t144, i144⟩ c144 (lp144 n) Try.f144 (p144.mk x) q144.get = G144 n x.1 x.2.1.1.1.1.1 x.2.1.1.1.1.2.1 x.2.1.1.1.1.2.2.1 x.2.1.1.1.1.2.2.2.1 := by kernel_rfl
theorem F144_ok (x : p144.vals) (y : q144.vals) (h : F144 x = some y) : Sound Try.prog 144 (p144.mk x) (q144.mk y) :=
  evF_sound hm hD ⟨t144_ok, i144_ok⟩ Try.func144 (c := b144) (by kernel_rfl) (by kernel_rfl) (fun v hv => PV.get_mk _ _ _ hv)
    (forall_loops _ [(0, b144_0)] (by kernel_rfl) ⟨fun s K r h => viaSP_good (p := sp144_0) (l144_0_ok KF KF) s K r h, trivial⟩) ((F144_eq KF x).trans h)
def e144 : CallE := entry [some (.pair (.int .i64) (.int .i64)), none] p144 q144 F144
theorem e144_ok : FunOk Try.prog 144 e144 := ⟨enters_of Try.func144 (by kernel_rfl) (c := b144) (by kernel_rfl), fun args y hy => entry_ok F144_ok args y hy⟩

/-! ### 119: slices.ContainsFunc[[]spiritlevel/api.Latch,spiritlevel/api.Latch] -/
def p119 : PL := (.cons (.sl true (.pair (.int .i64) (.int .i64))) (.cons (.fn 118 (.cons (.ep (.cons (.fn 117 (.cons (.ep (.cons (.int .i64) (.cons (.int .i64) (.cons (.int .i64) (.cons (.int .i64) .nil)))) 0) .nil)) .nil) 0) .nil)) .nil))
def q119 : PV := .bool
def G119 (n : Nat) (x0 : (List (Int × Int))) (x1_0 : Int) (x1_1 : Int) (x1_2 : Int) (x1_3 : Int) : Option Bool :=
  (F144 (x0, (((((x1_0, (x1_1, (x1_2, (x1_3, ())))), ()), ()), ()), ()))).bind fun (y0 : Int) =>
  (some (decide (y0 ≥ (0 : Int))))
def F119 (x : ((List (Int × Int)) × (((((Int × (Int × (Int × (Int × Unit)))) × Unit) × Unit) × Unit) × Unit))) : Option Bool := G119 KF x.1 x.2.1.1.1.1.1 x.2.1.1.1.1.2.1 x.2.1.1.1.1.2.2.1 x.2.1.1.1.1.2.2.2.1
def t119 : Nat → Option CallE := tabOf [(144, e144)]
theorem t119_ok : TabOk Try.prog t119 := tabOf_ok _ ⟨e144_ok, trivial⟩
def i119 : Nat → Option CallI := tabIOf []
theorem i119_ok : TabIOk Try.prog i119 := tabIOf_ok _ trivial
def c119 : Cfg := ⟨liveTab [], modeTab []⟩
noncomputable def b119 : Code := Try.f119.body.getD .skip
def lp119 {R : Type} (n : Nat) : Lp R := lpTab []
theorem F119_eq (n : Nat) (x : p119.vals) : evF ⟨D, t119, i119⟩ c119 (lp119 n) Try.f119 (p119.mk x) q119.get = G119 n x.1 x.2.1.1.1.1.1 x.2.1.1.1.1.2.1 x.2.1.1.1.1.2.2.1 x.2.1.1.1.1.2.2.2.1 := by kernel_rfl
theorem F119_ok (x : p119.vals) (y : q119.vals) (h : F119 x = some y) : Sound Try.prog 119 (p119.mk x) (q119.mk y) :=
  evF_sound hm hD ⟨t119_ok, i119_ok⟩ Try.func119 (c := b119) (by kernel_rfl) (by kernel_rfl) (fun v hv => PV.get_mk _ _ _ hv)
    (forall_loops _ [] (by kernel_rfl) trivial) ((F119_eq KF x).trans h)
def e119 : CallE := entry [some (.pair (.int .i64) (.int .i64)), none] p119 q119 F119
theorem e119_ok : FunOk Try.prog 119 e119 := ⟨enters_of Try.func119 (by kernel_rfl) (c := b119) (by kernel_rfl), fun args y hy => entry_ok F119_ok args y hy⟩

/-! ### 66: spiritlevel/gates.Check -/
def p66 : PL := (.cons (.agg (.cons (.int .i64) (.cons (.sl true (.pair (.int .i64) (.int .i64))) (.cons (.sl true (.pair (.int .i64) (.int .i64))) (.cons (.sl true (.int .i64)) (.cons (.sl true (.int .i64)) .nil)))))) .nil)
def q66 : PV := (.int .i64)
def sp66_0 : SP := ⟨[(3, (.ptr 3 0)), (52, (.sl true (.pair (.int .i64) (.int .i64)))), (53, (.int .i64)), (54, (.int .i64))], [(3, (.box (.cons (.int .i64) (.cons (.int .i64) (.cons (.int .i64) (.cons (.int .i64) .nil))))))]⟩
def F66_0 {R : Type} (n : Nat) (k0_0 : Int → Option R) (k0_1 : Option R) (rec_0 : (List (Int × Int)) → Int → Int → Int → Int → Int → Int → Option R) (x52 : (List (Int × Int))) (x53 : Int) (x54 : Int) (r3_0 : Int) (r3_1 : Int) (r3_2 : Int) (r3_3 : Int) : Option R :=
  (bif (decide (x54 < x53)) then ((idxL x52 x54)).bind fun e7 =>
  ((bif (decide (e7.2 < (0 : Int))) then (some Bool.true)
  else (bif (bif Bool.false then Bool.true else (decide (e7.1 < e7.2))) then (some Bool.true)
  else (some (bif Bool.false then Bool.true else (decide (e7.1 ≥ (Go.IntKind.wrap Go.IntKind.i64 ((2 : Int) * (Go.IntKind.wrap Go.IntKind.i64 (r3_2 + x54))))))))))).bind fun e8 =>
  (bif e8 then (k0_0 ((8 : Int)))
  else (rec_0 (x52) (x53) ((Go.IntKind.wrap Go.IntKind.i64 (x54 + (1 : Int)))) (r3_0) (r3_1) (r3_2) (r3_3)))
  else (k0_1 ))
def l66_0 {R : Type} (n : Nat) (k0_0 : Int → Option R) (k0_1 : Option R) : Nat → (List (Int × Int)) → Int → Int → Int → Int → Int → Int → Option R
  | 0, _, _, _, _, _, _, _ => none
  | k + 1, x52, x53, x54, r3_0, r3_1, r3_2, r3_3 => F66_0 n k0_0 k0_1 (l66_0 n k0_0 k0_1 k) x52 x53 x54 r3_0 r3_1 r3_2 r3_3
def G66 (n : Nat) (x0_0 : Int) (x0_1 : (List (Int × Int))) (x0_2 : (List (Int × Int))) (x0_3 : (List Int)) (x0_4 : (List Int)) : Option Int :=
  (bif (decide (x0_0 < (0 : Int))) then (some (8 : Int))
  else ((bif (decide (x0_0 > (1000 : Int))) then (some Bool.true)
  else (F116 ((x0_0, (x0_1, (x0_2, (x0_3, (x0_4, ()))))), ())).bind fun (y1 : (Int × (Int × (Int × (Int × Unit))))) =>
  (bif (bif Bool.false then Bool.true else (decide ((Go.IntKind.wrap Go.IntKind.i64 (y1.2.2.2.1 - (1 : Int))) > (1000 : Int)))) then (some Bool.true)
  else (some (bif Bool.false then Bool.true else (decide ((if (((x0_4.length : Nat) : Int) > ((x0_3.length : Nat) : Int)) then ((x0_4.length : Nat) : Int) else ((x0_3.length : Nat) : Int)) > (100 : Int)))))))).bind fun e0 =>
  (bif e0 then (some (4 : Int))
  else (F116 ((x0_0, (x0_1, (x0_2, (x0_3, (x0_4, ()))))), ())).bind fun (y2 : (Int × (Int × (Int × (Int × Unit))))) =>
  ((F82 (x0_3, (((y2.1, (y2.2.1, (y2.2.2.1, (y2.2.2.2.1, ())))), ()), ()))).bind fun (y4 : Bool) =>
  (bif y4 then (some Bool.true)
  else (F82 (x0_4, (((y2.1, (y2.2.1, (y2.2.2.1, (y2.2.2.2.1, ())))), ()), ()))).bind fun (y5 : Bool) =>
  (bif (bif Bool.false then Bool.true else y5) then (some Bool.true)
  else (F119 (x0_1, (((((y2.1, (y2.2.1, (y2.2.2.1, (y2.2.2.2.1, ())))), ()), ()), ()), ()))).bind fun (y6 : Bool) =>
  (some (bif Bool.false then Bool.true else y6))))).bind fun e3 =>
  (bif e3 then (some (8 : Int))
  else (l66_0 n (fun v9 =>
  (some v9)) ((some (0 : Int))) n (x0_2) (((x0_2.length : Nat) : Int)) ((0 : Int)) (y2.1) (y2.2.1) (y2.2.2.1) (y2.2.2.2.1)))))
def F66 (x : ((Int × ((List (Int × Int)) × ((List (Int × Int)) × ((List Int) × ((List Int) × Unit))))) × Unit)) : Option Int := G66 KF x.1.1 x.1.2.1 x.1.2.2.1 x.1.2.2.2.1 x.1.2.2.2.2.1
def t66 : Nat → Option CallE := tabOf [(119, e119), (82, e82), (116, e116)]
theorem t66_ok : TabOk Try.prog t66 := tabOf_ok _ ⟨e119_ok, ⟨e82_ok, ⟨e116_ok, trivial⟩⟩⟩
def i66 : Nat → Option CallI := tabIOf []
theorem i66_ok : TabIOk Try.prog i66 := tabIOf_ok _ trivial
def c66 : Cfg := ⟨liveTab [(0, ⟨[(3, .keep), (52, .keep), (53, .keep), (54, .keep)], [3], [2], [], []⟩)], modeTab [(3, .one 30), (8, .one 50), (13, .one 78)]⟩
noncomputable def b66 : Code := Try.f66.body.getD .skip
def lp66 {R : Type} (n : Nat) : Lp R := lpTab [(0, viaSP sp66_0 fun x K => l66_0 n (fun v0 => K (.ret) ⟨[.set 2 (.int .i64 v0)], []⟩) (K (.exit 0) ⟨[.set 2 (.top)], []⟩) n x.1.2.1 x.1.2.2.1 x.1.2.2.2.1 x.2.1.1 x.2.1.2.1 x.2.1.2.2.1 x.2.1.2.2.2.1)]
noncomputable def b66_0 : Code := ((loopsIn b66 0).getD 0 (0, .skip)).2
theorem l66_0_step {R : Type} (n k : Nat) (x : sp66_0.vals) (K : Ex → St → Option R) : evL (fun s K => evC ⟨D, t66, i66⟩ c66 (lp66 n) b66_0 0 s K) (c66.live 0).head (c66.live 0).leave (k + 1) (sp66_0.mk' x) K = F66_0 n (fun v0 => K (.ret) ⟨[.set 2 (.int .i64 v0)], []⟩) (K (.exit 0) ⟨[.set 2 (.top)], []⟩) (fun w0 w1 w2 w3 w4 w5 w6 => evL (fun s K => evC ⟨D, t66, i66⟩ c66 (lp66 n) b66_0 0 s K) (c66.live 0).head (c66.live 0).leave k (sp66_0.mk' (((), (w0, (w1, (w2, ())))), ((w3, (w4, (w5, (w6, ())))), ()))) K) x.1.2.1 x.1.2.2.1 x.1.2.2.2.1 x.2.1.1 x.2.1.2.1 x.2.1.2.2.1 x.2.1.2.2.2.1 := by kernel_rfl
theorem l66_0_ok {R : Type} (n : Nat) : ∀ (k : Nat) (x : sp66_0.vals) (K : Ex → St → Option R), evL (fun s K => evC ⟨D, t66, i66⟩ c66 (lp66 n) b66_0 0 s K) (c66.live 0).head (c66.live 0).leave k (sp66_0.mk' x) K = l66_0 n (fun v0 => K (.ret) ⟨[.set 2 (.int .i64 v0)], []⟩) (K (.exit 0) ⟨[.set 2 (.top)], []⟩) k x.1.2.1 x.1.2.2.1 x.1.2.2.2.1 x.2.1.1 x.2.1.2.1 x.2.1.2.2.1 x.2.1.2.2.2.1
  | 0, _, _ => rfl
  | k + 1, x, K => (l66_0_step n k x K).trans (congrArg (fun rec => F66_0 n (fun v0 => K (.ret) ⟨[.set 2 (.int .i64 v0)], []⟩) (K (.exit 0) ⟨[.set 2 (.top)], []⟩) rec x.1.2.1 x.1.2.2.1 x.1.2.2.2.1 x.2.1.1 x.2.1.2.1 x.2.1.2.2.1 x.2.1.2.2.2.1) (by funext w0 w1 w2 w3 w4 w5 w6; exact l66_0_ok n k (((), (w0, (w1, (w2, ())))), ((w3, (w4, (w5, (w6, ())))), ())) K))
theorem F66_eq (n : Nat) (x : p66.vals) : evF ⟨D, t66, i66⟩ c66 (lp66 n) Try.f66 (p66.mk x) q66.get = G66 n x.1.1 x.1.2.1 x.1.2.2.1 x.1.2.2.2.1 x.1.2.2.2.2.1 := by kernel_rfl
theorem F66_ok (x : p66.vals) (y : q66.vals) (h : F66 x = some y) : Sound Try.prog 66 (p66.mk x) (q66.mk y) :=
  evF_sound hm hD ⟨t66_ok, i66_ok⟩ Try.func66 (c := b66) (by kernel_rfl) (by kernel_rfl) (fun v hv => PV.get_mk _ _ _ hv)
    (forall_loops _ [(0, b66_0)] (by kernel_rfl) ⟨fun s K r h => viaSP_good (p := sp66_0) (l66_0_ok KF KF) s K r h, trivial⟩) ((F66_eq KF x).trans h)
def e66 : CallE := entry [none] p66 q66 F66
theorem e66_ok : FunOk Try.prog 66 e66 := ⟨enters_of Try.func66 (by kernel_rfl) (c := b66) (by kernel_rfl), fun args y hy => entry_ok F66_ok args y hy⟩

/-! ### 91: spiritlevel/shrink.asked -/
def p91 : PL := (.cons (.agg (.cons (.int .i64) (.cons (.sl true (.pair (.int .i64) (.int .i64))) (.cons (.sl true (.pair (.int .i64) (.int .i64))) (.cons (.sl true (.int .i64)) (.cons (.sl true (.int .i64)) .nil)))))) (.cons (.sl true .bool) (.cons (.sl true .bool) .nil)))
def q91 : PV := (.int .i64)
def G91 (n : Nat) (x0_0 : Int) (x0_1 : (List (Int × Int))) (x0_2 : (List (Int × Int))) (x0_3 : (List Int)) (x0_4 : (List Int)) (x1 : (List Bool)) (x2 : (List Bool)) : Option Int :=
  (F66 ((x0_0, (x0_1, (x0_2, (x0_3, (x0_4, ()))))), ())).bind fun (y0 : Int) =>
  (bif (y0 != (0 : Int)) then (some y0)
  else ((bif (((x1.length : Nat) : Int) != ((x0_1.length : Nat) : Int)) then (some Bool.true)
  else (some (bif Bool.false then Bool.true else (((x2.length : Nat) : Int) != x0_0))))).bind fun e1 =>
  (bif e1 then (some (2 : Int))
  else (some (0 : Int))))
def F91 (x : ((Int × ((List (Int × Int)) × ((List (Int × Int)) × ((List Int) × ((List Int) × Unit))))) × ((List Bool) × ((List Bool) × Unit)))) : Option Int := G91 KF x.1.1 x.1.2.1 x.1.2.2.1 x.1.2.2.2.1 x.1.2.2.2.2.1 x.2.1 x.2.2.1
def t91 : Nat → Option CallE := tabOf [(66, e66)]
theorem t91_ok : TabOk Try.prog t91 := tabOf_ok _ ⟨e66_ok, trivial⟩
def i91 : Nat → Option CallI := tabIOf []
theorem i91_ok : TabIOk Try.prog i91 := tabIOf_ok _ trivial
def c91 : Cfg := ⟨liveTab [], modeTab [(4, .one 25)]⟩
noncomputable def b91 : Code := Try.f91.body.getD .skip
def lp91 {R : Type} (n : Nat) : Lp R := lpTab []
theorem F91_eq (n : Nat) (x : p91.vals) : evF ⟨D, t91, i91⟩ c91 (lp91 n) Try.f91 (p91.mk x) q91.get = G91 n x.1.1 x.1.2.1 x.1.2.2.1 x.1.2.2.2.1 x.1.2.2.2.2.1 x.2.1 x.2.2.1 := by kernel_rfl
theorem F91_ok (x : p91.vals) (y : q91.vals) (h : F91 x = some y) : Sound Try.prog 91 (p91.mk x) (q91.mk y) :=
  evF_sound hm hD ⟨t91_ok, i91_ok⟩ Try.func91 (c := b91) (by kernel_rfl) (by kernel_rfl) (fun v hv => PV.get_mk _ _ _ hv)
    (forall_loops _ [] (by kernel_rfl) trivial) ((F91_eq KF x).trans h)
def e91 : CallE := entry [none, some .bool, some .bool] p91 q91 F91
theorem e91_ok : FunOk Try.prog 91 e91 := ⟨enters_of Try.func91 (by kernel_rfl) (c := b91) (by kernel_rfl), fun args y hy => entry_ok F91_ok args y hy⟩

/-! ### 120: spiritlevel/clause.known -/
def p120 : PL := (.cons (.int .i64) (.cons (.int .i64) .nil))
def q120 : PV := .bool
def G120 (n : Nat) (x0 : Int) (x1 : Int) : Option Bool :=
  ((bif (decide (x1 ≥ (2 : Int))) then (some (bif Bool.true then (decide ((Go.IntKind.wrap Go.IntKind.i64 (Int.tdiv x1 (2 : Int))) ≤ x0)) else Bool.false))
  else (some Bool.false))).bind fun e0 =>
  (some e0)
def F120 (x : (Int × (Int × Unit))) : Option Bool := G120 KF x.1 x.2.1
def t120 : Nat → Option CallE := tabOf []
theorem t120_ok : TabOk Try.prog t120 := tabOf_ok _ trivial
def i120 : Nat → Option CallI := tabIOf []
theorem i120_ok : TabIOk Try.prog i120 := tabIOf_ok _ trivial
def c120 : Cfg := ⟨liveTab [], modeTab [(1, .one 4)]⟩
noncomputable def b120 : Code := Try.f120.body.getD .skip
def lp120 {R : Type} (n : Nat) : Lp R := lpTab []
theorem F120_eq (n : Nat) (x : p120.vals) : evF ⟨D, t120, i120⟩ c120 (lp120 n) Try.f120 (p120.mk x) q120.get = G120 n x.1 x.2.1 := by kernel_rfl
theorem F120_ok (x : p120.vals) (y : q120.vals) (h : F120 x = some y) : Sound Try.prog 120 (p120.mk x) (q120.mk y) :=
  evF_sound hm hD ⟨t120_ok, i120_ok⟩ Try.func120 (c := b120) (by kernel_rfl) (by kernel_rfl) (fun v hv => PV.get_mk _ _ _ hv)
    (forall_loops _ [] (by kernel_rfl) trivial) ((F120_eq KF x).trans h)
def e120 : CallE := entry [none, none] p120 q120 F120
theorem e120_ok : FunOk Try.prog 120 e120 := ⟨enters_of Try.func120 (by kernel_rfl) (c := b120) (by kernel_rfl), fun args y hy => entry_ok F120_ok args y hy⟩

/-! ### 67: spiritlevel/clause.Check -/
def p67 : PL := (.cons (.int .i64) (.cons (.sl true (.int .i64)) .nil))
def q67 : PV := (.int .i64)
def sp67_0 : SP := ⟨[(0, (.int .i64)), (1, (.sl true (.int .i64))), (13, (.sl true (.int .i64))), (14, (.int .i64)), (15, (.int .i64))], []⟩
def F67_0 {R : Type} (n : Nat) (k0_0 : Int → Option R) (k0_1 : Option R) (rec_0 : Int → (List Int) → (List Int) → Int → Int → Option R) (x0 : Int) (x1 : (List Int)) (x13 : (List Int)) (x14 : Int) (x15 : Int) : Option R :=
  (bif (decide (x15 < x14)) then ((idxL x13 x15)).bind fun e1 =>
  ((F120 (x0, (e1, ()))).bind fun (y3 : Bool) =>
  (bif (!y3) then (some Bool.true)
  else (bif (decide (x15 > (0 : Int))) then ((idxL x1 (Go.IntKind.wrap Go.IntKind.i64 (x15 - (1 : Int))))).bind fun e4 =>
  (bif (decide (e1 ≤ e4)) then (some (bif Bool.false then Bool.true else (bif Bool.true then Bool.true else Bool.false)))
  else ((idxL x1 (Go.IntKind.wrap Go.IntKind.i64 (x15 - (1 : Int))))).bind fun e5 =>
  (some (bif Bool.false then Bool.true else (bif Bool.true then (bif Bool.false then Bool.true else ((Go.IntKind.wrap Go.IntKind.i64 (Int.tdiv e1 (2 : Int))) == (Go.IntKind.wrap Go.IntKind.i64 (Int.tdiv e5 (2 : Int))))) else Bool.false))))
  else (some (bif Bool.false then Bool.true else Bool.false))))).bind fun e2 =>
  (bif e2 then (k0_0 ((8 : Int)))
  else (rec_0 (x0) (x1) (x13) (x14) ((Go.IntKind.wrap Go.IntKind.i64 (x15 + (1 : Int))))))
  else (k0_1 ))
def l67_0 {R : Type} (n : Nat) (k0_0 : Int → Option R) (k0_1 : Option R) : Nat → Int → (List Int) → (List Int) → Int → Int → Option R
  | 0, _, _, _, _, _ => none
  | k + 1, x0, x1, x13, x14, x15 => F67_0 n k0_0 k0_1 (l67_0 n k0_0 k0_1 k) x0 x1 x13 x14 x15
def G67 (n : Nat) (x0 : Int) (x1 : (List Int)) : Option Int :=
  ((bif (decide (x0 < (0 : Int))) then (some Bool.true)
  else (some (bif Bool.false then Bool.true else (decide (x0 > (4000 : Int))))))).bind fun e0 =>
  (bif e0 then (some (2 : Int))
  else (l67_0 n (fun v6 =>
  (some v6)) ((some (0 : Int))) n (x0) (x1) (x1) (((x1.length : Nat) : Int)) ((0 : Int))))
def F67 (x : (Int × ((List Int) × Unit))) : Option Int := G67 KF x.1 x.2.1
def t67 : Nat → Option CallE := tabOf [(120, e120)]
theorem t67_ok : TabOk Try.prog t67 := tabOf_ok _ ⟨e120_ok, trivial⟩
def i67 : Nat → Option CallI := tabIOf []
theorem i67_ok : TabIOk Try.prog i67 := tabIOf_ok _ trivial
def c67 : Cfg := ⟨liveTab [(0, ⟨[(0, .keep), (1, .keep), (13, .keep), (14, .keep), (15, .keep)], [], [4], [], []⟩)], modeTab [(1, .one 12), (6, .one 47)]⟩
noncomputable def b67 : Code := Try.f67.body.getD .skip
def lp67 {R : Type} (n : Nat) : Lp R := lpTab [(0, viaSP sp67_0 fun x K => l67_0 n (fun v0 => K (.ret) ⟨[.set 4 (.int .i64 v0)], []⟩) (K (.exit 0) ⟨[.set 4 (.top)], []⟩) n x.1.1 x.1.2.1 x.1.2.2.1 x.1.2.2.2.1 x.1.2.2.2.2.1)]
noncomputable def b67_0 : Code := ((loopsIn b67 0).getD 0 (0, .skip)).2
theorem l67_0_step {R : Type} (n k : Nat) (x : sp67_0.vals) (K : Ex → St → Option R) : evL (fun s K => evC ⟨D, t67, i67⟩ c67 (lp67 n) b67_0 0 s K) (c67.live 0).head (c67.live 0).leave (k + 1) (sp67_0.mk' x) K = F67_0 n (fun v0 => K (.ret) ⟨[.set 4 (.int .i64 v0)], []⟩) (K (.exit 0) ⟨[.set 4 (.top)], []⟩) (fun w0 w1 w2 w3 w4 => evL (fun s K => evC ⟨D, t67, i67⟩ c67 (lp67 n) b67_0 0 s K) (c67.live 0).head (c67.live 0).leave k (sp67_0.mk' ((w0, (w1, (w2, (w3, (w4, ()))))), ())) K) x.1.1 x.1.2.1 x.1.2.2.1 x.1.2.2.2.1 x.1.2.2.2.2.1 := by kernel_rfl
theorem l67_0_ok {R : Type} (n : Nat) : ∀ (k : Nat) (x : sp67_0.vals) (K : Ex → St → Option R), evL (fun s K => evC ⟨D, t67, i67⟩ c67 (lp67 n) b67_0 0 s K) (c67.live 0).head (c67.live 0).leave k (sp67_0.mk' x) K = l67_0 n (fun v0 => K (.ret) ⟨[.set 4 (.int .i64 v0)], []⟩) (K (.exit 0) ⟨[.set 4 (.top)], []⟩) k x.1.1 x.1.2.1 x.1.2.2.1 x.1.2.2.2.1 x.1.2.2.2.2.1
  | 0, _, _ => rfl
  | k + 1, x, K => (l67_0_step n k x K).trans (congrArg (fun rec => F67_0 n (fun v0 => K (.ret) ⟨[.set 4 (.int .i64 v0)], []⟩) (K (.exit 0) ⟨[.set 4 (.top)], []⟩) rec x.1.1 x.1.2.1 x.1.2.2.1 x.1.2.2.2.1 x.1.2.2.2.2.1) (by funext w0 w1 w2 w3 w4; exact l67_0_ok n k ((w0, (w1, (w2, (w3, (w4, ()))))), ()) K))
theorem F67_eq (n : Nat) (x : p67.vals) : evF ⟨D, t67, i67⟩ c67 (lp67 n) Try.f67 (p67.mk x) q67.get = G67 n x.1 x.2.1 := by kernel_rfl
theorem F67_ok (x : p67.vals) (y : q67.vals) (h : F67 x = some y) : Sound Try.prog 67 (p67.mk x) (q67.mk y) :=
  evF_sound hm hD ⟨t67_ok, i67_ok⟩ Try.func67 (c := b67) (by kernel_rfl) (by kernel_rfl) (fun v hv => PV.get_mk _ _ _ hv)
    (forall_loops _ [(0, b67_0)] (by kernel_rfl) ⟨fun s K r h => viaSP_good (p := sp67_0) (l67_0_ok KF KF) s K r h, trivial⟩) ((F67_eq KF x).trans h)
def e67 : CallE := entry [none, some (.int .i64)] p67 q67 F67
theorem e67_ok : FunOk Try.prog 67 e67 := ⟨enters_of Try.func67 (by kernel_rfl) (c := b67) (by kernel_rfl), fun args y hy => entry_ok F67_ok args y hy⟩

/-! ### 131: spiritlevel/shrink.three -/
def p131 : PL := (.cons (.sl true .bool) .nil)
def q131 : PV := (.row 2000000)
def o131 : List (Nat × PO) := []
def oo131 : List (Nat × PO) := [(2000000, (.row 5 (.int .u8) false))]
def sp131_0 : SP := ⟨[(3, (.row 8)), (9, (.sl true .bool)), (10, (.int .i64)), (11, (.int .i64))], [(8, (.row 5 (.int .u8) false))]⟩
def F131_0 {R : Type} (n : Nat) (k0_0 : (List Int) → Option R) (rec_0 : (List Bool) → Int → Int → (List Int) → Option R) (x9 : (List Bool)) (x10 : Int) (x11 : Int) (r8 : (List Int)) : Option R :=
  (bif (decide (x11 < x10)) then ((idxL x9 x11)).bind fun e0 =>
  (bif e0 then (bif ((decide ((0 : Int) ≤ x11)) && (decide ((Int.toNat x11) < r8.length))) then ((r8[(Int.toNat x11)]?)).bind fun e1 =>
  (rec_0 (x9) (x10) ((Go.IntKind.wrap Go.IntKind.i64 (x11 + (1 : Int)))) ((List.set r8 (Int.toNat x11) (1 : Int))))
  else none)
  else (rec_0 (x9) (x10) ((Go.IntKind.wrap Go.IntKind.i64 (x11 + (1 : Int)))) (r8)))
  else (k0_0 (r8)))
def l131_0 {R : Type} (n : Nat) (k0_0 : (List Int) → Option R) : Nat → (List Bool) → Int → Int → (List Int) → Option R
  | 0, _, _, _, _ => none
  | k + 1, x9, x10, x11, r8 => F131_0 n k0_0 (l131_0 n k0_0 k) x9 x10 x11 r8
def G131 (n : Nat) (x0 : (List Bool)) : Option (Unit × ((List Int) × Unit)) :=
  (bif ((decide ((0 : Int) ≤ ((x0.length : Nat) : Int))) && ((decide ((Int.toNat ((x0.length : Nat) : Int)) ≤ LIM)) && (((x0.length : Nat) : Int) == ((x0.length : Nat) : Int)))) then (l131_0 n (fun v2 =>
  (some ((), (v2, ())))) n (x0) (((x0.length : Nat) : Int)) ((0 : Int)) ((List.replicate (Int.toNat ((x0.length : Nat) : Int)) (0 : Int))))
  else none)
def F131 (x : (((List Bool) × Unit) × Unit)) : Option (Unit × ((List Int) × Unit)) := G131 KF x.1.1
def t131 : Nat → Option CallE := tabOf []
theorem t131_ok : TabOk Try.prog t131 := tabOf_ok _ trivial
def i131 : Nat → Option CallI := tabIOf []
theorem i131_ok : TabIOk Try.prog i131 := tabIOf_ok _ trivial
def c131 : Cfg := ⟨liveTab [(0, ⟨[(3, .keep), (9, .keep), (10, .keep), (11, .keep)], [8], [3], [8], []⟩)], modeTab []⟩
noncomputable def b131 : Code := Try.f131.body.getD .skip
def lp131 {R : Type} (n : Nat) : Lp R := lpTab [(0, viaSP sp131_0 fun x K => l131_0 n (fun v0 => K (.exit 0) ⟨[.set 3 (.row 8)], [.set 8 (.row 5 (.int .u8) v0 false)]⟩) n x.1.2.1 x.1.2.2.1 x.1.2.2.2.1 x.2.1)]
noncomputable def b131_0 : Code := ((loopsIn b131 0).getD 0 (0, .skip)).2
theorem l131_0_step {R : Type} (n k : Nat) (x : sp131_0.vals) (K : Ex → St → Option R) : evL (fun s K => evC ⟨D, t131, i131⟩ c131 (lp131 n) b131_0 0 s K) (c131.live 0).head (c131.live 0).leave (k + 1) (sp131_0.mk' x) K = F131_0 n (fun v0 => K (.exit 0) ⟨[.set 3 (.row 8)], [.set 8 (.row 5 (.int .u8) v0 false)]⟩) (fun w0 w1 w2 w3 => evL (fun s K => evC ⟨D, t131, i131⟩ c131 (lp131 n) b131_0 0 s K) (c131.live 0).head (c131.live 0).leave k (sp131_0.mk' (((), (w0, (w1, (w2, ())))), (w3, ()))) K) x.1.2.1 x.1.2.2.1 x.1.2.2.2.1 x.2.1 := by kernel_rfl
theorem l131_0_ok {R : Type} (n : Nat) : ∀ (k : Nat) (x : sp131_0.vals) (K : Ex → St → Option R), evL (fun s K => evC ⟨D, t131, i131⟩ c131 (lp131 n) b131_0 0 s K) (c131.live 0).head (c131.live 0).leave k (sp131_0.mk' x) K = l131_0 n (fun v0 => K (.exit 0) ⟨[.set 3 (.row 8)], [.set 8 (.row 5 (.int .u8) v0 false)]⟩) k x.1.2.1 x.1.2.2.1 x.1.2.2.2.1 x.2.1
  | 0, _, _ => rfl
  | k + 1, x, K => (l131_0_step n k x K).trans (congrArg (fun rec => F131_0 n (fun v0 => K (.exit 0) ⟨[.set 3 (.row 8)], [.set 8 (.row 5 (.int .u8) v0 false)]⟩) rec x.1.2.1 x.1.2.2.1 x.1.2.2.2.1 x.2.1) (by funext w0 w1 w2 w3; exact l131_0_ok n k (((), (w0, (w1, (w2, ())))), (w3, ())) K))
theorem F131_eq (n : Nat) (x : p131.vals × obVals o131) : evFI ⟨D, t131, i131⟩ c131 (lp131 n) Try.f131 [(0, .own)] [] (p131.mk x.1) (obMk o131 x.2) (get2 q131 oo131) = G131 n x.1.1 := by kernel_rfl
theorem F131_ok (x : p131.vals × obVals o131) (y : q131.vals × obVals oo131) (h : F131 x = some y) : SoundI Try.prog 131 (p131.mk x.1) (obMk o131 x.2) (q131.mk y.1) (obMk oo131 y.2) :=
  evFI_sound hm hD ⟨t131_ok, i131_ok⟩ Try.func131 (c := b131) (by kernel_rfl) (by kernel_rfl) (fun v ob hv => get2_mk hv)
    (forall_loops _ [(0, b131_0)] (by kernel_rfl) ⟨fun s K r h => viaSP_good (p := sp131_0) (l131_0_ok KF KF) s K r h, trivial⟩) ((F131_eq KF x).trans h)
def e131 : CallI := entryI [some .bool] [] p131 o131 q131 oo131 F131
theorem e131_ok : FunIOk Try.prog 131 e131 := ⟨enters_of Try.func131 (by kernel_rfl) (c := b131) (by kernel_rfl), fun args obs y hy => entryI_ok F131_ok args obs y hy⟩

/-! ### 162: slices.Grow[[]uint8,uint8] -/
def p162 : PL := (.cons (.nil 0 (.int .u8)) (.cons (.int .i64) .nil))
def q162 : PV := (.row 2000000)
def o162 : List (Nat × PO) := []
def oo162 : List (Nat × PO) := [(2000000, (.row 5 (.int .u8) false))]
def G162 (n : Nat) (x1 : Int) : Option (Unit × ((List Int) × Unit)) :=
  (bif (decide (x1 < (0 : Int))) then none
  else (bif (decide ((Go.IntKind.wrap Go.IntKind.i64 (x1 - (Go.IntKind.wrap Go.IntKind.i64 ((0 : Int) - (0 : Int))))) > (0 : Int))) then (bif ((decide ((0 : Int) < (Go.IntKind.wrap Go.IntKind.i64 (x1 - (Go.IntKind.wrap Go.IntKind.i64 ((0 : Int) - (0 : Int))))))) && (decide ((Int.toNat (Go.IntKind.wrap Go.IntKind.i64 (x1 - (Go.IntKind.wrap Go.IntKind.i64 ((0 : Int) - (0 : Int)))))) ≤ LIM))) then (some ((), ((List.take (Int.toNat (0 : Int)) (List.replicate (Int.toNat (Go.IntKind.wrap Go.IntKind.i64 (x1 - (Go.IntKind.wrap Go.IntKind.i64 ((0 : Int) - (0 : Int)))))) (0 : Int))), ())))
  else none)
  else (some ((), (([] : List Int), ())))))
def F162 (x : ((Unit × (Int × Unit)) × Unit)) : Option (Unit × ((List Int) × Unit)) := G162 KF x.1.2.1
def t162 : Nat → Option CallE := tabOf []
theorem t162_ok : TabOk Try.prog t162 := tabOf_ok _ trivial
def i162 : Nat → Option CallI := tabIOf []
theorem i162_ok : TabIOk Try.prog i162 := tabIOf_ok _ trivial
def c162 : Cfg := ⟨liveTab [], modeTab []⟩
noncomputable def b162 : Code := Try.f162.body.getD .skip
def lp162 {R : Type} (n : Nat) : Lp R := lpTab []
theorem F162_eq (n : Nat) (x : p162.vals × obVals o162) : evFI ⟨D, t162, i162⟩ c162 (lp162 n) Try.f162 [(0, .own)] [] (p162.mk x.1) (obMk o162 x.2) (get2 q162 oo162) = G162 n x.1.2.1 := by kernel_rfl
theorem F162_ok (x : p162.vals × obVals o162) (y : q162.vals × obVals oo162) (h : F162 x = some y) : SoundI Try.prog 162 (p162.mk x.1) (obMk o162 x.2) (q162.mk y.1) (obMk oo162 y.2) :=
  evFI_sound hm hD ⟨t162_ok, i162_ok⟩ Try.func162 (c := b162) (by kernel_rfl) (by kernel_rfl) (fun v ob hv => get2_mk hv)
    (forall_loops _ [] (by kernel_rfl) trivial) ((F162_eq KF x).trans h)
def e162 : CallI := entryI [some (.int .u8), none] [true] p162 o162 q162 oo162 F162
theorem e162_ok : FunIOk Try.prog 162 e162 := ⟨enters_of Try.func162 (by kernel_rfl) (c := b162) (by kernel_rfl), fun args obs y hy => entryI_ok F162_ok args obs y hy⟩

/-! ### 151: slices.Concat[[]uint8,uint8] -/
def p151 : PL := (.cons (.sl true (.slice (.int .u8))) .nil)
def q151 : PV := (.row 2000000)
def o151 : List (Nat × PO) := []
def oo151 : List (Nat × PO) := [(2000000, (.row 5 (.int .u8) false))]
def sp151_2 : SP := ⟨[(6, (.row 252000000)), (25, (.sl true (.slice (.int .u8)))), (26, (.int .i64)), (27, (.int .i64))], [(252000000, (.row 5 (.int .u8) false))]⟩
def F151_2 {R : Type} (n : Nat) (k2_0 : (List Int) → Option R) (rec_2 : (List (List Int)) → Int → Int → (List Int) → Option R) (x25 : (List (List Int))) (x26 : Int) (x27 : Int) (r252000000 : (List Int)) : Option R :=
  (bif (decide (x27 < x26)) then ((idxL x25 x27)).bind fun e4 =>
  (bif (decide ((r252000000.length + e4.length) ≤ LIM)) then (rec_2 (x25) (x26) ((Go.IntKind.wrap Go.IntKind.i64 (x27 + (1 : Int)))) ((r252000000 ++ e4)))
  else none)
  else (k2_0 (r252000000)))
def l151_2 {R : Type} (n : Nat) (k2_0 : (List Int) → Option R) : Nat → (List (List Int)) → Int → Int → (List Int) → Option R
  | 0, _, _, _, _ => none
  | k + 1, x25, x26, x27, r252000000 => F151_2 n k2_0 (l151_2 n k2_0 k) x25 x26 x27 r252000000
def sp151_0 : SP := ⟨[(0, (.sl true (.slice (.int .u8)))), (3, (.int .i64)), (9, (.sl true (.slice (.int .u8)))), (10, (.int .i64)), (11, (.int .i64))], []⟩
def F151_0 {R : Type} (n : Nat) (k0_0 : (List (List Int)) → Int → Option R) (rec_0 : (List (List Int)) → Int → (List (List Int)) → Int → Int → Option R) (x0 : (List (List Int))) (x3 : Int) (x9 : (List (List Int))) (x10 : Int) (x11 : Int) : Option R :=
  (bif (decide (x11 < x10)) then ((idxL x9 x11)).bind fun e0 =>
  (bif (decide ((Go.IntKind.wrap Go.IntKind.i64 (x3 + ((e0.length : Nat) : Int))) < (0 : Int))) then none
  else (rec_0 (x0) ((Go.IntKind.wrap Go.IntKind.i64 (x3 + ((e0.length : Nat) : Int)))) (x9) (x10) ((Go.IntKind.wrap Go.IntKind.i64 (x11 + (1 : Int))))))
  else (k0_0 (x0) (x3)))
def l151_0 {R : Type} (n : Nat) (k0_0 : (List (List Int)) → Int → Option R) : Nat → (List (List Int)) → Int → (List (List Int)) → Int → Int → Option R
  | 0, _, _, _, _, _ => none
  | k + 1, x0, x3, x9, x10, x11 => F151_0 n k0_0 (l151_0 n k0_0 k) x0 x3 x9 x10 x11
def G151 (n : Nat) (x0 : (List (List Int))) : Option (Unit × ((List Int) × Unit)) :=
  (l151_0 n (fun v1 v2 =>
  (F162 (((), (v2, ())), ())).bind fun (y3 : Unit × ((List Int) × Unit)) =>
  (l151_2 n (fun v5 =>
  (some ((), (v5, ())))) n (v1) (((v1.length : Nat) : Int)) ((0 : Int)) (y3.2.1))) n (x0) ((0 : Int)) (x0) (((x0.length : Nat) : Int)) ((0 : Int)))
def F151 (x : (((List (List Int)) × Unit) × Unit)) : Option (Unit × ((List Int) × Unit)) := G151 KF x.1.1
def t151 : Nat → Option CallE := tabOf []
theorem t151_ok : TabOk Try.prog t151 := tabOf_ok _ trivial
def i151 : Nat → Option CallI := tabIOf [(162, e162)]
theorem i151_ok : TabIOk Try.prog i151 := tabIOf_ok _ ⟨e162_ok, trivial⟩
def c151 : Cfg := ⟨liveTab [(0, ⟨[(0, .keep), (3, .keep), (9, .keep), (10, .keep), (11, .keep)], [], [0, 3], [], []⟩), (2, ⟨[(6, .keep), (25, .keep), (26, .keep), (27, .keep)], [252000000], [6], [252000000], []⟩)], modeTab []⟩
noncomputable def b151 : Code := Try.f151.body.getD .skip
def lp151 {R : Type} (n : Nat) : Lp R := lpTab [(2, viaSP sp151_2 fun x K => l151_2 n (fun v0 => K (.exit 2) ⟨[.set 6 (.row 252000000)], [.set 252000000 (.row 5 (.int .u8) v0 false)]⟩) n x.1.2.1 x.1.2.2.1 x.1.2.2.2.1 x.2.1), (0, viaSP sp151_0 fun x K => l151_0 n (fun v0 v1 => K (.exit 0) ⟨[.set 0 (.sl true (.slice (.int .u8)) v0), .set 3 (.int .i64 v1)], []⟩) n x.1.1 x.1.2.1 x.1.2.2.1 x.1.2.2.2.1 x.1.2.2.2.2.1)]
noncomputable def b151_0 : Code := ((loopsIn b151 0).getD 0 (0, .skip)).2
theorem l151_0_step {R : Type} (n k : Nat) (x : sp151_0.vals) (K : Ex → St → Option R) : evL (fun s K => evC ⟨D, t151, i151⟩ c151 (lp151 n) b151_0 0 s K) (c151.live 0).head (c151.live 0).leave (k + 1) (sp151_0.mk' x) K = F151_0 n (fun v0 v1 => K (.exit 0) ⟨[.set 0 (.sl true (.slice (.int .u8)) v0), .set 3 (.int .i64 v1)], []⟩) (fun w0 w1 w2 w3 w4 => evL (fun s K => evC ⟨D, t151, i151⟩ c151 (lp151 n) b151_0 0 s K) (c151.live 0).head (c151.live 0).leave k (sp151_0.mk' ((w0, (w1, (w2, (w3, (w4, ()))))), ())) K) x.1.1 x.1.2.1 x.1.2.2.1 x.1.2.2.2.1 x.1.2.2.2.2.1 := by kernel_rfl
theorem l151_0_ok {R : Type} (n : Nat) : ∀ (k : Nat) (x : sp151_0.vals) (K : Ex → St → Option R), evL (fun s K => evC ⟨D, t151, i151⟩ c151 (lp151 n) b151_0 0 s K) (c151.live 0).head (c151.live 0).leave k (sp151_0.mk' x) K = l151_0 n (fun v0 v1 => K (.exit 0) ⟨[.set 0 (.sl true (.slice (.int .u8)) v0), .set 3 (.int .i64 v1)], []⟩) k x.1.1 x.1.2.1 x.1.2.2.1 x.1.2.2.2.1 x.1.2.2.2.2.1
  | 0, _, _ => rfl
  | k + 1, x, K => (l151_0_step n k x K).trans (congrArg (fun rec => F151_0 n (fun v0 v1 => K (.exit 0) ⟨[.set 0 (.sl true (.slice (.int .u8)) v0), .set 3 (.int .i64 v1)], []⟩) rec x.1.1 x.1.2.1 x.1.2.2.1 x.1.2.2.2.1 x.1.2.2.2.2.1) (by funext w0 w1 w2 w3 w4; exact l151_0_ok n k ((w0, (w1, (w2, (w3, (w4, ()))))), ()) K))
noncomputable def b151_1 : Code := ((loopsIn b151 0).getD 1 (0, .skip)).2
theorem l151_2_step {R : Type} (n k : Nat) (x : sp151_2.vals) (K : Ex → St → Option R) : evL (fun s K => evC ⟨D, t151, i151⟩ c151 (lp151 n) b151_1 2 s K) (c151.live 2).head (c151.live 2).leave (k + 1) (sp151_2.mk' x) K = F151_2 n (fun v0 => K (.exit 2) ⟨[.set 6 (.row 252000000)], [.set 252000000 (.row 5 (.int .u8) v0 false)]⟩) (fun w0 w1 w2 w3 => evL (fun s K => evC ⟨D, t151, i151⟩ c151 (lp151 n) b151_1 2 s K) (c151.live 2).head (c151.live 2).leave k (sp151_2.mk' (((), (w0, (w1, (w2, ())))), (w3, ()))) K) x.1.2.1 x.1.2.2.1 x.1.2.2.2.1 x.2.1 := by kernel_rfl
theorem l151_2_ok {R : Type} (n : Nat) : ∀ (k : Nat) (x : sp151_2.vals) (K : Ex → St → Option R), evL (fun s K => evC ⟨D, t151, i151⟩ c151 (lp151 n) b151_1 2 s K) (c151.live 2).head (c151.live 2).leave k (sp151_2.mk' x) K = l151_2 n (fun v0 => K (.exit 2) ⟨[.set 6 (.row 252000000)], [.set 252000000 (.row 5 (.int .u8) v0 false)]⟩) k x.1.2.1 x.1.2.2.1 x.1.2.2.2.1 x.2.1
  | 0, _, _ => rfl
  | k + 1, x, K => (l151_2_step n k x K).trans (congrArg (fun rec => F151_2 n (fun v0 => K (.exit 2) ⟨[.set 6 (.row 252000000)], [.set 252000000 (.row 5 (.int .u8) v0 false)]⟩) rec x.1.2.1 x.1.2.2.1 x.1.2.2.2.1 x.2.1) (by funext w0 w1 w2 w3; exact l151_2_ok n k (((), (w0, (w1, (w2, ())))), (w3, ())) K))
theorem F151_eq (n : Nat) (x : p151.vals × obVals o151) : evFI ⟨D, t151, i151⟩ c151 (lp151 n) Try.f151 [(0, .own)] [] (p151.mk x.1) (obMk o151 x.2) (get2 q151 oo151) = G151 n x.1.1 := by kernel_rfl
theorem F151_ok (x : p151.vals × obVals o151) (y : q151.vals × obVals oo151) (h : F151 x = some y) : SoundI Try.prog 151 (p151.mk x.1) (obMk o151 x.2) (q151.mk y.1) (obMk oo151 y.2) :=
  evFI_sound hm hD ⟨t151_ok, i151_ok⟩ Try.func151 (c := b151) (by kernel_rfl) (by kernel_rfl) (fun v ob hv => get2_mk hv)
    (forall_loops _ [(0, b151_0), (2, b151_1)] (by kernel_rfl) ⟨fun s K r h => viaSP_good (p := sp151_0) (l151_0_ok KF KF) s K r h, ⟨fun s K r h => viaSP_good (p := sp151_2) (l151_2_ok KF KF) s K r h, trivial⟩⟩) ((F151_eq KF x).trans h)
def e151 : CallI := entryI [some (.slice (.int .u8))] [] p151 o151 q151 oo151 F151
theorem e151_ok : FunIOk Try.prog 151 e151 := ⟨enters_of Try.func151 (by kernel_rfl) (c := b151) (by kernel_rfl), fun args obs y hy => entryI_ok F151_ok args obs y hy⟩

/-! ### 164: spiritlevel/ternary.check$1 -/
def p164 : PL := (.cons (.int .u8) .nil)
def q164 : PV := .bool
def G164 (n : Nat) (x0 : Int) : Option Bool :=
  (some (decide (x0 > (2 : Int))))
def F164 (x : (Int × Unit)) : Option Bool := G164 KF x.1
def t164 : Nat → Option CallE := tabOf []
theorem t164_ok : TabOk Try.prog t164 := tabOf_ok _ trivial
def i164 : Nat → Option CallI := tabIOf []
theorem i164_ok : TabIOk Try.prog i164 := tabIOf_ok _ trivial
def c164 : Cfg := ⟨liveTab [], modeTab []⟩
noncomputable def b164 : Code := Try.f164.body.getD .skip
def lp164 {R : Type} (n : Nat) : Lp R := lpTab []
theorem F164_eq (n : Nat) (x : p164.vals) : evF ⟨D, t164, i164⟩ c164 (lp164 n) Try.f164 (p164.mk x) q164.get = G164 n x.1 := by kernel_rfl
theorem F164_ok (x : p164.vals) (y : q164.vals) (h : F164 x = some y) : Sound Try.prog 164 (p164.mk x) (q164.mk y) :=
  evF_sound hm hD ⟨t164_ok, i164_ok⟩ Try.func164 (c := b164) (by kernel_rfl) (by kernel_rfl) (fun v hv => PV.get_mk _ _ _ hv)
    (forall_loops _ [] (by kernel_rfl) trivial) ((F164_eq KF x).trans h)
def e164 : CallE := entry [none] p164 q164 F164
theorem e164_ok : FunOk Try.prog 164 e164 := ⟨enters_of Try.func164 (by kernel_rfl) (c := b164) (by kernel_rfl), fun args y hy => entry_ok F164_ok args y hy⟩

/-! ### 169: slices.IndexFunc[[]uint8,uint8] -/
def p169 : PL := (.cons (.sl true (.int .u8)) (.cons (.fn 164 .nil) .nil))
def q169 : PV := (.int .i64)
def sp169_0 : SP := ⟨[(0, (.sl true (.int .u8))), (1, (.fn 164 .nil)), (7, (.int .i64)), (8, (.int .i64))], []⟩
def F169_0 {R : Type} (n : Nat) (k0_0 : Int → Option R) (k0_1 : Option R) (rec_0 : (List Int) → Int → Int → Option R) (x0 : (List Int)) (x7 : Int) (x8 : Int) : Option R :=
  (bif (decide (x8 < x7)) then ((idxL x0 x8)).bind fun e0 =>
  (F164 (e0, ())).bind fun (y1 : Bool) =>
  (bif y1 then (k0_0 (x8))
  else (rec_0 (x0) (x7) ((Go.IntKind.wrap Go.IntKind.i64 (x8 + (1 : Int))))))
  else (k0_1 ))
def l169_0 {R : Type} (n : Nat) (k0_0 : Int → Option R) (k0_1 : Option R) : Nat → (List Int) → Int → Int → Option R
  | 0, _, _, _ => none
  | k + 1, x0, x7, x8 => F169_0 n k0_0 k0_1 (l169_0 n k0_0 k0_1 k) x0 x7 x8
def G169 (n : Nat) (x0 : (List Int)) : Option Int :=
  (l169_0 n (fun v2 =>
  (some v2)) ((some (@Neg.neg Int Int.instNegInt (1 : Int)))) n (x0) (((x0.length : Nat) : Int)) ((0 : Int)))
def F169 (x : ((List Int) × (Unit × Unit))) : Option Int := G169 KF x.1
def t169 : Nat → Option CallE := tabOf [(164, e164)]
theorem t169_ok : TabOk Try.prog t169 := tabOf_ok _ ⟨e164_ok, trivial⟩
def i169 : Nat → Option CallI := tabIOf []
theorem i169_ok : TabIOk Try.prog i169 := tabIOf_ok _ trivial
def c169 : Cfg := ⟨liveTab [(0, ⟨[(0, .keep), (1, .keep), (7, .keep), (8, .keep)], [], [4], [], []⟩)], modeTab []⟩
noncomputable def b169 : Code := Try.f169.body.getD .skip
def lp169 {R : Type} (n : Nat) : Lp R := lpTab [(0, viaSP sp169_0 fun x K => l169_0 n (fun v0 => K (.ret) ⟨[.set 4 (.int .i64 v0)], []⟩) (K (.exit 0) ⟨[.set 4 (.top)], []⟩) n x.1.1 x.1.2.2.1 x.1.2.2.2.1)]
noncomputable def b169_0 : Code := ((loopsIn b169 0).getD 0 (0, .skip)).2
theorem l169_0_step {R : Type} (n k : Nat) (x : sp169_0.vals) (K : Ex → St → Option R) : evL (fun s K => evC ⟨D, t169, i169⟩ c169 (lp169 n) b169_0 0 s K) (c169.live 0).head (c169.live 0).leave (k + 1) (sp169_0.mk' x) K = F169_0 n (fun v0 => K (.ret) ⟨[.set 4 (.int .i64 v0)], []⟩) (K (.exit 0) ⟨[.set 4 (.top)], []⟩) (fun w0 w1 w2 => evL (fun s K => evC ⟨D, t169, i169⟩ c169 (lp169 n) b169_0 0 s K) (c169.live 0).head (c169.live 0).leave k (sp169_0.mk' ((w0, ((), (w1, (w2, ())))), ())) K) x.1.1 x.1.2.2.1 x.1.2.2.2.1 := by kernel_rfl
theorem l169_0_ok {R : Type} (n : Nat) : ∀ (k : Nat) (x : sp169_0.vals) (K : Ex → St → Option R), evL (fun s K => evC ⟨D, t169, i169⟩ c169 (lp169 n) b169_0 0 s K) (c169.live 0).head (c169.live 0).leave k (sp169_0.mk' x) K = l169_0 n (fun v0 => K (.ret) ⟨[.set 4 (.int .i64 v0)], []⟩) (K (.exit 0) ⟨[.set 4 (.top)], []⟩) k x.1.1 x.1.2.2.1 x.1.2.2.2.1
  | 0, _, _ => rfl
  | k + 1, x, K => (l169_0_step n k x K).trans (congrArg (fun rec => F169_0 n (fun v0 => K (.ret) ⟨[.set 4 (.int .i64 v0)], []⟩) (K (.exit 0) ⟨[.set 4 (.top)], []⟩) rec x.1.1 x.1.2.2.1 x.1.2.2.2.1) (by funext w0 w1 w2; exact l169_0_ok n k ((w0, ((), (w1, (w2, ())))), ()) K))
theorem F169_eq (n : Nat) (x : p169.vals) : evF ⟨D, t169, i169⟩ c169 (lp169 n) Try.f169 (p169.mk x) q169.get = G169 n x.1 := by kernel_rfl
theorem F169_ok (x : p169.vals) (y : q169.vals) (h : F169 x = some y) : Sound Try.prog 169 (p169.mk x) (q169.mk y) :=
  evF_sound hm hD ⟨t169_ok, i169_ok⟩ Try.func169 (c := b169) (by kernel_rfl) (by kernel_rfl) (fun v hv => PV.get_mk _ _ _ hv)
    (forall_loops _ [(0, b169_0)] (by kernel_rfl) ⟨fun s K r h => viaSP_good (p := sp169_0) (l169_0_ok KF KF) s K r h, trivial⟩) ((F169_eq KF x).trans h)
def e169 : CallE := entry [some (.int .u8), none] p169 q169 F169
theorem e169_ok : FunOk Try.prog 169 e169 := ⟨enters_of Try.func169 (by kernel_rfl) (c := b169) (by kernel_rfl), fun args y hy => entry_ok F169_ok args y hy⟩

/-! ### 163: slices.ContainsFunc[[]uint8,uint8] -/
def p163 : PL := (.cons (.sl true (.int .u8)) (.cons (.fn 164 .nil) .nil))
def q163 : PV := .bool
def G163 (n : Nat) (x0 : (List Int)) : Option Bool :=
  (F169 (x0, ((), ()))).bind fun (y0 : Int) =>
  (some (decide (y0 ≥ (0 : Int))))
def F163 (x : ((List Int) × (Unit × Unit))) : Option Bool := G163 KF x.1
def t163 : Nat → Option CallE := tabOf [(169, e169)]
theorem t163_ok : TabOk Try.prog t163 := tabOf_ok _ ⟨e169_ok, trivial⟩
def i163 : Nat → Option CallI := tabIOf []
theorem i163_ok : TabIOk Try.prog i163 := tabIOf_ok _ trivial
def c163 : Cfg := ⟨liveTab [], modeTab []⟩
noncomputable def b163 : Code := Try.f163.body.getD .skip
def lp163 {R : Type} (n : Nat) : Lp R := lpTab []
theorem F163_eq (n : Nat) (x : p163.vals) : evF ⟨D, t163, i163⟩ c163 (lp163 n) Try.f163 (p163.mk x) q163.get = G163 n x.1 := by kernel_rfl
theorem F163_ok (x : p163.vals) (y : q163.vals) (h : F163 x = some y) : Sound Try.prog 163 (p163.mk x) (q163.mk y) :=
  evF_sound hm hD ⟨t163_ok, i163_ok⟩ Try.func163 (c := b163) (by kernel_rfl) (by kernel_rfl) (fun v hv => PV.get_mk _ _ _ hv)
    (forall_loops _ [] (by kernel_rfl) trivial) ((F163_eq KF x).trans h)
def e163 : CallE := entry [some (.int .u8), none] p163 q163 F163
theorem e163_ok : FunOk Try.prog 163 e163 := ⟨enters_of Try.func163 (by kernel_rfl) (c := b163) (by kernel_rfl), fun args y hy => entry_ok F163_ok args y hy⟩

/-! ### 152: spiritlevel/ternary.check -/
def p152 : PL := (.cons (.sl true (.int .u8)) .nil)
def q152 : PV := (.int .i64)
def G152 (n : Nat) (x0 : (List Int)) : Option Int :=
  (F163 (x0, ((), ()))).bind fun (y0 : Bool) =>
  (bif y0 then (some (8 : Int))
  else (some (0 : Int)))
def F152 (x : ((List Int) × Unit)) : Option Int := G152 KF x.1
def t152 : Nat → Option CallE := tabOf [(163, e163)]
theorem t152_ok : TabOk Try.prog t152 := tabOf_ok _ ⟨e163_ok, trivial⟩
def i152 : Nat → Option CallI := tabIOf []
theorem i152_ok : TabIOk Try.prog i152 := tabIOf_ok _ trivial
def c152 : Cfg := ⟨liveTab [], modeTab []⟩
noncomputable def b152 : Code := Try.f152.body.getD .skip
def lp152 {R : Type} (n : Nat) : Lp R := lpTab []
theorem F152_eq (n : Nat) (x : p152.vals) : evF ⟨D, t152, i152⟩ c152 (lp152 n) Try.f152 (p152.mk x) q152.get = G152 n x.1 := by kernel_rfl
theorem F152_ok (x : p152.vals) (y : q152.vals) (h : F152 x = some y) : Sound Try.prog 152 (p152.mk x) (q152.mk y) :=
  evF_sound hm hD ⟨t152_ok, i152_ok⟩ Try.func152 (c := b152) (by kernel_rfl) (by kernel_rfl) (fun v hv => PV.get_mk _ _ _ hv)
    (forall_loops _ [] (by kernel_rfl) trivial) ((F152_eq KF x).trans h)
def e152 : CallE := entry [some (.int .u8)] p152 q152 F152
theorem e152_ok : FunOk Try.prog 152 e152 := ⟨enters_of Try.func152 (by kernel_rfl) (c := b152) (by kernel_rfl), fun args y hy => entry_ok F152_ok args y hy⟩

/-! ### 165: spiritlevel/ternary.not -/
def p165 : PL := (.cons (.int .u8) .nil)
def q165 : PV := (.int .u8)
def G165 (n : Nat) (x0 : Int) : Option Int :=
  (bif (x0 != (2 : Int)) then (some (bitI Go.BinOp.xor Go.IntKind.u8 x0 (1 : Int)))
  else (some x0))
def F165 (x : (Int × Unit)) : Option Int := G165 KF x.1
def t165 : Nat → Option CallE := tabOf []
theorem t165_ok : TabOk Try.prog t165 := tabOf_ok _ trivial
def i165 : Nat → Option CallI := tabIOf []
theorem i165_ok : TabIOk Try.prog i165 := tabIOf_ok _ trivial
def c165 : Cfg := ⟨liveTab [], modeTab []⟩
noncomputable def b165 : Code := Try.f165.body.getD .skip
def lp165 {R : Type} (n : Nat) : Lp R := lpTab []
theorem F165_eq (n : Nat) (x : p165.vals) : evF ⟨D, t165, i165⟩ c165 (lp165 n) Try.f165 (p165.mk x) q165.get = G165 n x.1 := by kernel_rfl
theorem F165_ok (x : p165.vals) (y : q165.vals) (h : F165 x = some y) : Sound Try.prog 165 (p165.mk x) (q165.mk y) :=
  evF_sound hm hD ⟨t165_ok, i165_ok⟩ Try.func165 (c := b165) (by kernel_rfl) (by kernel_rfl) (fun v hv => PV.get_mk _ _ _ hv)
    (forall_loops _ [] (by kernel_rfl) trivial) ((F165_eq KF x).trans h)
def e165 : CallE := entry [none] p165 q165 F165
theorem e165_ok : FunOk Try.prog 165 e165 := ⟨enters_of Try.func165 (by kernel_rfl) (c := b165) (by kernel_rfl), fun args y hy => entry_ok F165_ok args y hy⟩

/-! ### 154: spiritlevel/ternary.of -/
def p154 : PL := (.cons (.sl true (.int .u8)) (.cons (.int .i64) .nil))
def q154 : PV := (.int .u8)
def G154 (n : Nat) (x0 : (List Int)) (x1 : Int) : Option Int :=
  (bif ((bitI Go.BinOp.and Go.IntKind.i64 x1 (1 : Int)) == (1 : Int)) then ((idxL x0 (Int.fdiv x1 ((2 : Int) ^ (@Min.min Nat instMinNat (Int.toNat (1 : Int)) (Go.IntKind.bits Go.IntKind.i64)))))).bind fun e0 =>
  (F165 (e0, ())).bind fun (y1 : Int) =>
  (some y1)
  else ((idxL x0 (Int.fdiv x1 ((2 : Int) ^ (@Min.min Nat instMinNat (Int.toNat (1 : Int)) (Go.IntKind.bits Go.IntKind.i64)))))).bind fun e2 =>
  (some e2))
def F154 (x : ((List Int) × (Int × Unit))) : Option Int := G154 KF x.1 x.2.1
def t154 : Nat → Option CallE := tabOf [(165, e165)]
theorem t154_ok : TabOk Try.prog t154 := tabOf_ok _ ⟨e165_ok, trivial⟩
def i154 : Nat → Option CallI := tabIOf []
theorem i154_ok : TabIOk Try.prog i154 := tabIOf_ok _ trivial
def c154 : Cfg := ⟨liveTab [], modeTab []⟩
noncomputable def b154 : Code := Try.f154.body.getD .skip
def lp154 {R : Type} (n : Nat) : Lp R := lpTab []
theorem F154_eq (n : Nat) (x : p154.vals) : evF ⟨D, t154, i154⟩ c154 (lp154 n) Try.f154 (p154.mk x) q154.get = G154 n x.1 x.2.1 := by kernel_rfl
theorem F154_ok (x : p154.vals) (y : q154.vals) (h : F154 x = some y) : Sound Try.prog 154 (p154.mk x) (q154.mk y) :=
  evF_sound hm hD ⟨t154_ok, i154_ok⟩ Try.func154 (c := b154) (by kernel_rfl) (by kernel_rfl) (fun v hv => PV.get_mk _ _ _ hv)
    (forall_loops _ [] (by kernel_rfl) trivial) ((F154_eq KF x).trans h)
def e154 : CallE := entry [some (.int .u8), none] p154 q154 F154
theorem e154_ok : FunOk Try.prog 154 e154 := ⟨enters_of Try.func154 (by kernel_rfl) (c := b154) (by kernel_rfl), fun args y hy => entry_ok F154_ok args y hy⟩

/-! ### 153: spiritlevel/ternary.and -/
def p153 : PL := (.cons (.int .u8) (.cons (.int .u8) .nil))
def q153 : PV := (.int .u8)
def G153 (n : Nat) (x0 : Int) (x1 : Int) : Option Int :=
  ((bif (x0 == (0 : Int)) then (some Bool.true)
  else (some (bif Bool.false then Bool.true else (x1 == (0 : Int)))))).bind fun e0 =>
  (bif e0 then (some (0 : Int))
  else ((bif (x0 == (2 : Int)) then (some Bool.true)
  else (some (bif Bool.false then Bool.true else (x1 == (2 : Int)))))).bind fun e1 =>
  (bif e1 then (some (2 : Int))
  else (some (1 : Int))))
def F153 (x : (Int × (Int × Unit))) : Option Int := G153 KF x.1 x.2.1
def t153 : Nat → Option CallE := tabOf []
theorem t153_ok : TabOk Try.prog t153 := tabOf_ok _ trivial
def i153 : Nat → Option CallI := tabIOf []
theorem i153_ok : TabIOk Try.prog i153 := tabIOf_ok _ trivial
def c153 : Cfg := ⟨liveTab [], modeTab [(1, .one 5), (3, .one 12)]⟩
noncomputable def b153 : Code := Try.f153.body.getD .skip
def lp153 {R : Type} (n : Nat) : Lp R := lpTab []
theorem F153_eq (n : Nat) (x : p153.vals) : evF ⟨D, t153, i153⟩ c153 (lp153 n) Try.f153 (p153.mk x) q153.get = G153 n x.1 x.2.1 := by kernel_rfl
theorem F153_ok (x : p153.vals) (y : q153.vals) (h : F153 x = some y) : Sound Try.prog 153 (p153.mk x) (q153.mk y) :=
  evF_sound hm hD ⟨t153_ok, i153_ok⟩ Try.func153 (c := b153) (by kernel_rfl) (by kernel_rfl) (fun v hv => PV.get_mk _ _ _ hv)
    (forall_loops _ [] (by kernel_rfl) trivial) ((F153_eq KF x).trans h)
def e153 : CallE := entry [none, none] p153 q153 F153
theorem e153_ok : FunOk Try.prog 153 e153 := ⟨enters_of Try.func153 (by kernel_rfl) (c := b153) (by kernel_rfl), fun args y hy => entry_ok F153_ok args y hy⟩

/-! ### 133: spiritlevel/ternary.All -/
def p133 : PL := (.cons (.agg (.cons (.int .i64) (.cons (.sl true (.pair (.int .i64) (.int .i64))) (.cons (.sl true (.pair (.int .i64) (.int .i64))) (.cons (.sl true (.int .i64)) (.cons (.sl true (.int .i64)) .nil)))))) (.cons (.sl true (.int .u8)) (.cons (.sl true (.int .u8)) .nil)))
def q133 : PV := (.tup (.cons (.sl false (.int .u8)) (.cons (.int .i64) .nil)))
def sp133_0 : SP := ⟨[(9, (.row 362000000)), (42, (.sl true (.pair (.int .i64) (.int .i64)))), (43, (.int .i64)), (44, (.int .i64))], [(362000000, (.row 5 (.int .u8) false))]⟩
def F133_0 {R : Type} (n : Nat) (k0_0 : (List Int) → Option R) (rec_0 : (List (Int × Int)) → Int → Int → (List Int) → Option R) (x42 : (List (Int × Int))) (x43 : Int) (x44 : Int) (r362000000 : (List Int)) : Option R :=
  (bif (decide (x44 < x43)) then ((idxL x42 x44)).bind fun e4 =>
  (F154 (r362000000, (e4.1, ()))).bind fun (y5 : Int) =>
  (F154 (r362000000, (e4.2, ()))).bind fun (y6 : Int) =>
  (F153 (y5, (y6, ()))).bind fun (y7 : Int) =>
  (bif (decide ((r362000000.length + (y7 :: ([] : List Int)).length) ≤ LIM)) then (rec_0 (x42) (x43) ((Go.IntKind.wrap Go.IntKind.i64 (x44 + (1 : Int)))) ((r362000000 ++ (y7 :: ([] : List Int)))))
  else none)
  else (k0_0 (r362000000)))
def l133_0 {R : Type} (n : Nat) (k0_0 : (List Int) → Option R) : Nat → (List (Int × Int)) → Int → Int → (List Int) → Option R
  | 0, _, _, _, _ => none
  | k + 1, x42, x43, x44, r362000000 => F133_0 n k0_0 (l133_0 n k0_0 k) x42 x43 x44 r362000000
def G133 (n : Nat) (x0_0 : Int) (x0_1 : (List (Int × Int))) (x0_2 : (List (Int × Int))) (x0_3 : (List Int)) (x0_4 : (List Int)) (x1 : (List Int)) (x2 : (List Int)) : Option ((List Int) × (Int × Unit)) :=
  (F66 ((x0_0, (x0_1, (x0_2, (x0_3, (x0_4, ()))))), ())).bind fun (y0 : Int) =>
  (bif (y0 != (0 : Int)) then (some (([] : List Int), (y0, ())))
  else ((bif (((x1.length : Nat) : Int) != ((x0_1.length : Nat) : Int)) then (some Bool.true)
  else (some (bif Bool.false then Bool.true else (((x2.length : Nat) : Int) != x0_0))))).bind fun e1 =>
  (bif e1 then (some (([] : List Int), ((2 : Int), ())))
  else (F151 (((((0 : Int) :: ([] : List Int)) :: (x2 :: (x1 :: ([] : List (List Int))))), ()), ())).bind fun (y2 : Unit × ((List Int) × Unit)) =>
  (F152 (y2.2.1, ())).bind fun (y3 : Int) =>
  (bif (y3 != (0 : Int)) then (some (([] : List Int), (y3, ())))
  else (l133_0 n (fun v8 =>
  (some (v8, ((0 : Int), ())))) n (x0_2) (((x0_2.length : Nat) : Int)) ((0 : Int)) (y2.2.1)))))
def F133 (x : ((Int × ((List (Int × Int)) × ((List (Int × Int)) × ((List Int) × ((List Int) × Unit))))) × ((List Int) × ((List Int) × Unit)))) : Option ((List Int) × (Int × Unit)) := G133 KF x.1.1 x.1.2.1 x.1.2.2.1 x.1.2.2.2.1 x.1.2.2.2.2.1 x.2.1 x.2.2.1
def t133 : Nat → Option CallE := tabOf [(153, e153), (154, e154), (152, e152), (66, e66)]
theorem t133_ok : TabOk Try.prog t133 := tabOf_ok _ ⟨e153_ok, ⟨e154_ok, ⟨e152_ok, ⟨e66_ok, trivial⟩⟩⟩⟩
def i133 : Nat → Option CallI := tabIOf [(151, e151)]
theorem i133_ok : TabIOk Try.prog i133 := tabIOf_ok _ ⟨e151_ok, trivial⟩
def c133 : Cfg := ⟨liveTab [(0, ⟨[(9, .keep), (42, .keep), (43, .keep), (44, .keep)], [362000000], [9], [362000000], []⟩)], modeTab [(4, .one 30), (6, .any [4]), (13, .any [11])]⟩
noncomputable def b133 : Code := Try.f133.body.getD .skip
def lp133 {R : Type} (n : Nat) : Lp R := lpTab [(0, viaSP sp133_0 fun x K => l133_0 n (fun v0 => K (.exit 0) ⟨[.set 9 (.row 362000000)], [.set 362000000 (.row 5 (.int .u8) v0 false)]⟩) n x.1.2.1 x.1.2.2.1 x.1.2.2.2.1 x.2.1)]
noncomputable def b133_0 : Code := ((loopsIn b133 0).getD 0 (0, .skip)).2
theorem l133_0_step {R : Type} (n k : Nat) (x : sp133_0.vals) (K : Ex → St → Option R) : evL (fun s K => evC ⟨D, t133, i133⟩ c133 (lp133 n) b133_0 0 s K) (c133.live 0).head (c133.live 0).leave (k + 1) (sp133_0.mk' x) K = F133_0 n (fun v0 => K (.exit 0) ⟨[.set 9 (.row 362000000)], [.set 362000000 (.row 5 (.int .u8) v0 false)]⟩) (fun w0 w1 w2 w3 => evL (fun s K => evC ⟨D, t133, i133⟩ c133 (lp133 n) b133_0 0 s K) (c133.live 0).head (c133.live 0).leave k (sp133_0.mk' (((), (w0, (w1, (w2, ())))), (w3, ()))) K) x.1.2.1 x.1.2.2.1 x.1.2.2.2.1 x.2.1 := by kernel_rfl
theorem l133_0_ok {R : Type} (n : Nat) : ∀ (k : Nat) (x : sp133_0.vals) (K : Ex → St → Option R), evL (fun s K => evC ⟨D, t133, i133⟩ c133 (lp133 n) b133_0 0 s K) (c133.live 0).head (c133.live 0).leave k (sp133_0.mk' x) K = l133_0 n (fun v0 => K (.exit 0) ⟨[.set 9 (.row 362000000)], [.set 362000000 (.row 5 (.int .u8) v0 false)]⟩) k x.1.2.1 x.1.2.2.1 x.1.2.2.2.1 x.2.1
  | 0, _, _ => rfl
  | k + 1, x, K => (l133_0_step n k x K).trans (congrArg (fun rec => F133_0 n (fun v0 => K (.exit 0) ⟨[.set 9 (.row 362000000)], [.set 362000000 (.row 5 (.int .u8) v0 false)]⟩) rec x.1.2.1 x.1.2.2.1 x.1.2.2.2.1 x.2.1) (by funext w0 w1 w2 w3; exact l133_0_ok n k (((), (w0, (w1, (w2, ())))), (w3, ())) K))
theorem F133_eq (n : Nat) (x : p133.vals) : evF ⟨D, t133, i133⟩ c133 (lp133 n) Try.f133 (p133.mk x) q133.get = G133 n x.1.1 x.1.2.1 x.1.2.2.1 x.1.2.2.2.1 x.1.2.2.2.2.1 x.2.1 x.2.2.1 := by kernel_rfl
theorem F133_ok (x : p133.vals) (y : q133.vals) (h : F133 x = some y) : Sound Try.prog 133 (p133.mk x) (q133.mk y) :=
  evF_sound hm hD ⟨t133_ok, i133_ok⟩ Try.func133 (c := b133) (by kernel_rfl) (by kernel_rfl) (fun v hv => PV.get_mk _ _ _ hv)
    (forall_loops _ [(0, b133_0)] (by kernel_rfl) ⟨fun s K r h => viaSP_good (p := sp133_0) (l133_0_ok KF KF) s K r h, trivial⟩) ((F133_eq KF x).trans h)
def e133 : CallE := entry [none, some (.int .u8), some (.int .u8)] p133 q133 F133
theorem e133_ok : FunOk Try.prog 133 e133 := ⟨enters_of Try.func133 (by kernel_rfl) (c := b133) (by kernel_rfl), fun args y hy => entry_ok F133_ok args y hy⟩

/-! ### 134: spiritlevel/ternary.Next -/
def p134 : PL := (.cons (.agg (.cons (.int .i64) (.cons (.sl true (.pair (.int .i64) (.int .i64))) (.cons (.sl true (.pair (.int .i64) (.int .i64))) (.cons (.sl true (.int .i64)) (.cons (.sl true (.int .i64)) .nil)))))) (.cons (.sl true (.int .u8)) (.cons (.sl true (.int .u8)) .nil)))
def q134 : PV := (.tup (.cons (.sl false (.int .u8)) (.cons (.int .i64) .nil)))
def sp134_0 : SP := ⟨[(8, (.sl false (.int .u8))), (10, (.row 9010)), (24, (.sl true (.pair (.int .i64) (.int .i64)))), (25, (.int .i64)), (26, (.int .i64))], [(9010, (.row 5 (.int .u8) false))]⟩
def F134_0 {R : Type} (n : Nat) (k0_0 : (List Int) → Option R) (rec_0 : (List Int) → (List (Int × Int)) → Int → Int → (List Int) → Option R) (x8 : (List Int)) (x24 : (List (Int × Int))) (x25 : Int) (x26 : Int) (r9010 : (List Int)) : Option R :=
  (bif (decide (x26 < x25)) then ((idxL x24 x26)).bind fun e1 =>
  (F154 (x8, (e1.1, ()))).bind fun (y2 : Int) =>
  (bif (decide ((r9010.length + (y2 :: ([] : List Int)).length) ≤ LIM)) then (rec_0 (x8) (x24) (x25) ((Go.IntKind.wrap Go.IntKind.i64 (x26 + (1 : Int)))) ((r9010 ++ (y2 :: ([] : List Int)))))
  else none)
  else (k0_0 (r9010)))
def l134_0 {R : Type} (n : Nat) (k0_0 : (List Int) → Option R) : Nat → (List Int) → (List (Int × Int)) → Int → Int → (List Int) → Option R
  | 0, _, _, _, _, _ => none
  | k + 1, x8, x24, x25, x26, r9010 => F134_0 n k0_0 (l134_0 n k0_0 k) x8 x24 x25 x26 r9010
def G134 (n : Nat) (x0_0 : Int) (x0_1 : (List (Int × Int))) (x0_2 : (List (Int × Int))) (x0_3 : (List Int)) (x0_4 : (List Int)) (x1 : (List Int)) (x2 : (List Int)) : Option ((List Int) × (Int × Unit)) :=
  (F133 ((x0_0, (x0_1, (x0_2, (x0_3, (x0_4, ()))))), (x1, (x2, ())))).bind fun (y0 : ((List Int) × (Int × Unit))) =>
  (bif (y0.2.1 != (0 : Int)) then (some (([] : List Int), (y0.2.1, ())))
  else (l134_0 n (fun v3 =>
  (some (v3, ((0 : Int), ())))) n (y0.1) (x0_1) (((x0_1.length : Nat) : Int)) ((0 : Int)) (([] : List Int))))
def F134 (x : ((Int × ((List (Int × Int)) × ((List (Int × Int)) × ((List Int) × ((List Int) × Unit))))) × ((List Int) × ((List Int) × Unit)))) : Option ((List Int) × (Int × Unit)) := G134 KF x.1.1 x.1.2.1 x.1.2.2.1 x.1.2.2.2.1 x.1.2.2.2.2.1 x.2.1 x.2.2.1
def t134 : Nat → Option CallE := tabOf [(154, e154), (133, e133)]
theorem t134_ok : TabOk Try.prog t134 := tabOf_ok _ ⟨e154_ok, ⟨e133_ok, trivial⟩⟩
def i134 : Nat → Option CallI := tabIOf []
theorem i134_ok : TabIOk Try.prog i134 := tabIOf_ok _ trivial
def c134 : Cfg := ⟨liveTab [(0, ⟨[(8, .keep), (10, .own), (24, .keep), (25, .keep), (26, .keep)], [36, 9010], [10], [9010], []⟩)], modeTab []⟩
noncomputable def b134 : Code := Try.f134.body.getD .skip
def lp134 {R : Type} (n : Nat) : Lp R := lpTab [(0, viaSP sp134_0 fun x K => l134_0 n (fun v0 => K (.exit 0) ⟨[.set 10 (.row 9010)], [.set 9010 (.row 5 (.int .u8) v0 false)]⟩) n x.1.1 x.1.2.2.1 x.1.2.2.2.1 x.1.2.2.2.2.1 x.2.1)]
noncomputable def b134_0 : Code := ((loopsIn b134 0).getD 0 (0, .skip)).2
theorem l134_0_step {R : Type} (n k : Nat) (x : sp134_0.vals) (K : Ex → St → Option R) : evL (fun s K => evC ⟨D, t134, i134⟩ c134 (lp134 n) b134_0 0 s K) (c134.live 0).head (c134.live 0).leave (k + 1) (sp134_0.mk' x) K = F134_0 n (fun v0 => K (.exit 0) ⟨[.set 10 (.row 9010)], [.set 9010 (.row 5 (.int .u8) v0 false)]⟩) (fun w0 w1 w2 w3 w4 => evL (fun s K => evC ⟨D, t134, i134⟩ c134 (lp134 n) b134_0 0 s K) (c134.live 0).head (c134.live 0).leave k (sp134_0.mk' ((w0, ((), (w1, (w2, (w3, ()))))), (w4, ()))) K) x.1.1 x.1.2.2.1 x.1.2.2.2.1 x.1.2.2.2.2.1 x.2.1 := by kernel_rfl
theorem l134_0_ok {R : Type} (n : Nat) : ∀ (k : Nat) (x : sp134_0.vals) (K : Ex → St → Option R), evL (fun s K => evC ⟨D, t134, i134⟩ c134 (lp134 n) b134_0 0 s K) (c134.live 0).head (c134.live 0).leave k (sp134_0.mk' x) K = l134_0 n (fun v0 => K (.exit 0) ⟨[.set 10 (.row 9010)], [.set 9010 (.row 5 (.int .u8) v0 false)]⟩) k x.1.1 x.1.2.2.1 x.1.2.2.2.1 x.1.2.2.2.2.1 x.2.1
  | 0, _, _ => rfl
  | k + 1, x, K => (l134_0_step n k x K).trans (congrArg (fun rec => F134_0 n (fun v0 => K (.exit 0) ⟨[.set 10 (.row 9010)], [.set 9010 (.row 5 (.int .u8) v0 false)]⟩) rec x.1.1 x.1.2.2.1 x.1.2.2.2.1 x.1.2.2.2.2.1 x.2.1) (by funext w0 w1 w2 w3 w4; exact l134_0_ok n k ((w0, ((), (w1, (w2, (w3, ()))))), (w4, ())) K))
theorem F134_eq (n : Nat) (x : p134.vals) : evF ⟨D, t134, i134⟩ c134 (lp134 n) Try.f134 (p134.mk x) q134.get = G134 n x.1.1 x.1.2.1 x.1.2.2.1 x.1.2.2.2.1 x.1.2.2.2.2.1 x.2.1 x.2.2.1 := by kernel_rfl
theorem F134_ok (x : p134.vals) (y : q134.vals) (h : F134 x = some y) : Sound Try.prog 134 (p134.mk x) (q134.mk y) :=
  evF_sound hm hD ⟨t134_ok, i134_ok⟩ Try.func134 (c := b134) (by kernel_rfl) (by kernel_rfl) (fun v hv => PV.get_mk _ _ _ hv)
    (forall_loops _ [(0, b134_0)] (by kernel_rfl) ⟨fun s K r h => viaSP_good (p := sp134_0) (l134_0_ok KF KF) s K r h, trivial⟩) ((F134_eq KF x).trans h)
def e134 : CallE := entry [none, some (.int .u8), some (.int .u8)] p134 q134 F134
theorem e134_ok : FunOk Try.prog 134 e134 := ⟨enters_of Try.func134 (by kernel_rfl) (c := b134) (by kernel_rfl), fun args y hy => entry_ok F134_ok args y hy⟩

/-! ### 98: spiritlevel/shrink.value -/
def p98 : PL := (.cons (.sl true (.int .u8)) (.cons (.int .i64) .nil))
def q98 : PV := (.int .u8)
def G98 (n : Nat) (x0 : (List Int)) (x1 : Int) : Option Int :=
  ((idxL x0 (Go.IntKind.wrap Go.IntKind.i64 (Int.tdiv x1 (2 : Int))))).bind fun e0 =>
  ((bif (e0 != (2 : Int)) then (some (bif Bool.true then ((Int.tmod x1 (2 : Int)) == (1 : Int)) else Bool.false))
  else (some Bool.false))).bind fun e1 =>
  (bif e1 then (some (Go.IntKind.wrap Go.IntKind.u8 ((1 : Int) - e0)))
  else (some e0))
def F98 (x : ((List Int) × (Int × Unit))) : Option Int := G98 KF x.1 x.2.1
def t98 : Nat → Option CallE := tabOf []
theorem t98_ok : TabOk Try.prog t98 := tabOf_ok _ trivial
def i98 : Nat → Option CallI := tabIOf []
theorem i98_ok : TabIOk Try.prog i98 := tabIOf_ok _ trivial
def c98 : Cfg := ⟨liveTab [], modeTab [(2, .one 17)]⟩
noncomputable def b98 : Code := Try.f98.body.getD .skip
def lp98 {R : Type} (n : Nat) : Lp R := lpTab []
theorem F98_eq (n : Nat) (x : p98.vals) : evF ⟨D, t98, i98⟩ c98 (lp98 n) Try.f98 (p98.mk x) q98.get = G98 n x.1 x.2.1 := by kernel_rfl
theorem F98_ok (x : p98.vals) (y : q98.vals) (h : F98 x = some y) : Sound Try.prog 98 (p98.mk x) (q98.mk y) :=
  evF_sound hm hD ⟨t98_ok, i98_ok⟩ Try.func98 (c := b98) (by kernel_rfl) (by kernel_rfl) (fun v hv => PV.get_mk _ _ _ hv)
    (forall_loops _ [] (by kernel_rfl) trivial) ((F98_eq KF x).trans h)
def e98 : CallE := entry [some (.int .u8), none] p98 q98 F98
theorem e98_ok : FunOk Try.prog 98 e98 := ⟨enters_of Try.func98 (by kernel_rfl) (c := b98) (by kernel_rfl), fun args y hy => entry_ok F98_ok args y hy⟩

/-! ### 135: spiritlevel/shrink.made$1$1 -/
def p135 : PL := (.cons (.int .i64) (.cons (.ep (.cons (.sl true (.int .u8)) .nil) 0) .nil))
def q135 : PV := .bool
def G135 (n : Nat) (x0 : Int) (x1 : (List Int)) : Option Bool :=
  (F98 (x1, (x0, ()))).bind fun (y0 : Int) =>
  (some (y0 != (1 : Int)))
def F135 (x : (Int × (((List Int) × Unit) × Unit))) : Option Bool := G135 KF x.1 x.2.1.1
def t135 : Nat → Option CallE := tabOf [(98, e98)]
theorem t135_ok : TabOk Try.prog t135 := tabOf_ok _ ⟨e98_ok, trivial⟩
def i135 : Nat → Option CallI := tabIOf []
theorem i135_ok : TabIOk Try.prog i135 := tabIOf_ok _ trivial
def c135 : Cfg := ⟨liveTab [], modeTab []⟩
noncomputable def b135 : Code := Try.f135.body.getD .skip
def lp135 {R : Type} (n : Nat) : Lp R := lpTab []
theorem F135_eq (n : Nat) (x : p135.vals) : evF ⟨D, t135, i135⟩ c135 (lp135 n) Try.f135 (p135.mk x) q135.get = G135 n x.1 x.2.1.1 := by kernel_rfl
theorem F135_ok (x : p135.vals) (y : q135.vals) (h : F135 x = some y) : Sound Try.prog 135 (p135.mk x) (q135.mk y) :=
  evF_sound hm hD ⟨t135_ok, i135_ok⟩ Try.func135 (c := b135) (by kernel_rfl) (by kernel_rfl) (fun v hv => PV.get_mk _ _ _ hv)
    (forall_loops _ [] (by kernel_rfl) trivial) ((F135_eq KF x).trans h)
def e135 : CallE := entry [none] p135 q135 F135
theorem e135_ok : FunOk Try.prog 135 e135 := ⟨enters_of Try.func135 (by kernel_rfl) (c := b135) (by kernel_rfl), fun args y hy => entry_ok F135_ok args y hy⟩

/-! ### 125v1: slices.IndexFunc[[]int,int] -/
def p125v1 : PL := (.cons (.sl true (.int .i64)) (.cons (.fn 135 (.cons (.ep (.cons (.sl true (.int .u8)) .nil) 0) .nil)) .nil))
def q125v1 : PV := (.int .i64)
def sp125v1_0 : SP := ⟨[(0, (.sl true (.int .i64))), (1, (.fn 135 (.cons (.ep (.cons (.sl true (.int .u8)) .nil) 0) .nil))), (7, (.int .i64)), (8, (.int .i64))], []⟩
def F125v1_0 {R : Type} (n : Nat) (k0_0 : Int → Option R) (k0_1 : Option R) (rec_0 : (List Int) → (List Int) → Int → Int → Option R) (x0 : (List Int)) (x1 : (List Int)) (x7 : Int) (x8 : Int) : Option R :=
  (bif (decide (x8 < x7)) then ((idxL x0 x8)).bind fun e0 =>
  (F135 (e0, ((x1, ()), ()))).bind fun (y1 : Bool) =>
  (bif y1 then (k0_0 (x8))
  else (rec_0 (x0) (x1) (x7) ((Go.IntKind.wrap Go.IntKind.i64 (x8 + (1 : Int))))))
  else (k0_1 ))
def l125v1_0 {R : Type} (n : Nat) (k0_0 : Int → Option R) (k0_1 : Option R) : Nat → (List Int) → (List Int) → Int → Int → Option R
  | 0, _, _, _, _ => none
  | k + 1, x0, x1, x7, x8 => F125v1_0 n k0_0 k0_1 (l125v1_0 n k0_0 k0_1 k) x0 x1 x7 x8
def G125v1 (n : Nat) (x0 : (List Int)) (x1 : (List Int)) : Option Int :=
  (l125v1_0 n (fun v2 =>
  (some v2)) ((some (@Neg.neg Int Int.instNegInt (1 : Int)))) n (x0) (x1) (((x0.length : Nat) : Int)) ((0 : Int)))
def F125v1 (x : ((List Int) × ((((List Int) × Unit) × Unit) × Unit))) : Option Int := G125v1 KF x.1 x.2.1.1.1
def t125v1 : Nat → Option CallE := tabOf [(135, e135)]
theorem t125v1_ok : TabOk Try.prog t125v1 := tabOf_ok _ ⟨e135_ok, trivial⟩
def i125v1 : Nat → Option CallI := tabIOf []
theorem i125v1_ok : TabIOk Try.prog i125v1 := tabIOf_ok _ trivial
def c125v1 : Cfg := ⟨liveTab [(0, ⟨[(0, .keep), (1, .keep), (7, .keep), (8, .keep)], [], [4], [], []⟩)], modeTab []⟩
noncomputable def b125v1 : Code := Try.f125.body.getD .skip
def lp125v1 {R : Type} (n : Nat) : Lp R := lpTab [(0, viaSP sp125v1_0 fun x K => l125v1_0 n (fun v0 => K (.ret) ⟨[.set 4 (.int .i64 v0)], []⟩) (K (.exit 0) ⟨[.set 4 (.top)], []⟩) n x.1.1 x.1.2.1.1.1 x.1.2.2.1 x.1.2.2.2.1)]
noncomputable def b125v1_0 : Code := ((loopsIn b125v1 0).getD 0 (0, .skip)).2
theorem l125v1_0_step {R : Type} (n k : Nat) (x : sp125v1_0.vals) (K : Ex → St → Option R) : evL (fun s K => evC ⟨D, t125v1, i125v1⟩ c125v1 (lp125v1 n) b125v1_0 0 s K) (c125v1.live 0).head (c125v1.live 0).leave (k + 1) (sp125v1_0.mk' x) K = F125v1_0 n (fun v0 => K (.ret) ⟨[.set 4 (.int .i64 v0)], []⟩) (K (.exit 0) ⟨[.set 4 (.top)], []⟩) (fun w0 w1 w2 w3 => evL (fun s K => evC ⟨D, t125v1, i125v1⟩ c125v1 (lp125v1 n) b125v1_0 0 s K) (c125v1.live 0).head (c125v1.live 0).leave k (sp125v1_0.mk' ((w0, (((w1, ()), ()), (w2, (w3, ())))), ())) K) x.1.1 x.1.2.1.1.1 x.1.2.2.1 x.1.2.2.2.1 := by kernel_rfl
theorem l125v1_0_ok {R : Type} (n : Nat) : ∀ (k : Nat) (x : sp125v1_0.vals) (K : Ex → St → Option R), evL (fun s K => evC ⟨D, t125v1, i125v1⟩ c125v1 (lp125v1 n) b125v1_0 0 s K) (c125v1.live 0).head (c125v1.live 0).leave k (sp125v1_0.mk' x) K = l125v1_0 n (fun v0 => K (.ret) ⟨[.set 4 (.int .i64 v0)], []⟩) (K (.exit 0) ⟨[.set 4 (.top)], []⟩) k x.1.1 x.1.2.1.1.1 x.1.2.2.1 x.1.2.2.2.1
  | 0, _, _ => rfl
  | k + 1, x, K => (l125v1_0_step n k x K).trans (congrArg (fun rec => F125v1_0 n (fun v0 => K (.ret) ⟨[.set 4 (.int .i64 v0)], []⟩) (K (.exit 0) ⟨[.set 4 (.top)], []⟩) rec x.1.1 x.1.2.1.1.1 x.1.2.2.1 x.1.2.2.2.1) (by funext w0 w1 w2 w3; exact l125v1_0_ok n k ((w0, (((w1, ()), ()), (w2, (w3, ())))), ()) K))
theorem F125v1_eq (n : Nat) (x : p125v1.vals) : evF ⟨D, t125v1, i125v1⟩ c125v1 (lp125v1 n) Try.f125 (p125v1.mk x) q125v1.get = G125v1 n x.1 x.2.1.1.1 := by kernel_rfl
theorem F125v1_ok (x : p125v1.vals) (y : q125v1.vals) (h : F125v1 x = some y) : Sound Try.prog 125 (p125v1.mk x) (q125v1.mk y) :=
  evF_sound hm hD ⟨t125v1_ok, i125v1_ok⟩ Try.func125 (c := b125v1) (by kernel_rfl) (by kernel_rfl) (fun v hv => PV.get_mk _ _ _ hv)
    (forall_loops _ [(0, b125v1_0)] (by kernel_rfl) ⟨fun s K r h => viaSP_good (p := sp125v1_0) (l125v1_0_ok KF KF) s K r h, trivial⟩) ((F125v1_eq KF x).trans h)
def e125v1 : CallE := entry [some (.int .i64), none] p125v1 q125v1 F125v1
theorem e125v1_ok : FunOk Try.prog 125 e125v1 := ⟨enters_of Try.func125 (by kernel_rfl) (c := b125v1) (by kernel_rfl), fun args y hy => entry_ok F125v1_ok args y hy⟩

/-! ### 82v1: slices.ContainsFunc[[]int,int] -/
def p82v1 : PL := (.cons (.sl true (.int .i64)) (.cons (.fn 135 (.cons (.ep (.cons (.sl true (.int .u8)) .nil) 0) .nil)) .nil))
def q82v1 : PV := .bool
def G82v1 (n : Nat) (x0 : (List Int)) (x1 : (List Int)) : Option Bool :=
  (F125v1 (x0, (((x1, ()), ()), ()))).bind fun (y0 : Int) =>
  (some (decide (y0 ≥ (0 : Int))))
def F82v1 (x : ((List Int) × ((((List Int) × Unit) × Unit) × Unit))) : Option Bool := G82v1 KF x.1 x.2.1.1.1
def t82v1 : Nat → Option CallE := tabOf [(125, e125v1)]
theorem t82v1_ok : TabOk Try.prog t82v1 := tabOf_ok _ ⟨e125v1_ok, trivial⟩
def i82v1 : Nat → Option CallI := tabIOf []
theorem i82v1_ok : TabIOk Try.prog i82v1 := tabIOf_ok _ trivial
def c82v1 : Cfg := ⟨liveTab [], modeTab []⟩
noncomputable def b82v1 : Code := Try.f82.body.getD .skip
def lp82v1 {R : Type} (n : Nat) : Lp R := lpTab []
theorem F82v1_eq (n : Nat) (x : p82v1.vals) : evF ⟨D, t82v1, i82v1⟩ c82v1 (lp82v1 n) Try.f82 (p82v1.mk x) q82v1.get = G82v1 n x.1 x.2.1.1.1 := by kernel_rfl
theorem F82v1_ok (x : p82v1.vals) (y : q82v1.vals) (h : F82v1 x = some y) : Sound Try.prog 82 (p82v1.mk x) (q82v1.mk y) :=
  evF_sound hm hD ⟨t82v1_ok, i82v1_ok⟩ Try.func82 (c := b82v1) (by kernel_rfl) (by kernel_rfl) (fun v hv => PV.get_mk _ _ _ hv)
    (forall_loops _ [] (by kernel_rfl) trivial) ((F82v1_eq KF x).trans h)
def e82v1 : CallE := entry [some (.int .i64), none] p82v1 q82v1 F82v1
theorem e82v1_ok : FunOk Try.prog 82 e82v1 := ⟨enters_of Try.func82 (by kernel_rfl) (c := b82v1) (by kernel_rfl), fun args y hy => entry_ok F82v1_ok args y hy⟩

/-! ### 94: spiritlevel/shrink.Step$1$1 -/
def p94 : PL := (.cons (.int .i64) (.cons (.ep (.cons (.sl true (.int .u8)) .nil) 0) .nil))
def q94 : PV := .bool
def G94 (n : Nat) (x0 : Int) (x1 : (List Int)) : Option Bool :=
  ((idxL x1 (Go.IntKind.wrap Go.IntKind.i64 ((Go.IntKind.wrap Go.IntKind.i64 (Int.tdiv x0 (2 : Int))) - (1 : Int))))).bind fun e0 =>
  (some ((Go.IntKind.wrap Go.IntKind.i64 e0) != (Go.IntKind.wrap Go.IntKind.i64 ((1 : Int) - (Int.tmod x0 (2 : Int))))))
def F94 (x : (Int × (((List Int) × Unit) × Unit))) : Option Bool := G94 KF x.1 x.2.1.1
def t94 : Nat → Option CallE := tabOf []
theorem t94_ok : TabOk Try.prog t94 := tabOf_ok _ trivial
def i94 : Nat → Option CallI := tabIOf []
theorem i94_ok : TabIOk Try.prog i94 := tabIOf_ok _ trivial
def c94 : Cfg := ⟨liveTab [], modeTab []⟩
noncomputable def b94 : Code := Try.f94.body.getD .skip
def lp94 {R : Type} (n : Nat) : Lp R := lpTab []
theorem F94_eq (n : Nat) (x : p94.vals) : evF ⟨D, t94, i94⟩ c94 (lp94 n) Try.f94 (p94.mk x) q94.get = G94 n x.1 x.2.1.1 := by kernel_rfl
theorem F94_ok (x : p94.vals) (y : q94.vals) (h : F94 x = some y) : Sound Try.prog 94 (p94.mk x) (q94.mk y) :=
  evF_sound hm hD ⟨t94_ok, i94_ok⟩ Try.func94 (c := b94) (by kernel_rfl) (by kernel_rfl) (fun v hv => PV.get_mk _ _ _ hv)
    (forall_loops _ [] (by kernel_rfl) trivial) ((F94_eq KF x).trans h)
def e94 : CallE := entry [none] p94 q94 F94
theorem e94_ok : FunOk Try.prog 94 e94 := ⟨enters_of Try.func94 (by kernel_rfl) (c := b94) (by kernel_rfl), fun args y hy => entry_ok F94_ok args y hy⟩

/-! ### 125v2: slices.IndexFunc[[]int,int] -/
def p125v2 : PL := (.cons (.sl true (.int .i64)) (.cons (.fn 94 (.cons (.ep (.cons (.sl true (.int .u8)) .nil) 0) .nil)) .nil))
def q125v2 : PV := (.int .i64)
def sp125v2_0 : SP := ⟨[(0, (.sl true (.int .i64))), (1, (.fn 94 (.cons (.ep (.cons (.sl true (.int .u8)) .nil) 0) .nil))), (7, (.int .i64)), (8, (.int .i64))], []⟩
def F125v2_0 {R : Type} (n : Nat) (k0_0 : Int → Option R) (k0_1 : Option R) (rec_0 : (List Int) → (List Int) → Int → Int → Option R) (x0 : (List Int)) (x1 : (List Int)) (x7 : Int) (x8 : Int) : Option R :=
  (bif (decide (x8 < x7)) then ((idxL x0 x8)).bind fun e0 =>
  (F94 (e0, ((x1, ()), ()))).bind fun (y1 : Bool) =>
  (bif y1 then (k0_0 (x8))
  else (rec_0 (x0) (x1) (x7) ((Go.IntKind.wrap Go.IntKind.i64 (x8 + (1 : Int))))))
  else (k0_1 ))
def l125v2_0 {R : Type} (n : Nat) (k0_0 : Int → Option R) (k0_1 : Option R) : Nat → (List Int) → (List Int) → Int → Int → Option R
  | 0, _, _, _, _ => none
  | k + 1, x0, x1, x7, x8 => F125v2_0 n k0_0 k0_1 (l125v2_0 n k0_0 k0_1 k) x0 x1 x7 x8
def G125v2 (n : Nat) (x0 : (List Int)) (x1 : (List Int)) : Option Int :=
  (l125v2_0 n (fun v2 =>
  (some v2)) ((some (@Neg.neg Int Int.instNegInt (1 : Int)))) n (x0) (x1) (((x0.length : Nat) : Int)) ((0 : Int)))
def F125v2 (x : ((List Int) × ((((List Int) × Unit) × Unit) × Unit))) : Option Int := G125v2 KF x.1 x.2.1.1.1
def t125v2 : Nat → Option CallE := tabOf [(94, e94)]
theorem t125v2_ok : TabOk Try.prog t125v2 := tabOf_ok _ ⟨e94_ok, trivial⟩
def i125v2 : Nat → Option CallI := tabIOf []
theorem i125v2_ok : TabIOk Try.prog i125v2 := tabIOf_ok _ trivial
def c125v2 : Cfg := ⟨liveTab [(0, ⟨[(0, .keep), (1, .keep), (7, .keep), (8, .keep)], [], [4], [], []⟩)], modeTab []⟩
noncomputable def b125v2 : Code := Try.f125.body.getD .skip
def lp125v2 {R : Type} (n : Nat) : Lp R := lpTab [(0, viaSP sp125v2_0 fun x K => l125v2_0 n (fun v0 => K (.ret) ⟨[.set 4 (.int .i64 v0)], []⟩) (K (.exit 0) ⟨[.set 4 (.top)], []⟩) n x.1.1 x.1.2.1.1.1 x.1.2.2.1 x.1.2.2.2.1)]
noncomputable def b125v2_0 : Code := ((loopsIn b125v2 0).getD 0 (0, .skip)).2
theorem l125v2_0_step {R : Type} (n k : Nat) (x : sp125v2_0.vals) (K : Ex → St → Option R) : evL (fun s K => evC ⟨D, t125v2, i125v2⟩ c125v2 (lp125v2 n) b125v2_0 0 s K) (c125v2.live 0).head (c125v2.live 0).leave (k + 1) (sp125v2_0.mk' x) K = F125v2_0 n (fun v0 => K (.ret) ⟨[.set 4 (.int .i64 v0)], []⟩) (K (.exit 0) ⟨[.set 4 (.top)], []⟩) (fun w0 w1 w2 w3 => evL (fun s K => evC ⟨D, t125v2, i125v2⟩ c125v2 (lp125v2 n) b125v2_0 0 s K) (c125v2.live 0).head (c125v2.live 0).leave k (sp125v2_0.mk' ((w0, (((w1, ()), ()), (w2, (w3, ())))), ())) K) x.1.1 x.1.2.1.1.1 x.1.2.2.1 x.1.2.2.2.1 := by kernel_rfl
theorem l125v2_0_ok {R : Type} (n : Nat) : ∀ (k : Nat) (x : sp125v2_0.vals) (K : Ex → St → Option R), evL (fun s K => evC ⟨D, t125v2, i125v2⟩ c125v2 (lp125v2 n) b125v2_0 0 s K) (c125v2.live 0).head (c125v2.live 0).leave k (sp125v2_0.mk' x) K = l125v2_0 n (fun v0 => K (.ret) ⟨[.set 4 (.int .i64 v0)], []⟩) (K (.exit 0) ⟨[.set 4 (.top)], []⟩) k x.1.1 x.1.2.1.1.1 x.1.2.2.1 x.1.2.2.2.1
  | 0, _, _ => rfl
  | k + 1, x, K => (l125v2_0_step n k x K).trans (congrArg (fun rec => F125v2_0 n (fun v0 => K (.ret) ⟨[.set 4 (.int .i64 v0)], []⟩) (K (.exit 0) ⟨[.set 4 (.top)], []⟩) rec x.1.1 x.1.2.1.1.1 x.1.2.2.1 x.1.2.2.2.1) (by funext w0 w1 w2 w3; exact l125v2_0_ok n k ((w0, (((w1, ()), ()), (w2, (w3, ())))), ()) K))
theorem F125v2_eq (n : Nat) (x : p125v2.vals) : evF ⟨D, t125v2, i125v2⟩ c125v2 (lp125v2 n) Try.f125 (p125v2.mk x) q125v2.get = G125v2 n x.1 x.2.1.1.1 := by kernel_rfl
theorem F125v2_ok (x : p125v2.vals) (y : q125v2.vals) (h : F125v2 x = some y) : Sound Try.prog 125 (p125v2.mk x) (q125v2.mk y) :=
  evF_sound hm hD ⟨t125v2_ok, i125v2_ok⟩ Try.func125 (c := b125v2) (by kernel_rfl) (by kernel_rfl) (fun v hv => PV.get_mk _ _ _ hv)
    (forall_loops _ [(0, b125v2_0)] (by kernel_rfl) ⟨fun s K r h => viaSP_good (p := sp125v2_0) (l125v2_0_ok KF KF) s K r h, trivial⟩) ((F125v2_eq KF x).trans h)
def e125v2 : CallE := entry [some (.int .i64), none] p125v2 q125v2 F125v2
theorem e125v2_ok : FunOk Try.prog 125 e125v2 := ⟨enters_of Try.func125 (by kernel_rfl) (c := b125v2) (by kernel_rfl), fun args y hy => entry_ok F125v2_ok args y hy⟩

/-! ### 82v2: slices.ContainsFunc[[]int,int] -/
def p82v2 : PL := (.cons (.sl true (.int .i64)) (.cons (.fn 94 (.cons (.ep (.cons (.sl true (.int .u8)) .nil) 0) .nil)) .nil))
def q82v2 : PV := .bool
def G82v2 (n : Nat) (x0 : (List Int)) (x1 : (List Int)) : Option Bool :=
  (F125v2 (x0, (((x1, ()), ()), ()))).bind fun (y0 : Int) =>
  (some (decide (y0 ≥ (0 : Int))))
def F82v2 (x : ((List Int) × ((((List Int) × Unit) × Unit) × Unit))) : Option Bool := G82v2 KF x.1 x.2.1.1.1
def t82v2 : Nat → Option CallE := tabOf [(125, e125v2)]
theorem t82v2_ok : TabOk Try.prog t82v2 := tabOf_ok _ ⟨e125v2_ok, trivial⟩
def i82v2 : Nat → Option CallI := tabIOf []
theorem i82v2_ok : TabIOk Try.prog i82v2 := tabIOf_ok _ trivial
def c82v2 : Cfg := ⟨liveTab [], modeTab []⟩
noncomputable def b82v2 : Code := Try.f82.body.getD .skip
def lp82v2 {R : Type} (n : Nat) : Lp R := lpTab []
theorem F82v2_eq (n : Nat) (x : p82v2.vals) : evF ⟨D, t82v2, i82v2⟩ c82v2 (lp82v2 n) Try.f82 (p82v2.mk x) q82v2.get = G82v2 n x.1 x.2.1.1.1 := by kernel_rfl
theorem F82v2_ok (x : p82v2.vals) (y : q82v2.vals) (h : F82v2 x = some y) : Sound Try.prog 82 (p82v2.mk x) (q82v2.mk y) :=
  evF_sound hm hD ⟨t82v2_ok, i82v2_ok⟩ Try.func82 (c := b82v2) (by kernel_rfl) (by kernel_rfl) (fun v hv => PV.get_mk _ _ _ hv)
    (forall_loops _ [] (by kernel_rfl) trivial) ((F82v2_eq KF x).trans h)
def e82v2 : CallE := entry [some (.int .i64), none] p82v2 q82v2 F82v2
theorem e82v2_ok : FunOk Try.prog 82 e82v2 := ⟨enters_of Try.func82 (by kernel_rfl) (c := b82v2) (by kernel_rfl), fun args y hy => entry_ok F82v2_ok args y hy⟩

/-! ### 93: spiritlevel/shrink.Step$1 -/
def p93 : PL := (.cons (.sl true (.int .u8)) (.cons (.sl true (.int .u8)) (.cons (.ep (.cons (.sl true (.int .i64)) .nil) 0) .nil)))
def q93 : PV := .bool
def G93 (n : Nat) (x0 : (List Int)) (x1 : (List Int)) (x2 : (List Int)) : Option Bool :=
  (F82v2 (x2, (((x1, ()), ()), ()))).bind fun (y0 : Bool) =>
  (some (!y0))
def F93 (x : ((List Int) × ((List Int) × (((List Int) × Unit) × Unit)))) : Option Bool := G93 KF x.1 x.2.1 x.2.2.1.1
def t93 : Nat → Option CallE := tabOf [(82, e82v2)]
theorem t93_ok : TabOk Try.prog t93 := tabOf_ok _ ⟨e82v2_ok, trivial⟩
def i93 : Nat → Option CallI := tabIOf []
theorem i93_ok : TabIOk Try.prog i93 := tabIOf_ok _ trivial
def c93 : Cfg := ⟨liveTab [], modeTab []⟩
noncomputable def b93 : Code := Try.f93.body.getD .skip
def lp93 {R : Type} (n : Nat) : Lp R := lpTab []
theorem F93_eq (n : Nat) (x : p93.vals) : evF ⟨D, t93, i93⟩ c93 (lp93 n) Try.f93 (p93.mk x) q93.get = G93 n x.1 x.2.1 x.2.2.1.1 := by kernel_rfl
theorem F93_ok (x : p93.vals) (y : q93.vals) (h : F93 x = some y) : Sound Try.prog 93 (p93.mk x) (q93.mk y) :=
  evF_sound hm hD ⟨t93_ok, i93_ok⟩ Try.func93 (c := b93) (by kernel_rfl) (by kernel_rfl) (fun v hv => PV.get_mk _ _ _ hv)
    (forall_loops _ [] (by kernel_rfl) trivial) ((F93_eq KF x).trans h)
def e93 : CallE := entry [some (.int .u8), some (.int .u8)] p93 q93 F93
theorem e93_ok : FunOk Try.prog 93 e93 := ⟨enters_of Try.func93 (by kernel_rfl) (c := b93) (by kernel_rfl), fun args y hy => entry_ok F93_ok args y hy⟩

/-! ### 132: spiritlevel/shrink.made$1 -/
def p132 : PL := (.cons (.ep (.cons (.int .i64) (.cons (.sl true (.pair (.int .i64) (.int .i64))) (.cons (.sl true (.pair (.int .i64) (.int .i64))) (.cons (.sl true (.int .i64)) (.cons (.sl true (.int .i64)) .nil))))) 0) (.cons (.ep (.cons (.sl true (.int .u8)) .nil) 0) (.cons (.ep (.cons (.sl true (.int .u8)) .nil) 0) (.cons (.ep (.cons (.fn 93 (.cons (.ep (.cons (.sl true (.int .i64)) .nil) 0) .nil)) .nil) 0) .nil))))
def q132 : PV := (.tup (.cons .bool (.cons (.int .i64) .nil)))
def G132 (n : Nat) (x0_0 : Int) (x0_1 : (List (Int × Int))) (x0_2 : (List (Int × Int))) (x0_3 : (List Int)) (x0_4 : (List Int)) (x1 : (List Int)) (x2 : (List Int)) (x3 : (List Int)) : Option (Bool × (Int × Unit)) :=
  (F133 ((x0_0, (x0_1, (x0_2, (x0_3, (x0_4, ()))))), (x1, (x2, ())))).bind fun (y0 : ((List Int) × (Int × Unit))) =>
  (bif (y0.2.1 != (0 : Int)) then (some (Bool.false, (y0.2.1, ())))
  else (F134 ((x0_0, (x0_1, (x0_2, (x0_3, (x0_4, ()))))), (x1, (x2, ())))).bind fun (y1 : ((List Int) × (Int × Unit))) =>
  (bif (y1.2.1 != (0 : Int)) then (some (Bool.false, (y1.2.1, ())))
  else (F82v1 (x0_4, (((y0.1, ()), ()), ()))).bind fun (y2 : Bool) =>
  (bif (!y2) then (F93 (y0.1, (y1.1, ((x3, ()), ())))).bind fun (y3 : Bool) =>
  (some ((bif Bool.true then y3 else Bool.false), ((0 : Int), ())))
  else (some (Bool.false, ((0 : Int), ()))))))
def F132 (x : ((Int × ((List (Int × Int)) × ((List (Int × Int)) × ((List Int) × ((List Int) × Unit))))) × (((List Int) × Unit) × (((List Int) × Unit) × (((((List Int) × Unit) × Unit) × Unit) × Unit))))) : Option (Bool × (Int × Unit)) := G132 KF x.1.1 x.1.2.1 x.1.2.2.1 x.1.2.2.2.1 x.1.2.2.2.2.1 x.2.1.1 x.2.2.1.1 x.2.2.2.1.1.1.1
def t132 : Nat → Option CallE := tabOf [(93, e93), (82, e82v1), (134, e134), (133, e133)]
theorem t132_ok : TabOk Try.prog t132 := tabOf_ok _ ⟨e93_ok, ⟨e82v1_ok, ⟨e134_ok, ⟨e133_ok, trivial⟩⟩⟩⟩
def i132 : Nat → Option CallI := tabIOf []
theorem i132_ok : TabIOk Try.prog i132 := tabIOf_ok _ trivial
def c132 : Cfg := ⟨liveTab [], modeTab []⟩
noncomputable def b132 : Code := Try.f132.body.getD .skip
def lp132 {R : Type} (n : Nat) : Lp R := lpTab []
theorem F132_eq (n : Nat) (x : p132.vals) : evF ⟨D, t132, i132⟩ c132 (lp132 n) Try.f132 (p132.mk x) q132.get = G132 n x.1.1 x.1.2.1 x.1.2.2.1 x.1.2.2.2.1 x.1.2.2.2.2.1 x.2.1.1 x.2.2.1.1 x.2.2.2.1.1.1.1 := by kernel_rfl
theorem F132_ok (x : p132.vals) (y : q132.vals) (h : F132 x = some y) : Sound Try.prog 132 (p132.mk x) (q132.mk y) :=
  evF_sound hm hD ⟨t132_ok, i132_ok⟩ Try.func132 (c := b132) (by kernel_rfl) (by kernel_rfl) (fun v hv => PV.get_mk _ _ _ hv)
    (forall_loops _ [] (by kernel_rfl) trivial) ((F132_eq KF x).trans h)
def e132 : CallE := entry [] p132 q132 F132
theorem e132_ok : FunOk Try.prog 132 e132 := ⟨enters_of Try.func132 (by kernel_rfl) (c := b132) (by kernel_rfl), fun args y hy => entry_ok F132_ok args y hy⟩

/-! ### 92: spiritlevel/shrink.made -/
def p92 : PL := (.cons (.agg (.cons (.int .i64) (.cons (.sl true (.pair (.int .i64) (.int .i64))) (.cons (.sl true (.pair (.int .i64) (.int .i64))) (.cons (.sl true (.int .i64)) (.cons (.sl true (.int .i64)) .nil)))))) (.cons (.sl true .bool) (.cons (.sl true .bool) (.cons (.fn 93 (.cons (.ep (.cons (.sl true (.int .i64)) .nil) 0) .nil)) .nil))))
def q92 : PV := (.tup (.cons (.sl false (.int .i64)) (.cons (.int .i64) .nil)))
def sp92_0 : SP := ⟨[(10, (.ptr 10 0)), (12, (.fn 132 (.cons (.ptr 4 0) (.cons (.ptr 10 0) (.cons (.ptr 11 0) (.cons (.ptr 7 0) .nil)))))), (15, (.row 9015)), (35, (.row 222000000)), (36, (.int .i64)), (37, (.int .i64))], [(10, (.box (.cons (.row 222000000) .nil))), (4, (.box (.cons (.int .i64) (.cons (.sl true (.pair (.int .i64) (.int .i64))) (.cons (.sl true (.pair (.int .i64) (.int .i64))) (.cons (.sl true (.int .i64)) (.cons (.sl true (.int .i64)) .nil))))))), (11, (.box (.cons (.row 242000000) .nil))), (7, (.box (.cons (.fn 93 (.cons (.ep (.cons (.sl true (.int .i64)) .nil) 0) .nil)) .nil))), (222000000, (.row 5 (.int .u8) false)), (242000000, (.row 5 (.int .u8) false)), (9015, (.row 3 (.int .i64) false))]⟩
def F92_0 {R : Type} (n : Nat) (k0_0 : Int → (List Int) → Option R) (k0_1 : (List Int) → Option R) (rec_0 : Int → Int → Int → (List (Int × Int)) → (List (Int × Int)) → (List Int) → (List Int) → (List Int) → (List Int) → (List Int) → (List Int) → Option R) (x36 : Int) (x37 : Int) (r4_0 : Int) (r4_1 : (List (Int × Int))) (r4_2 : (List (Int × Int))) (r4_3 : (List Int)) (r4_4 : (List Int)) (r7 : (List Int)) (r222000000 : (List Int)) (r242000000 : (List Int)) (r9015 : (List Int)) : Option R :=
  (bif (decide (x37 < x36)) then (bif ((decide ((0 : Int) ≤ x37)) && (decide ((Int.toNat x37) < r222000000.length))) then ((r222000000[(Int.toNat x37)]?)).bind fun e3 =>
  (bif ((decide ((0 : Int) ≤ x37)) && (decide ((Int.toNat x37) < r222000000.length))) then ((r222000000[(Int.toNat x37)]?)).bind fun e4 =>
  (F132 ((r4_0, (r4_1, (r4_2, (r4_3, (r4_4, ()))))), (((List.set r222000000 (Int.toNat x37) (2 : Int)), ()), ((r242000000, ()), ((((r7, ()), ()), ()), ()))))).bind fun (y5 : (Bool × (Int × Unit))) =>
  (bif (y5.2.1 != (0 : Int)) then (k0_0 (y5.2.1) (r9015))
  else (bif (!y5.1) then (bif ((decide ((0 : Int) ≤ x37)) && (decide ((Int.toNat x37) < (List.set r222000000 (Int.toNat x37) (2 : Int)).length))) then (((List.set r222000000 (Int.toNat x37) (2 : Int))[(Int.toNat x37)]?)).bind fun e6 =>
  (bif (decide ((r9015.length + ((Go.IntKind.wrap Go.IntKind.i64 ((Go.IntKind.wrap Go.IntKind.i64 ((Go.IntKind.wrap Go.IntKind.i64 ((2 : Int) * x37)) + (3 : Int))) - (Go.IntKind.wrap Go.IntKind.i64 e3))) :: ([] : List Int)).length) ≤ LIM)) then (rec_0 (x36) ((Go.IntKind.wrap Go.IntKind.i64 (x37 + (1 : Int)))) (r4_0) (r4_1) (r4_2) (r4_3) (r4_4) (r7) ((List.set (List.set r222000000 (Int.toNat x37) (2 : Int)) (Int.toNat x37) e3)) (r242000000) ((r9015 ++ ((Go.IntKind.wrap Go.IntKind.i64 ((Go.IntKind.wrap Go.IntKind.i64 ((Go.IntKind.wrap Go.IntKind.i64 ((2 : Int) * x37)) + (3 : Int))) - (Go.IntKind.wrap Go.IntKind.i64 e3))) :: ([] : List Int)))))
  else none)
  else none)
  else (rec_0 (x36) ((Go.IntKind.wrap Go.IntKind.i64 (x37 + (1 : Int)))) (r4_0) (r4_1) (r4_2) (r4_3) (r4_4) (r7) ((List.set r222000000 (Int.toNat x37) (2 : Int))) (r242000000) (r9015))))
  else none)
  else none)
  else (k0_1 (r9015)))
def l92_0 {R : Type} (n : Nat) (k0_0 : Int → (List Int) → Option R) (k0_1 : (List Int) → Option R) : Nat → Int → Int → Int → (List (Int × Int)) → (List (Int × Int)) → (List Int) → (List Int) → (List Int) → (List Int) → (List Int) → (List Int) → Option R
  | 0, _, _, _, _, _, _, _, _, _, _, _ => none
  | k + 1, x36, x37, r4_0, r4_1, r4_2, r4_3, r4_4, r7, r222000000, r242000000, r9015 => F92_0 n k0_0 k0_1 (l92_0 n k0_0 k0_1 k) x36 x37 r4_0 r4_1 r4_2 r4_3 r4_4 r7 r222000000 r242000000 r9015
def G92 (n : Nat) (x0_0 : Int) (x0_1 : (List (Int × Int))) (x0_2 : (List (Int × Int))) (x0_3 : (List Int)) (x0_4 : (List Int)) (x1 : (List Bool)) (x2 : (List Bool)) (x3 : (List Int)) : Option ((List Int) × (Int × Unit)) :=
  (F131 ((x1, ()), ())).bind fun (y0 : Unit × ((List Int) × Unit)) =>
  (F131 ((x2, ()), ())).bind fun (y1 : Unit × ((List Int) × Unit)) =>
  (F132 ((x0_0, (x0_1, (x0_2, (x0_3, (x0_4, ()))))), ((y0.2.1, ()), ((y1.2.1, ()), ((((x3, ()), ()), ()), ()))))).bind fun (y2 : (Bool × (Int × Unit))) =>
  (bif (y2.2.1 != (0 : Int)) then (some (([] : List Int), (y2.2.1, ())))
  else (bif (!y2.1) then (some (([] : List Int), ((6 : Int), ())))
  else (l92_0 n (fun v7 v8 =>
  (some (([] : List Int), (v7, ())))) (fun v9 =>
  (some (v9, ((0 : Int), ())))) n (((y0.2.1.length : Nat) : Int)) ((0 : Int)) (x0_0) (x0_1) (x0_2) (x0_3) (x0_4) (x3) (y0.2.1) (y1.2.1) (([] : List Int)))))
def F92 (x : ((Int × ((List (Int × Int)) × ((List (Int × Int)) × ((List Int) × ((List Int) × Unit))))) × ((List Bool) × ((List Bool) × ((((List Int) × Unit) × Unit) × Unit))))) : Option ((List Int) × (Int × Unit)) := G92 KF x.1.1 x.1.2.1 x.1.2.2.1 x.1.2.2.2.1 x.1.2.2.2.2.1 x.2.1 x.2.2.1 x.2.2.2.1.1.1
def t92 : Nat → Option CallE := tabOf [(132, e132)]
theorem t92_ok : TabOk Try.prog t92 := tabOf_ok _ ⟨e132_ok, trivial⟩
def i92 : Nat → Option CallI := tabIOf [(131, e131)]
theorem i92_ok : TabIOk Try.prog i92 := tabIOf_ok _ ⟨e131_ok, trivial⟩
def c92 : Cfg := ⟨liveTab [(0, ⟨[(10, .keep), (12, .keep), (15, .own), (35, .keep), (36, .keep), (37, .keep)], [10, 4, 11, 7, 222000000, 242000000, 67, 9015], [8, 9, 15], [9015], []⟩)], modeTab []⟩
noncomputable def b92 : Code := Try.f92.body.getD .skip
def lp92 {R : Type} (n : Nat) : Lp R := lpTab [(0, viaSP sp92_0 fun x K => l92_0 n (fun v0 v1 => K (.ret) ⟨[.set 8 (.nil 3 (.int .i64)), .set 9 (.int .i64 v0), .set 15 (.row 9015)], [.set 9015 (.row 3 (.int .i64) v1 false)]⟩) (fun v0 => K (.exit 0) ⟨[.set 8 (.top), .set 9 (.top), .set 15 (.row 9015)], [.set 9015 (.row 3 (.int .i64) v0 false)]⟩) n x.1.2.2.2.2.1 x.1.2.2.2.2.2.1 x.2.2.1.1 x.2.2.1.2.1 x.2.2.1.2.2.1 x.2.2.1.2.2.2.1 x.2.2.1.2.2.2.2.1 x.2.2.2.2.1.1.1.1 x.2.2.2.2.2.1 x.2.2.2.2.2.2.1 x.2.2.2.2.2.2.2.1)]
noncomputable def b92_0 : Code := ((loopsIn b92 0).getD 0 (0, .skip)).2
theorem l92_0_step {R : Type} (n k : Nat) (x : sp92_0.vals) (K : Ex → St → Option R) : evL (fun s K => evC ⟨D, t92, i92⟩ c92 (lp92 n) b92_0 0 s K) (c92.live 0).head (c92.live 0).leave (k + 1) (sp92_0.mk' x) K = F92_0 n (fun v0 v1 => K (.ret) ⟨[.set 8 (.nil 3 (.int .i64)), .set 9 (.int .i64 v0), .set 15 (.row 9015)], [.set 9015 (.row 3 (.int .i64) v1 false)]⟩) (fun v0 => K (.exit 0) ⟨[.set 8 (.top), .set 9 (.top), .set 15 (.row 9015)], [.set 9015 (.row 3 (.int .i64) v0 false)]⟩) (fun w0 w1 w2 w3 w4 w5 w6 w7 w8 w9 w10 => evL (fun s K => evC ⟨D, t92, i92⟩ c92 (lp92 n) b92_0 0 s K) (c92.live 0).head (c92.live 0).leave k (sp92_0.mk' (((), (((), ((), ((), ((), ())))), ((), ((), (w0, (w1, ())))))), (((), ()), ((w2, (w3, (w4, (w5, (w6, ()))))), (((), ()), ((((w7, ()), ()), ()), (w8, (w9, (w10, ()))))))))) K) x.1.2.2.2.2.1 x.1.2.2.2.2.2.1 x.2.2.1.1 x.2.2.1.2.1 x.2.2.1.2.2.1 x.2.2.1.2.2.2.1 x.2.2.1.2.2.2.2.1 x.2.2.2.2.1.1.1.1 x.2.2.2.2.2.1 x.2.2.2.2.2.2.1 x.2.2.2.2.2.2.2.1 := by kernel_rfl
theorem l92_0_ok {R : Type} (n : Nat) : ∀ (k : Nat) (x : sp92_0.vals) (K : Ex → St → Option R), evL (fun s K => evC ⟨D, t92, i92⟩ c92 (lp92 n) b92_0 0 s K) (c92.live 0).head (c92.live 0).leave k (sp92_0.mk' x) K = l92_0 n (fun v0 v1 => K (.ret) ⟨[.set 8 (.nil 3 (.int .i64)), .set 9 (.int .i64 v0), .set 15 (.row 9015)], [.set 9015 (.row 3 (.int .i64) v1 false)]⟩) (fun v0 => K (.exit 0) ⟨[.set 8 (.top), .set 9 (.top), .set 15 (.row 9015)], [.set 9015 (.row 3 (.int .i64) v0 false)]⟩) k x.1.2.2.2.2.1 x.1.2.2.2.2.2.1 x.2.2.1.1 x.2.2.1.2.1 x.2.2.1.2.2.1 x.2.2.1.2.2.2.1 x.2.2.1.2.2.2.2.1 x.2.2.2.2.1.1.1.1 x.2.2.2.2.2.1 x.2.2.2.2.2.2.1 x.2.2.2.2.2.2.2.1
  | 0, _, _ => rfl
  | k + 1, x, K => (l92_0_step n k x K).trans (congrArg (fun rec => F92_0 n (fun v0 v1 => K (.ret) ⟨[.set 8 (.nil 3 (.int .i64)), .set 9 (.int .i64 v0), .set 15 (.row 9015)], [.set 9015 (.row 3 (.int .i64) v1 false)]⟩) (fun v0 => K (.exit 0) ⟨[.set 8 (.top), .set 9 (.top), .set 15 (.row 9015)], [.set 9015 (.row 3 (.int .i64) v0 false)]⟩) rec x.1.2.2.2.2.1 x.1.2.2.2.2.2.1 x.2.2.1.1 x.2.2.1.2.1 x.2.2.1.2.2.1 x.2.2.1.2.2.2.1 x.2.2.1.2.2.2.2.1 x.2.2.2.2.1.1.1.1 x.2.2.2.2.2.1 x.2.2.2.2.2.2.1 x.2.2.2.2.2.2.2.1) (by funext w0 w1 w2 w3 w4 w5 w6 w7 w8 w9 w10; exact l92_0_ok n k (((), (((), ((), ((), ((), ())))), ((), ((), (w0, (w1, ())))))), (((), ()), ((w2, (w3, (w4, (w5, (w6, ()))))), (((), ()), ((((w7, ()), ()), ()), (w8, (w9, (w10, ())))))))) K))
theorem F92_eq (n : Nat) (x : p92.vals) : evF ⟨D, t92, i92⟩ c92 (lp92 n) Try.f92 (p92.mk x) q92.get = G92 n x.1.1 x.1.2.1 x.1.2.2.1 x.1.2.2.2.1 x.1.2.2.2.2.1 x.2.1 x.2.2.1 x.2.2.2.1.1.1 := by kernel_rfl
theorem F92_ok (x : p92.vals) (y : q92.vals) (h : F92 x = some y) : Sound Try.prog 92 (p92.mk x) (q92.mk y) :=
  evF_sound hm hD ⟨t92_ok, i92_ok⟩ Try.func92 (c := b92) (by kernel_rfl) (by kernel_rfl) (fun v hv => PV.get_mk _ _ _ hv)
    (forall_loops _ [(0, b92_0)] (by kernel_rfl) ⟨fun s K r h => viaSP_good (p := sp92_0) (l92_0_ok KF KF) s K r h, trivial⟩) ((F92_eq KF x).trans h)
def e92 : CallE := entry [none, some .bool, some .bool, none] p92 q92 F92
theorem e92_ok : FunOk Try.prog 92 e92 := ⟨enters_of Try.func92 (by kernel_rfl) (c := b92) (by kernel_rfl), fun args y hy => entry_ok F92_ok args y hy⟩

/-! ### 41: spiritlevel/shrink.Step -/
def p41 : PL := (.cons (.agg (.cons (.int .i64) (.cons (.sl true (.pair (.int .i64) (.int .i64))) (.cons (.sl true (.pair (.int .i64) (.int .i64))) (.cons (.sl true (.int .i64)) (.cons (.sl true (.int .i64)) .nil)))))) (.cons (.sl true .bool) (.cons (.sl true .bool) (.cons (.sl true (.int .i64)) .nil))))
def q41 : PV := (.tup (.cons (.sl false (.int .i64)) (.cons (.int .i64) .nil)))
def G41 (n : Nat) (x0_0 : Int) (x0_1 : (List (Int × Int))) (x0_2 : (List (Int × Int))) (x0_3 : (List Int)) (x0_4 : (List Int)) (x1 : (List Bool)) (x2 : (List Bool)) (x3 : (List Int)) : Option ((List Int) × (Int × Unit)) :=
  (F91 ((x0_0, (x0_1, (x0_2, (x0_3, (x0_4, ()))))), (x1, (x2, ())))).bind fun (y0 : Int) =>
  (bif (y0 != (0 : Int)) then (some (([] : List Int), (y0, ())))
  else (F67 (((x0_1.length : Nat) : Int), (x3, ()))).bind fun (y1 : Int) =>
  (bif (y1 != (0 : Int)) then (some (([] : List Int), ((8 : Int), ())))
  else (F92 ((x0_0, (x0_1, (x0_2, (x0_3, (x0_4, ()))))), (x1, (x2, (((x3, ()), ()), ()))))).bind fun (y2 : ((List Int) × (Int × Unit))) =>
  (some (y2.1, (y2.2.1, ())))))
def F41 (x : ((Int × ((List (Int × Int)) × ((List (Int × Int)) × ((List Int) × ((List Int) × Unit))))) × ((List Bool) × ((List Bool) × ((List Int) × Unit))))) : Option ((List Int) × (Int × Unit)) := G41 KF x.1.1 x.1.2.1 x.1.2.2.1 x.1.2.2.2.1 x.1.2.2.2.2.1 x.2.1 x.2.2.1 x.2.2.2.1
def t41 : Nat → Option CallE := tabOf [(92, e92), (67, e67), (91, e91)]
theorem t41_ok : TabOk Try.prog t41 := tabOf_ok _ ⟨e92_ok, ⟨e67_ok, ⟨e91_ok, trivial⟩⟩⟩
def i41 : Nat → Option CallI := tabIOf []
theorem i41_ok : TabIOk Try.prog i41 := tabIOf_ok _ trivial
def c41 : Cfg := ⟨liveTab [], modeTab []⟩
noncomputable def b41 : Code := Try.f41.body.getD .skip
def lp41 {R : Type} (n : Nat) : Lp R := lpTab []
theorem F41_eq (n : Nat) (x : p41.vals) : evF ⟨D, t41, i41⟩ c41 (lp41 n) Try.f41 (p41.mk x) q41.get = G41 n x.1.1 x.1.2.1 x.1.2.2.1 x.1.2.2.2.1 x.1.2.2.2.2.1 x.2.1 x.2.2.1 x.2.2.2.1 := by kernel_rfl
theorem F41_ok (x : p41.vals) (y : q41.vals) (h : F41 x = some y) : Sound Try.prog 41 (p41.mk x) (q41.mk y) :=
  evF_sound hm hD ⟨t41_ok, i41_ok⟩ Try.func41 (c := b41) (by kernel_rfl) (by kernel_rfl) (fun v hv => PV.get_mk _ _ _ hv)
    (forall_loops _ [] (by kernel_rfl) trivial) ((F41_eq KF x).trans h)
def e41 : CallE := entry [none, some .bool, some .bool, some (.int .i64)] p41 q41 F41
theorem e41_ok : FunOk Try.prog 41 e41 := ⟨enters_of Try.func41 (by kernel_rfl) (c := b41) (by kernel_rfl), fun args y hy => entry_ok F41_ok args y hy⟩

/-! ### 121: spiritlevel/spiritlevelref13.Lit -/
def p121 : PL := (.cons (.int .i64) (.cons (.int .i64) .nil))
def q121 : PV := .bool
def G121 (n : Nat) (x0 : Int) (x1 : Int) : Option Bool :=
  ((bif (decide (x1 ≥ (2 : Int))) then (some (bif Bool.true then (decide (x1 ≤ (Go.IntKind.wrap Go.IntKind.i64 ((Go.IntKind.wrap Go.IntKind.i64 ((2 : Int) * x0)) + (1 : Int))))) else Bool.false))
  else (some Bool.false))).bind fun e0 =>
  (some e0)
def F121 (x : (Int × (Int × Unit))) : Option Bool := G121 KF x.1 x.2.1
def t121 : Nat → Option CallE := tabOf []
theorem t121_ok : TabOk Try.prog t121 := tabOf_ok _ trivial
def i121 : Nat → Option CallI := tabIOf []
theorem i121_ok : TabIOk Try.prog i121 := tabIOf_ok _ trivial
def c121 : Cfg := ⟨liveTab [], modeTab [(1, .one 4)]⟩
noncomputable def b121 : Code := Try.f121.body.getD .skip
def lp121 {R : Type} (n : Nat) : Lp R := lpTab []
theorem F121_eq (n : Nat) (x : p121.vals) : evF ⟨D, t121, i121⟩ c121 (lp121 n) Try.f121 (p121.mk x) q121.get = G121 n x.1 x.2.1 := by kernel_rfl
theorem F121_ok (x : p121.vals) (y : q121.vals) (h : F121 x = some y) : Sound Try.prog 121 (p121.mk x) (q121.mk y) :=
  evF_sound hm hD ⟨t121_ok, i121_ok⟩ Try.func121 (c := b121) (by kernel_rfl) (by kernel_rfl) (fun v hv => PV.get_mk _ _ _ hv)
    (forall_loops _ [] (by kernel_rfl) trivial) ((F121_eq KF x).trans h)
def e121 : CallE := entry [none, none] p121 q121 F121
theorem e121_ok : FunOk Try.prog 121 e121 := ⟨enters_of Try.func121 (by kernel_rfl) (c := b121) (by kernel_rfl), fun args y hy => entry_ok F121_ok args y hy⟩

/-! ### 68: spiritlevel/spiritlevelref13.Valid -/
def p68 : PL := (.cons (.int .i64) (.cons (.sl true (.int .i64)) .nil))
def q68 : PV := .bool
def sp68_0 : SP := ⟨[(0, (.int .i64)), (1, (.sl true (.int .i64))), (5, (.int .i64))], []⟩
def F68_0 {R : Type} (n : Nat) (k0_0 : Bool → Option R) (k0_1 : Option R) (rec_0 : Int → (List Int) → Int → Option R) (x0 : Int) (x1 : (List Int)) (x5 : Int) : Option R :=
  (bif (decide (x5 < ((x1.length : Nat) : Int))) then (((idxL x1 x5)).bind fun e1 =>
  (F121 (x0, (e1, ()))).bind fun (y2 : Bool) =>
  (bif (!y2) then (some Bool.true)
  else (bif (decide (x5 > (0 : Int))) then ((idxL x1 x5)).bind fun e3 =>
  ((idxL x1 (Go.IntKind.wrap Go.IntKind.i64 (x5 - (1 : Int))))).bind fun e4 =>
  (bif (bif Bool.false then Bool.true else (bif Bool.true then (decide ((Go.IntKind.wrap Go.IntKind.i64 (e3 - e4)) < (1 : Int))) else Bool.false)) then (some Bool.true)
  else (bif (decide (x5 > (0 : Int))) then ((idxL x1 (Go.IntKind.wrap Go.IntKind.i64 (x5 - (1 : Int))))).bind fun e5 =>
  (bif (bif Bool.true then ((Int.tmod e5 (2 : Int)) == (0 : Int)) else Bool.false) then ((idxL x1 x5)).bind fun e6 =>
  ((idxL x1 (Go.IntKind.wrap Go.IntKind.i64 (x5 - (1 : Int))))).bind fun e7 =>
  (some (bif Bool.false then Bool.true else (bif Bool.true then (e6 == (Go.IntKind.wrap Go.IntKind.i64 (e7 + (1 : Int)))) else Bool.false)))
  else (some (bif Bool.false then Bool.true else Bool.false)))
  else (some (bif Bool.false then Bool.true else Bool.false))))
  else (bif (decide (x5 > (0 : Int))) then ((idxL x1 (Go.IntKind.wrap Go.IntKind.i64 (x5 - (1 : Int))))).bind fun e8 =>
  (bif (bif Bool.true then ((Int.tmod e8 (2 : Int)) == (0 : Int)) else Bool.false) then ((idxL x1 x5)).bind fun e9 =>
  ((idxL x1 (Go.IntKind.wrap Go.IntKind.i64 (x5 - (1 : Int))))).bind fun e10 =>
  (some (bif Bool.false then Bool.true else (bif Bool.true then (e9 == (Go.IntKind.wrap Go.IntKind.i64 (e10 + (1 : Int)))) else Bool.false)))
  else (some (bif Bool.false then Bool.true else Bool.false)))
  else (some (bif Bool.false then Bool.true else Bool.false)))))).bind fun e0 =>
  (bif e0 then (k0_0 (Bool.false))
  else (rec_0 (x0) (x1) ((Go.IntKind.wrap Go.IntKind.i64 (x5 + (1 : Int))))))
  else (k0_1 ))
def l68_0 {R : Type} (n : Nat) (k0_0 : Bool → Option R) (k0_1 : Option R) : Nat → Int → (List Int) → Int → Option R
  | 0, _, _, _ => none
  | k + 1, x0, x1, x5 => F68_0 n k0_0 k0_1 (l68_0 n k0_0 k0_1 k) x0 x1 x5
def G68 (n : Nat) (x0 : Int) (x1 : (List Int)) : Option Bool :=
  (l68_0 n (fun v11 =>
  (some v11)) ((some Bool.true)) n (x0) (x1) ((0 : Int)))
def F68 (x : (Int × ((List Int) × Unit))) : Option Bool := G68 KF x.1 x.2.1
def t68 : Nat → Option CallE := tabOf [(121, e121)]
theorem t68_ok : TabOk Try.prog t68 := tabOf_ok _ ⟨e121_ok, trivial⟩
def i68 : Nat → Option CallI := tabIOf []
theorem i68_ok : TabIOk Try.prog i68 := tabIOf_ok _ trivial
def c68 : Cfg := ⟨liveTab [(0, ⟨[(0, .keep), (1, .keep), (5, .keep)], [], [4], [], []⟩)], modeTab [(4, .one 61)]⟩
noncomputable def b68 : Code := Try.f68.body.getD .skip
def lp68 {R : Type} (n : Nat) : Lp R := lpTab [(0, viaSP sp68_0 fun x K => l68_0 n (fun v0 => K (.ret) ⟨[.set 4 (.bool v0)], []⟩) (K (.exit 0) ⟨[.set 4 (.top)], []⟩) n x.1.1 x.1.2.1 x.1.2.2.1)]
noncomputable def b68_0 : Code := ((loopsIn b68 0).getD 0 (0, .skip)).2
theorem l68_0_step {R : Type} (n k : Nat) (x : sp68_0.vals) (K : Ex → St → Option R) : evL (fun s K => evC ⟨D, t68, i68⟩ c68 (lp68 n) b68_0 0 s K) (c68.live 0).head (c68.live 0).leave (k + 1) (sp68_0.mk' x) K = F68_0 n (fun v0 => K (.ret) ⟨[.set 4 (.bool v0)], []⟩) (K (.exit 0) ⟨[.set 4 (.top)], []⟩) (fun w0 w1 w2 => evL (fun s K => evC ⟨D, t68, i68⟩ c68 (lp68 n) b68_0 0 s K) (c68.live 0).head (c68.live 0).leave k (sp68_0.mk' ((w0, (w1, (w2, ()))), ())) K) x.1.1 x.1.2.1 x.1.2.2.1 := by kernel_rfl
theorem l68_0_ok {R : Type} (n : Nat) : ∀ (k : Nat) (x : sp68_0.vals) (K : Ex → St → Option R), evL (fun s K => evC ⟨D, t68, i68⟩ c68 (lp68 n) b68_0 0 s K) (c68.live 0).head (c68.live 0).leave k (sp68_0.mk' x) K = l68_0 n (fun v0 => K (.ret) ⟨[.set 4 (.bool v0)], []⟩) (K (.exit 0) ⟨[.set 4 (.top)], []⟩) k x.1.1 x.1.2.1 x.1.2.2.1
  | 0, _, _ => rfl
  | k + 1, x, K => (l68_0_step n k x K).trans (congrArg (fun rec => F68_0 n (fun v0 => K (.ret) ⟨[.set 4 (.bool v0)], []⟩) (K (.exit 0) ⟨[.set 4 (.top)], []⟩) rec x.1.1 x.1.2.1 x.1.2.2.1) (by funext w0 w1 w2; exact l68_0_ok n k ((w0, (w1, (w2, ()))), ()) K))
theorem F68_eq (n : Nat) (x : p68.vals) : evF ⟨D, t68, i68⟩ c68 (lp68 n) Try.f68 (p68.mk x) q68.get = G68 n x.1 x.2.1 := by kernel_rfl
theorem F68_ok (x : p68.vals) (y : q68.vals) (h : F68 x = some y) : Sound Try.prog 68 (p68.mk x) (q68.mk y) :=
  evF_sound hm hD ⟨t68_ok, i68_ok⟩ Try.func68 (c := b68) (by kernel_rfl) (by kernel_rfl) (fun v hv => PV.get_mk _ _ _ hv)
    (forall_loops _ [(0, b68_0)] (by kernel_rfl) ⟨fun s K r h => viaSP_good (p := sp68_0) (l68_0_ok KF KF) s K r h, trivial⟩) ((F68_eq KF x).trans h)
def e68 : CallE := entry [none, some (.int .i64)] p68 q68 F68
theorem e68_ok : FunOk Try.prog 68 e68 := ⟨enters_of Try.func68 (by kernel_rfl) (c := b68) (by kernel_rfl), fun args y hy => entry_ok F68_ok args y hy⟩

/-! ### 155: spiritlevel/spiritlevelref05.Of -/
def p155 : PL := (.cons (.sl true .bool) .nil)
def q155 : PV := (.row 2000000)
def o155 : List (Nat × PO) := []
def oo155 : List (Nat × PO) := [(2000000, (.row 5 (.int .u8) false))]
def sp155_0 : SP := ⟨[(0, (.sl true .bool)), (3, (.row 9003)), (4, (.int .i64))], [(9003, (.row 5 (.int .u8) false))]⟩
def F155_0 {R : Type} (n : Nat) (k0_0 : (List Int) → Option R) (rec_0 : (List Bool) → Int → (List Int) → Option R) (x0 : (List Bool)) (x4 : Int) (r9003 : (List Int)) : Option R :=
  (bif (decide (x4 < ((x0.length : Nat) : Int))) then ((idxL x0 x4)).bind fun e0 =>
  (bif e0 then (bif (decide ((r9003.length + ((1 : Int) :: ([] : List Int)).length) ≤ LIM)) then (rec_0 (x0) ((Go.IntKind.wrap Go.IntKind.i64 (x4 + (1 : Int)))) ((r9003 ++ ((1 : Int) :: ([] : List Int)))))
  else none)
  else (bif (decide ((r9003.length + ((0 : Int) :: ([] : List Int)).length) ≤ LIM)) then (rec_0 (x0) ((Go.IntKind.wrap Go.IntKind.i64 (x4 + (1 : Int)))) ((r9003 ++ ((0 : Int) :: ([] : List Int)))))
  else none))
  else (k0_0 (r9003)))
def l155_0 {R : Type} (n : Nat) (k0_0 : (List Int) → Option R) : Nat → (List Bool) → Int → (List Int) → Option R
  | 0, _, _, _ => none
  | k + 1, x0, x4, r9003 => F155_0 n k0_0 (l155_0 n k0_0 k) x0 x4 r9003
def G155 (n : Nat) (x0 : (List Bool)) : Option (Unit × ((List Int) × Unit)) :=
  (l155_0 n (fun v1 =>
  (some ((), (v1, ())))) n (x0) ((0 : Int)) (([] : List Int)))
def F155 (x : (((List Bool) × Unit) × Unit)) : Option (Unit × ((List Int) × Unit)) := G155 KF x.1.1
def t155 : Nat → Option CallE := tabOf []
theorem t155_ok : TabOk Try.prog t155 := tabOf_ok _ trivial
def i155 : Nat → Option CallI := tabIOf []
theorem i155_ok : TabIOk Try.prog i155 := tabIOf_ok _ trivial
def c155 : Cfg := ⟨liveTab [(0, ⟨[(0, .keep), (3, .own), (4, .keep)], [17, 9003], [3], [9003], []⟩)], modeTab []⟩
noncomputable def b155 : Code := Try.f155.body.getD .skip
def lp155 {R : Type} (n : Nat) : Lp R := lpTab [(0, viaSP sp155_0 fun x K => l155_0 n (fun v0 => K (.exit 0) ⟨[.set 3 (.row 9003)], [.set 9003 (.row 5 (.int .u8) v0 false)]⟩) n x.1.1 x.1.2.2.1 x.2.1)]
noncomputable def b155_0 : Code := ((loopsIn b155 0).getD 0 (0, .skip)).2
theorem l155_0_step {R : Type} (n k : Nat) (x : sp155_0.vals) (K : Ex → St → Option R) : evL (fun s K => evC ⟨D, t155, i155⟩ c155 (lp155 n) b155_0 0 s K) (c155.live 0).head (c155.live 0).leave (k + 1) (sp155_0.mk' x) K = F155_0 n (fun v0 => K (.exit 0) ⟨[.set 3 (.row 9003)], [.set 9003 (.row 5 (.int .u8) v0 false)]⟩) (fun w0 w1 w2 => evL (fun s K => evC ⟨D, t155, i155⟩ c155 (lp155 n) b155_0 0 s K) (c155.live 0).head (c155.live 0).leave k (sp155_0.mk' ((w0, ((), (w1, ()))), (w2, ()))) K) x.1.1 x.1.2.2.1 x.2.1 := by kernel_rfl
theorem l155_0_ok {R : Type} (n : Nat) : ∀ (k : Nat) (x : sp155_0.vals) (K : Ex → St → Option R), evL (fun s K => evC ⟨D, t155, i155⟩ c155 (lp155 n) b155_0 0 s K) (c155.live 0).head (c155.live 0).leave k (sp155_0.mk' x) K = l155_0 n (fun v0 => K (.exit 0) ⟨[.set 3 (.row 9003)], [.set 9003 (.row 5 (.int .u8) v0 false)]⟩) k x.1.1 x.1.2.2.1 x.2.1
  | 0, _, _ => rfl
  | k + 1, x, K => (l155_0_step n k x K).trans (congrArg (fun rec => F155_0 n (fun v0 => K (.exit 0) ⟨[.set 3 (.row 9003)], [.set 9003 (.row 5 (.int .u8) v0 false)]⟩) rec x.1.1 x.1.2.2.1 x.2.1) (by funext w0 w1 w2; exact l155_0_ok n k ((w0, ((), (w1, ()))), (w2, ())) K))
theorem F155_eq (n : Nat) (x : p155.vals × obVals o155) : evFI ⟨D, t155, i155⟩ c155 (lp155 n) Try.f155 [(0, .own)] [] (p155.mk x.1) (obMk o155 x.2) (get2 q155 oo155) = G155 n x.1.1 := by kernel_rfl
theorem F155_ok (x : p155.vals × obVals o155) (y : q155.vals × obVals oo155) (h : F155 x = some y) : SoundI Try.prog 155 (p155.mk x.1) (obMk o155 x.2) (q155.mk y.1) (obMk oo155 y.2) :=
  evFI_sound hm hD ⟨t155_ok, i155_ok⟩ Try.func155 (c := b155) (by kernel_rfl) (by kernel_rfl) (fun v ob hv => get2_mk hv)
    (forall_loops _ [(0, b155_0)] (by kernel_rfl) ⟨fun s K r h => viaSP_good (p := sp155_0) (l155_0_ok KF KF) s K r h, trivial⟩) ((F155_eq KF x).trans h)
def e155 : CallI := entryI [some .bool] [] p155 o155 q155 oo155 F155
theorem e155_ok : FunIOk Try.prog 155 e155 := ⟨enters_of Try.func155 (by kernel_rfl) (c := b155) (by kernel_rfl), fun args obs y hy => entryI_ok F155_ok args obs y hy⟩

/-! ### 171: spiritlevel/spiritlevelref05.Other -/
def p171 : PL := (.cons (.int .u8) .nil)
def q171 : PV := (.int .u8)
def G171 (n : Nat) (x0 : Int) : Option Int :=
  (bif (x0 == (((0 : Nat) : Nat) : Int)) then (some (1 : Int))
  else (bif (x0 == ((((0 : Nat) + (1 : Nat)) : Nat) : Int)) then (some (0 : Int))
  else (bif (x0 == (((((0 : Nat) + (1 : Nat)) + (1 : Nat)) : Nat) : Int)) then (some (2 : Int))
  else none)))
def F171 (x : (Int × Unit)) : Option Int := G171 KF x.1
def t171 : Nat → Option CallE := tabOf []
theorem t171_ok : TabOk Try.prog t171 := tabOf_ok _ trivial
def i171 : Nat → Option CallI := tabIOf []
theorem i171_ok : TabIOk Try.prog i171 := tabIOf_ok _ trivial
def c171 : Cfg := ⟨liveTab [], modeTab []⟩
noncomputable def b171 : Code := Try.f171.body.getD .skip
def lp171 {R : Type} (n : Nat) : Lp R := lpTab []
theorem F171_eq (n : Nat) (x : p171.vals) : evF ⟨D, t171, i171⟩ c171 (lp171 n) Try.f171 (p171.mk x) q171.get = G171 n x.1 := by kernel_rfl
theorem F171_ok (x : p171.vals) (y : q171.vals) (h : F171 x = some y) : Sound Try.prog 171 (p171.mk x) (q171.mk y) :=
  evF_sound hm hD ⟨t171_ok, i171_ok⟩ Try.func171 (c := b171) (by kernel_rfl) (by kernel_rfl) (fun v hv => PV.get_mk _ _ _ hv)
    (forall_loops _ [] (by kernel_rfl) trivial) ((F171_eq KF x).trans h)
def e171 : CallE := entry [none] p171 q171 F171
theorem e171_ok : FunOk Try.prog 171 e171 := ⟨enters_of Try.func171 (by kernel_rfl) (c := b171) (by kernel_rfl), fun args y hy => entry_ok F171_ok args y hy⟩

/-! ### 167: spiritlevel/spiritlevelref05.Value -/
def p167 : PL := (.cons (.sl true (.int .u8)) (.cons (.int .i64) .nil))
def q167 : PV := (.int .u8)
def G167 (n : Nat) (x0 : (List Int)) (x1 : Int) : Option Int :=
  (bif ((Int.tmod x1 (2 : Int)) == (1 : Int)) then ((idxL x0 (Go.IntKind.wrap Go.IntKind.i64 (Int.tdiv x1 (2 : Int))))).bind fun e0 =>
  (F171 (e0, ())).bind fun (y1 : Int) =>
  (some y1)
  else ((idxL x0 (Go.IntKind.wrap Go.IntKind.i64 (Int.tdiv x1 (2 : Int))))).bind fun e2 =>
  (some e2))
def F167 (x : ((List Int) × (Int × Unit))) : Option Int := G167 KF x.1 x.2.1
def t167 : Nat → Option CallE := tabOf [(171, e171)]
theorem t167_ok : TabOk Try.prog t167 := tabOf_ok _ ⟨e171_ok, trivial⟩
def i167 : Nat → Option CallI := tabIOf []
theorem i167_ok : TabIOk Try.prog i167 := tabIOf_ok _ trivial
def c167 : Cfg := ⟨liveTab [], modeTab []⟩
noncomputable def b167 : Code := Try.f167.body.getD .skip
def lp167 {R : Type} (n : Nat) : Lp R := lpTab []
theorem F167_eq (n : Nat) (x : p167.vals) : evF ⟨D, t167, i167⟩ c167 (lp167 n) Try.f167 (p167.mk x) q167.get = G167 n x.1 x.2.1 := by kernel_rfl
theorem F167_ok (x : p167.vals) (y : q167.vals) (h : F167 x = some y) : Sound Try.prog 167 (p167.mk x) (q167.mk y) :=
  evF_sound hm hD ⟨t167_ok, i167_ok⟩ Try.func167 (c := b167) (by kernel_rfl) (by kernel_rfl) (fun v hv => PV.get_mk _ _ _ hv)
    (forall_loops _ [] (by kernel_rfl) trivial) ((F167_eq KF x).trans h)
def e167 : CallE := entry [some (.int .u8), none] p167 q167 F167
theorem e167_ok : FunOk Try.prog 167 e167 := ⟨enters_of Try.func167 (by kernel_rfl) (c := b167) (by kernel_rfl), fun args y hy => entry_ok F167_ok args y hy⟩

/-! ### 170: spiritlevel/spiritlevelref05.Both -/
def p170 : PL := (.cons (.int .u8) (.cons (.int .u8) .nil))
def q170 : PV := (.int .u8)
def G170 (n : Nat) (x0 : Int) (x1 : Int) : Option Int :=
  (bif (x0 == (((0 : Nat) : Nat) : Int)) then (bif (x1 == (((0 : Nat) : Nat) : Int)) then (some (0 : Int))
  else (bif (x1 == ((((0 : Nat) + (1 : Nat)) : Nat) : Int)) then (some (0 : Int))
  else (bif (x1 == (((((0 : Nat) + (1 : Nat)) + (1 : Nat)) : Nat) : Int)) then (some (0 : Int))
  else none)))
  else (bif (x0 == ((((0 : Nat) + (1 : Nat)) : Nat) : Int)) then (bif (x1 == (((0 : Nat) : Nat) : Int)) then (some (0 : Int))
  else (bif (x1 == ((((0 : Nat) + (1 : Nat)) : Nat) : Int)) then (some (1 : Int))
  else (bif (x1 == (((((0 : Nat) + (1 : Nat)) + (1 : Nat)) : Nat) : Int)) then (some (2 : Int))
  else none)))
  else (bif (x0 == (((((0 : Nat) + (1 : Nat)) + (1 : Nat)) : Nat) : Int)) then (bif (x1 == (((0 : Nat) : Nat) : Int)) then (some (0 : Int))
  else (bif (x1 == ((((0 : Nat) + (1 : Nat)) : Nat) : Int)) then (some (2 : Int))
  else (bif (x1 == (((((0 : Nat) + (1 : Nat)) + (1 : Nat)) : Nat) : Int)) then (some (2 : Int))
  else none)))
  else none)))
def F170 (x : (Int × (Int × Unit))) : Option Int := G170 KF x.1 x.2.1
def t170 : Nat → Option CallE := tabOf []
theorem t170_ok : TabOk Try.prog t170 := tabOf_ok _ trivial
def i170 : Nat → Option CallI := tabIOf []
theorem i170_ok : TabIOk Try.prog i170 := tabIOf_ok _ trivial
def c170 : Cfg := ⟨liveTab [], modeTab []⟩
noncomputable def b170 : Code := Try.f170.body.getD .skip
def lp170 {R : Type} (n : Nat) : Lp R := lpTab []
theorem F170_eq (n : Nat) (x : p170.vals) : evF ⟨D, t170, i170⟩ c170 (lp170 n) Try.f170 (p170.mk x) q170.get = G170 n x.1 x.2.1 := by kernel_rfl
theorem F170_ok (x : p170.vals) (y : q170.vals) (h : F170 x = some y) : Sound Try.prog 170 (p170.mk x) (q170.mk y) :=
  evF_sound hm hD ⟨t170_ok, i170_ok⟩ Try.func170 (c := b170) (by kernel_rfl) (by kernel_rfl) (fun v hv => PV.get_mk _ _ _ hv)
    (forall_loops _ [] (by kernel_rfl) trivial) ((F170_eq KF x).trans h)
def e170 : CallE := entry [none, none] p170 q170 F170
theorem e170_ok : FunOk Try.prog 170 e170 := ⟨enters_of Try.func170 (by kernel_rfl) (c := b170) (by kernel_rfl), fun args y hy => entry_ok F170_ok args y hy⟩

/-! ### 166: spiritlevel/spiritlevelref05.Frame -/
def p166 : PL := (.cons (.agg (.cons (.int .i64) (.cons (.sl true (.pair (.int .i64) (.int .i64))) (.cons (.sl true (.pair (.int .i64) (.int .i64))) (.cons (.sl true (.int .i64)) (.cons (.sl true (.int .i64)) .nil)))))) (.cons (.sl true (.int .u8)) (.cons (.sl true (.int .u8)) .nil)))
def q166 : PV := (.sl false (.int .u8))
def sp166_0 : SP := ⟨[(3, (.ptr 3 0)), (7, (.row 9)), (8, (.int .i64))], [(3, (.box (.cons (.int .i64) (.cons (.sl true (.pair (.int .i64) (.int .i64))) (.cons (.sl true (.pair (.int .i64) (.int .i64))) (.cons (.sl true (.int .i64)) (.cons (.sl true (.int .i64)) .nil))))))), (9, (.row 5 (.int .u8) false))]⟩
def F166_0 {R : Type} (n : Nat) (k0_0 : (List Int) → Option R) (rec_0 : Int → Int → (List (Int × Int)) → (List (Int × Int)) → (List Int) → (List Int) → (List Int) → Option R) (x8 : Int) (r3_0 : Int) (r3_1 : (List (Int × Int))) (r3_2 : (List (Int × Int))) (r3_3 : (List Int)) (r3_4 : (List Int)) (r9 : (List Int)) : Option R :=
  (bif (decide (x8 < ((r3_2.length : Nat) : Int))) then ((idxL r3_2 x8)).bind fun e0 =>
  (F167 (r9, (e0.1, ()))).bind fun (y1 : Int) =>
  ((idxL r3_2 x8)).bind fun e2 =>
  (F167 (r9, (e2.2, ()))).bind fun (y3 : Int) =>
  (F170 (y1, (y3, ()))).bind fun (y4 : Int) =>
  (bif (decide ((r9.length + (y4 :: ([] : List Int)).length) ≤ LIM)) then (rec_0 ((Go.IntKind.wrap Go.IntKind.i64 (x8 + (1 : Int)))) (r3_0) (r3_1) (r3_2) (r3_3) (r3_4) ((r9 ++ (y4 :: ([] : List Int)))))
  else none)
  else (k0_0 (r9)))
def l166_0 {R : Type} (n : Nat) (k0_0 : (List Int) → Option R) : Nat → Int → Int → (List (Int × Int)) → (List (Int × Int)) → (List Int) → (List Int) → (List Int) → Option R
  | 0, _, _, _, _, _, _, _ => none
  | k + 1, x8, r3_0, r3_1, r3_2, r3_3, r3_4, r9 => F166_0 n k0_0 (l166_0 n k0_0 k) x8 r3_0 r3_1 r3_2 r3_3 r3_4 r9
def G166 (n : Nat) (x0_0 : Int) (x0_1 : (List (Int × Int))) (x0_2 : (List (Int × Int))) (x0_3 : (List Int)) (x0_4 : (List Int)) (x1 : (List Int)) (x2 : (List Int)) : Option (List Int) :=
  (bif (decide ((((0 : Int) :: ([] : List Int)).length + x2.length) ≤ LIM)) then (bif (decide (((((0 : Int) :: ([] : List Int)) ++ x2).length + x1.length) ≤ LIM)) then (l166_0 n (fun v5 =>
  (some v5)) n ((0 : Int)) (x0_0) (x0_1) (x0_2) (x0_3) (x0_4) (((((0 : Int) :: ([] : List Int)) ++ x2) ++ x1)))
  else none)
  else none)
def F166 (x : ((Int × ((List (Int × Int)) × ((List (Int × Int)) × ((List Int) × ((List Int) × Unit))))) × ((List Int) × ((List Int) × Unit)))) : Option (List Int) := G166 KF x.1.1 x.1.2.1 x.1.2.2.1 x.1.2.2.2.1 x.1.2.2.2.2.1 x.2.1 x.2.2.1
def t166 : Nat → Option CallE := tabOf [(170, e170), (167, e167)]
theorem t166_ok : TabOk Try.prog t166 := tabOf_ok _ ⟨e170_ok, ⟨e167_ok, trivial⟩⟩
def i166 : Nat → Option CallI := tabIOf []
theorem i166_ok : TabIOk Try.prog i166 := tabIOf_ok _ trivial
def c166 : Cfg := ⟨liveTab [(0, ⟨[(3, .keep), (7, .keep), (8, .keep)], [3, 9], [7], [9], []⟩)], modeTab [(6, .any [19])]⟩
noncomputable def b166 : Code := Try.f166.body.getD .skip
def lp166 {R : Type} (n : Nat) : Lp R := lpTab [(0, viaSP sp166_0 fun x K => l166_0 n (fun v0 => K (.exit 0) ⟨[.set 7 (.row 9)], [.set 9 (.row 5 (.int .u8) v0 false)]⟩) n x.1.2.2.1 x.2.1.1 x.2.1.2.1 x.2.1.2.2.1 x.2.1.2.2.2.1 x.2.1.2.2.2.2.1 x.2.2.1)]
noncomputable def b166_0 : Code := ((loopsIn b166 0).getD 0 (0, .skip)).2
theorem l166_0_step {R : Type} (n k : Nat) (x : sp166_0.vals) (K : Ex → St → Option R) : evL (fun s K => evC ⟨D, t166, i166⟩ c166 (lp166 n) b166_0 0 s K) (c166.live 0).head (c166.live 0).leave (k + 1) (sp166_0.mk' x) K = F166_0 n (fun v0 => K (.exit 0) ⟨[.set 7 (.row 9)], [.set 9 (.row 5 (.int .u8) v0 false)]⟩) (fun w0 w1 w2 w3 w4 w5 w6 => evL (fun s K => evC ⟨D, t166, i166⟩ c166 (lp166 n) b166_0 0 s K) (c166.live 0).head (c166.live 0).leave k (sp166_0.mk' (((), ((), (w0, ()))), ((w1, (w2, (w3, (w4, (w5, ()))))), (w6, ())))) K) x.1.2.2.1 x.2.1.1 x.2.1.2.1 x.2.1.2.2.1 x.2.1.2.2.2.1 x.2.1.2.2.2.2.1 x.2.2.1 := by kernel_rfl
theorem l166_0_ok {R : Type} (n : Nat) : ∀ (k : Nat) (x : sp166_0.vals) (K : Ex → St → Option R), evL (fun s K => evC ⟨D, t166, i166⟩ c166 (lp166 n) b166_0 0 s K) (c166.live 0).head (c166.live 0).leave k (sp166_0.mk' x) K = l166_0 n (fun v0 => K (.exit 0) ⟨[.set 7 (.row 9)], [.set 9 (.row 5 (.int .u8) v0 false)]⟩) k x.1.2.2.1 x.2.1.1 x.2.1.2.1 x.2.1.2.2.1 x.2.1.2.2.2.1 x.2.1.2.2.2.2.1 x.2.2.1
  | 0, _, _ => rfl
  | k + 1, x, K => (l166_0_step n k x K).trans (congrArg (fun rec => F166_0 n (fun v0 => K (.exit 0) ⟨[.set 7 (.row 9)], [.set 9 (.row 5 (.int .u8) v0 false)]⟩) rec x.1.2.2.1 x.2.1.1 x.2.1.2.1 x.2.1.2.2.1 x.2.1.2.2.2.1 x.2.1.2.2.2.2.1 x.2.2.1) (by funext w0 w1 w2 w3 w4 w5 w6; exact l166_0_ok n k (((), ((), (w0, ()))), ((w1, (w2, (w3, (w4, (w5, ()))))), (w6, ()))) K))
theorem F166_eq (n : Nat) (x : p166.vals) : evF ⟨D, t166, i166⟩ c166 (lp166 n) Try.f166 (p166.mk x) q166.get = G166 n x.1.1 x.1.2.1 x.1.2.2.1 x.1.2.2.2.1 x.1.2.2.2.2.1 x.2.1 x.2.2.1 := by kernel_rfl
theorem F166_ok (x : p166.vals) (y : q166.vals) (h : F166 x = some y) : Sound Try.prog 166 (p166.mk x) (q166.mk y) :=
  evF_sound hm hD ⟨t166_ok, i166_ok⟩ Try.func166 (c := b166) (by kernel_rfl) (by kernel_rfl) (fun v hv => PV.get_mk _ _ _ hv)
    (forall_loops _ [(0, b166_0)] (by kernel_rfl) ⟨fun s K r h => viaSP_good (p := sp166_0) (l166_0_ok KF KF) s K r h, trivial⟩) ((F166_eq KF x).trans h)
def e166 : CallE := entry [none, some (.int .u8), some (.int .u8)] p166 q166 F166
theorem e166_ok : FunOk Try.prog 166 e166 := ⟨enters_of Try.func166 (by kernel_rfl) (c := b166) (by kernel_rfl), fun args y hy => entry_ok F166_ok args y hy⟩

/-! ### 156: spiritlevel/spiritlevelref39.goes -/
def p156 : PL := (.cons (.agg (.cons (.int .i64) (.cons (.sl true (.pair (.int .i64) (.int .i64))) (.cons (.sl true (.pair (.int .i64) (.int .i64))) (.cons (.sl true (.int .i64)) (.cons (.sl true (.int .i64)) .nil)))))) (.cons (.sl true (.int .u8)) (.cons (.sl true (.int .u8)) (.cons (.sl true (.int .i64)) (.cons .bool .nil)))))
def q156 : PV := .bool
def sp156_4 : SP := ⟨[(3, (.sl true (.int .i64))), (5, (.ptr 5 0)), (11, (.sl false (.int .u8))), (14, (.int .i64))], [(5, (.box (.cons (.int .i64) (.cons (.sl true (.pair (.int .i64) (.int .i64))) (.cons (.sl true (.pair (.int .i64) (.int .i64))) (.cons (.sl true (.int .i64)) (.cons (.sl true (.int .i64)) .nil)))))))]⟩
def F156_4 {R : Type} (n : Nat) (k4_0 : Bool → Option R) (k4_1 : Option R) (rec_4 : (List Int) → (List Int) → Int → Int → (List (Int × Int)) → (List (Int × Int)) → (List Int) → (List Int) → Option R) (x3 : (List Int)) (x11 : (List Int)) (x14 : Int) (r5_0 : Int) (r5_1 : (List (Int × Int))) (r5_2 : (List (Int × Int))) (r5_3 : (List Int)) (r5_4 : (List Int)) : Option R :=
  (bif (decide (x14 < ((x3.length : Nat) : Int))) then ((idxL x3 x14)).bind fun e23 =>
  (bif ((Int.tmod e23 (2 : Int)) == (1 : Int)) then ((idxL x3 x14)).bind fun e24 =>
  ((idxL r5_1 (Go.IntKind.wrap Go.IntKind.i64 ((Go.IntKind.wrap Go.IntKind.i64 (Int.tdiv e24 (2 : Int))) - (1 : Int))))).bind fun e25 =>
  (F167 (x11, (e25.1, ()))).bind fun (y26 : Int) =>
  (bif (y26 != (0 : Int)) then (k4_0 (Bool.false))
  else (rec_4 (x3) (x11) ((Go.IntKind.wrap Go.IntKind.i64 (x14 + (1 : Int)))) (r5_0) (r5_1) (r5_2) (r5_3) (r5_4)))
  else ((idxL x3 x14)).bind fun e27 =>
  ((idxL r5_1 (Go.IntKind.wrap Go.IntKind.i64 ((Go.IntKind.wrap Go.IntKind.i64 (Int.tdiv e27 (2 : Int))) - (1 : Int))))).bind fun e28 =>
  (F167 (x11, (e28.1, ()))).bind fun (y29 : Int) =>
  (bif (y29 != (1 : Int)) then (k4_0 (Bool.false))
  else (rec_4 (x3) (x11) ((Go.IntKind.wrap Go.IntKind.i64 (x14 + (1 : Int)))) (r5_0) (r5_1) (r5_2) (r5_3) (r5_4))))
  else (k4_1 ))
def l156_4 {R : Type} (n : Nat) (k4_0 : Bool → Option R) (k4_1 : Option R) : Nat → (List Int) → (List Int) → Int → Int → (List (Int × Int)) → (List (Int × Int)) → (List Int) → (List Int) → Option R
  | 0, _, _, _, _, _, _, _, _ => none
  | k + 1, x3, x11, x14, r5_0, r5_1, r5_2, r5_3, r5_4 => F156_4 n k4_0 k4_1 (l156_4 n k4_0 k4_1 k) x3 x11 x14 r5_0 r5_1 r5_2 r5_3 r5_4
def sp156_2 : SP := ⟨[(5, (.ptr 5 0)), (11, (.sl false (.int .u8))), (13, (.int .i64))], [(5, (.box (.cons (.int .i64) (.cons (.sl true (.pair (.int .i64) (.int .i64))) (.cons (.sl true (.pair (.int .i64) (.int .i64))) (.cons (.sl true (.int .i64)) (.cons (.sl true (.int .i64)) .nil)))))))]⟩
def F156_2 {R : Type} (n : Nat) (k2_0 : Bool → Option R) (k2_1 : Option R) (rec_2 : (List Int) → Int → Int → (List (Int × Int)) → (List (Int × Int)) → (List Int) → (List Int) → Option R) (x11 : (List Int)) (x13 : Int) (r5_0 : Int) (r5_1 : (List (Int × Int))) (r5_2 : (List (Int × Int))) (r5_3 : (List Int)) (r5_4 : (List Int)) : Option R :=
  (bif (decide (x13 < ((r5_3.length : Nat) : Int))) then ((idxL r5_3 x13)).bind fun e20 =>
  (F167 (x11, (e20, ()))).bind fun (y21 : Int) =>
  (bif (y21 == (1 : Int)) then (k2_0 (Bool.true))
  else (rec_2 (x11) ((Go.IntKind.wrap Go.IntKind.i64 (x13 + (1 : Int)))) (r5_0) (r5_1) (r5_2) (r5_3) (r5_4)))
  else (k2_1 ))
def l156_2 {R : Type} (n : Nat) (k2_0 : Bool → Option R) (k2_1 : Option R) : Nat → (List Int) → Int → Int → (List (Int × Int)) → (List (Int × Int)) → (List Int) → (List Int) → Option R
  | 0, _, _, _, _, _, _, _ => none
  | k + 1, x11, x13, r5_0, r5_1, r5_2, r5_3, r5_4 => F156_2 n k2_0 k2_1 (l156_2 n k2_0 k2_1 k) x11 x13 r5_0 r5_1 r5_2 r5_3 r5_4
def sp156_0 : SP := ⟨[(3, (.sl true (.int .i64))), (4, .bool), (5, (.ptr 5 0)), (11, (.sl false (.int .u8))), (12, (.int .i64))], [(5, (.box (.cons (.int .i64) (.cons (.sl true (.pair (.int .i64) (.int .i64))) (.cons (.sl true (.pair (.int .i64) (.int .i64))) (.cons (.sl true (.int .i64)) (.cons (.sl true (.int .i64)) .nil)))))))]⟩
def F156_0 {R : Type} (n : Nat) (k0_0 : (List Int) → Bool → Bool → (List Int) → Int → (List (Int × Int)) → (List (Int × Int)) → (List Int) → (List Int) → Option R) (k0_1 : (List Int) → Bool → (List Int) → Int → (List (Int × Int)) → (List (Int × Int)) → (List Int) → (List Int) → Option R) (rec_0 : (List Int) → Bool → (List Int) → Int → Int → (List (Int × Int)) → (List (Int × Int)) → (List Int) → (List Int) → Option R) (x3 : (List Int)) (x4 : Bool) (x11 : (List Int)) (x12 : Int) (r5_0 : Int) (r5_1 : (List (Int × Int))) (r5_2 : (List (Int × Int))) (r5_3 : (List Int)) (r5_4 : (List Int)) : Option R :=
  (bif (decide (x12 < ((r5_4.length : Nat) : Int))) then ((idxL r5_4 x12)).bind fun e1 =>
  (F167 (x11, (e1, ()))).bind fun (y2 : Int) =>
  (bif (y2 != (1 : Int)) then (k0_0 (x3) (x4) (Bool.false) (x11) (r5_0) (r5_1) (r5_2) (r5_3) (r5_4))
  else (rec_0 (x3) (x4) (x11) ((Go.IntKind.wrap Go.IntKind.i64 (x12 + (1 : Int)))) (r5_0) (r5_1) (r5_2) (r5_3) (r5_4)))
  else (k0_1 (x3) (x4) (x11) (r5_0) (r5_1) (r5_2) (r5_3) (r5_4)))
def l156_0 {R : Type} (n : Nat) (k0_0 : (List Int) → Bool → Bool → (List Int) → Int → (List (Int × Int)) → (List (Int × Int)) → (List Int) → (List Int) → Option R) (k0_1 : (List Int) → Bool → (List Int) → Int → (List (Int × Int)) → (List (Int × Int)) → (List Int) → (List Int) → Option R) : Nat → (List Int) → Bool → (List Int) → Int → Int → (List (Int × Int)) → (List (Int × Int)) → (List Int) → (List Int) → Option R
  | 0, _, _, _, _, _, _, _, _, _ => none
  | k + 1, x3, x4, x11, x12, r5_0, r5_1, r5_2, r5_3, r5_4 => F156_0 n k0_0 k0_1 (l156_0 n k0_0 k0_1 k) x3 x4 x11 x12 r5_0 r5_1 r5_2 r5_3 r5_4
def G156 (n : Nat) (x0_0 : Int) (x0_1 : (List (Int × Int))) (x0_2 : (List (Int × Int))) (x0_3 : (List Int)) (x0_4 : (List Int)) (x1 : (List Int)) (x2 : (List Int)) (x3 : (List Int)) (x4 : Bool) : Option Bool :=
  (F166 ((x0_0, (x0_1, (x0_2, (x0_3, (x0_4, ()))))), (x1, (x2, ())))).bind fun (y0 : (List Int)) =>
  (l156_0 n (fun v3 v4 v5 v6 v7 v8 v9 v10 v11 =>
  (some v5)) (fun v12 v13 v14 v15 v16 v17 v18 v19 =>
  (bif v13 then (l156_2 n (fun v22 =>
  (some v22)) ((some Bool.false)) n (v14) ((0 : Int)) (v15) (v16) (v17) (v18) (v19))
  else (l156_4 n (fun v30 =>
  (some v30)) ((some Bool.true)) n (v12) (v14) ((0 : Int)) (v15) (v16) (v17) (v18) (v19)))) n (x3) (x4) (y0) ((0 : Int)) (x0_0) (x0_1) (x0_2) (x0_3) (x0_4))
def F156 (x : ((Int × ((List (Int × Int)) × ((List (Int × Int)) × ((List Int) × ((List Int) × Unit))))) × ((List Int) × ((List Int) × ((List Int) × (Bool × Unit)))))) : Option Bool := G156 KF x.1.1 x.1.2.1 x.1.2.2.1 x.1.2.2.2.1 x.1.2.2.2.2.1 x.2.1 x.2.2.1 x.2.2.2.1 x.2.2.2.2.1
def t156 : Nat → Option CallE := tabOf [(167, e167), (166, e166)]
theorem t156_ok : TabOk Try.prog t156 := tabOf_ok _ ⟨e167_ok, ⟨e166_ok, trivial⟩⟩
def i156 : Nat → Option CallI := tabIOf []
theorem i156_ok : TabIOk Try.prog i156 := tabIOf_ok _ trivial
def c156 : Cfg := ⟨liveTab [(0, ⟨[(3, .keep), (4, .keep), (5, .keep), (11, .keep), (12, .keep)], [5], [3, 4, 5, 10, 11], [5], []⟩), (2, ⟨[(5, .keep), (11, .keep), (13, .keep)], [5], [10], [], []⟩), (4, ⟨[(3, .keep), (5, .keep), (11, .keep), (14, .keep)], [5], [10], [], []⟩)], modeTab [(20, .quiet)]⟩
noncomputable def b156 : Code := Try.f156.body.getD .skip
def lp156 {R : Type} (n : Nat) : Lp R := lpTab [(4, viaSP sp156_4 fun x K => l156_4 n (fun v0 => K (.ret) ⟨[.set 10 (.bool v0)], []⟩) (K (.exit 4) ⟨[.set 10 (.top)], []⟩) n x.1.1 x.1.2.2.1 x.1.2.2.2.1 x.2.1.1 x.2.1.2.1 x.2.1.2.2.1 x.2.1.2.2.2.1 x.2.1.2.2.2.2.1), (2, viaSP sp156_2 fun x K => l156_2 n (fun v0 => K (.ret) ⟨[.set 10 (.bool v0)], []⟩) (K (.exit 2) ⟨[.set 10 (.top)], []⟩) n x.1.2.1 x.1.2.2.1 x.2.1.1 x.2.1.2.1 x.2.1.2.2.1 x.2.1.2.2.2.1 x.2.1.2.2.2.2.1), (0, viaSP sp156_0 fun x K => l156_0 n (fun v0 v1 v2 v3 v4 v5 v6 v7 v8 => K (.ret) ⟨[.set 3 (.sl true (.int .i64) v0), .set 4 (.bool v1), .set 5 (.ptr 5 0), .set 10 (.bool v2), .set 11 (.sl false (.int .u8) v3)], [.set 5 (.box [.int .i64 v4, .sl true (.pair (.int .i64) (.int .i64)) v5, .sl true (.pair (.int .i64) (.int .i64)) v6, .sl true (.int .i64) v7, .sl true (.int .i64) v8])]⟩) (fun v0 v1 v2 v3 v4 v5 v6 v7 => K (.exit 0) ⟨[.set 3 (.sl true (.int .i64) v0), .set 4 (.bool v1), .set 5 (.ptr 5 0), .set 10 (.top), .set 11 (.sl false (.int .u8) v2)], [.set 5 (.box [.int .i64 v3, .sl true (.pair (.int .i64) (.int .i64)) v4, .sl true (.pair (.int .i64) (.int .i64)) v5, .sl true (.int .i64) v6, .sl true (.int .i64) v7])]⟩) n x.1.1 x.1.2.1 x.1.2.2.2.1 x.1.2.2.2.2.1 x.2.1.1 x.2.1.2.1 x.2.1.2.2.1 x.2.1.2.2.2.1 x.2.1.2.2.2.2.1)]
noncomputable def b156_0 : Code := ((loopsIn b156 0).getD 0 (0, .skip)).2
theorem l156_0_step {R : Type} (n k : Nat) (x : sp156_0.vals) (K : Ex → St → Option R) : evL (fun s K => evC ⟨D, t156, i156⟩ c156 (lp156 n) b156_0 0 s K) (c156.live 0).head (c156.live 0).leave (k + 1) (sp156_0.mk' x) K = F156_0 n (fun v0 v1 v2 v3 v4 v5 v6 v7 v8 => K (.ret) ⟨[.set 3 (.sl true (.int .i64) v0), .set 4 (.bool v1), .set 5 (.ptr 5 0), .set 10 (.bool v2), .set 11 (.sl false (.int .u8) v3)], [.set 5 (.box [.int .i64 v4, .sl true (.pair (.int .i64) (.int .i64)) v5, .sl true (.pair (.int .i64) (.int .i64)) v6, .sl true (.int .i64) v7, .sl true (.int .i64) v8])]⟩) (fun v0 v1 v2 v3 v4 v5 v6 v7 => K (.exit 0) ⟨[.set 3 (.sl true (.int .i64) v0), .set 4 (.bool v1), .set 5 (.ptr 5 0), .set 10 (.top), .set 11 (.sl false (.int .u8) v2)], [.set 5 (.box [.int .i64 v3, .sl true (.pair (.int .i64) (.int .i64)) v4, .sl true (.pair (.int .i64) (.int .i64)) v5, .sl true (.int .i64) v6, .sl true (.int .i64) v7])]⟩) (fun w0 w1 w2 w3 w4 w5 w6 w7 w8 => evL (fun s K => evC ⟨D, t156, i156⟩ c156 (lp156 n) b156_0 0 s K) (c156.live 0).head (c156.live 0).leave k (sp156_0.mk' ((w0, (w1, ((), (w2, (w3, ()))))), ((w4, (w5, (w6, (w7, (w8, ()))))), ()))) K) x.1.1 x.1.2.1 x.1.2.2.2.1 x.1.2.2.2.2.1 x.2.1.1 x.2.1.2.1 x.2.1.2.2.1 x.2.1.2.2.2.1 x.2.1.2.2.2.2.1 := by kernel_rfl
theorem l156_0_ok {R : Type} (n : Nat) : ∀ (k : Nat) (x : sp156_0.vals) (K : Ex → St → Option R), evL (fun s K => evC ⟨D, t156, i156⟩ c156 (lp156 n) b156_0 0 s K) (c156.live 0).head (c156.live 0).leave k (sp156_0.mk' x) K = l156_0 n (fun v0 v1 v2 v3 v4 v5 v6 v7 v8 => K (.ret) ⟨[.set 3 (.sl true (.int .i64) v0), .set 4 (.bool v1), .set 5 (.ptr 5 0), .set 10 (.bool v2), .set 11 (.sl false (.int .u8) v3)], [.set 5 (.box [.int .i64 v4, .sl true (.pair (.int .i64) (.int .i64)) v5, .sl true (.pair (.int .i64) (.int .i64)) v6, .sl true (.int .i64) v7, .sl true (.int .i64) v8])]⟩) (fun v0 v1 v2 v3 v4 v5 v6 v7 => K (.exit 0) ⟨[.set 3 (.sl true (.int .i64) v0), .set 4 (.bool v1), .set 5 (.ptr 5 0), .set 10 (.top), .set 11 (.sl false (.int .u8) v2)], [.set 5 (.box [.int .i64 v3, .sl true (.pair (.int .i64) (.int .i64)) v4, .sl true (.pair (.int .i64) (.int .i64)) v5, .sl true (.int .i64) v6, .sl true (.int .i64) v7])]⟩) k x.1.1 x.1.2.1 x.1.2.2.2.1 x.1.2.2.2.2.1 x.2.1.1 x.2.1.2.1 x.2.1.2.2.1 x.2.1.2.2.2.1 x.2.1.2.2.2.2.1
  | 0, _, _ => rfl
  | k + 1, x, K => (l156_0_step n k x K).trans (congrArg (fun rec => F156_0 n (fun v0 v1 v2 v3 v4 v5 v6 v7 v8 => K (.ret) ⟨[.set 3 (.sl true (.int .i64) v0), .set 4 (.bool v1), .set 5 (.ptr 5 0), .set 10 (.bool v2), .set 11 (.sl false (.int .u8) v3)], [.set 5 (.box [.int .i64 v4, .sl true (.pair (.int .i64) (.int .i64)) v5, .sl true (.pair (.int .i64) (.int .i64)) v6, .sl true (.int .i64) v7, .sl true (.int .i64) v8])]⟩) (fun v0 v1 v2 v3 v4 v5 v6 v7 => K (.exit 0) ⟨[.set 3 (.sl true (.int .i64) v0), .set 4 (.bool v1), .set 5 (.ptr 5 0), .set 10 (.top), .set 11 (.sl false (.int .u8) v2)], [.set 5 (.box [.int .i64 v3, .sl true (.pair (.int .i64) (.int .i64)) v4, .sl true (.pair (.int .i64) (.int .i64)) v5, .sl true (.int .i64) v6, .sl true (.int .i64) v7])]⟩) rec x.1.1 x.1.2.1 x.1.2.2.2.1 x.1.2.2.2.2.1 x.2.1.1 x.2.1.2.1 x.2.1.2.2.1 x.2.1.2.2.2.1 x.2.1.2.2.2.2.1) (by funext w0 w1 w2 w3 w4 w5 w6 w7 w8; exact l156_0_ok n k ((w0, (w1, ((), (w2, (w3, ()))))), ((w4, (w5, (w6, (w7, (w8, ()))))), ())) K))
noncomputable def b156_1 : Code := ((loopsIn b156 0).getD 1 (0, .skip)).2
theorem l156_2_step {R : Type} (n k : Nat) (x : sp156_2.vals) (K : Ex → St → Option R) : evL (fun s K => evC ⟨D, t156, i156⟩ c156 (lp156 n) b156_1 2 s K) (c156.live 2).head (c156.live 2).leave (k + 1) (sp156_2.mk' x) K = F156_2 n (fun v0 => K (.ret) ⟨[.set 10 (.bool v0)], []⟩) (K (.exit 2) ⟨[.set 10 (.top)], []⟩) (fun w0 w1 w2 w3 w4 w5 w6 => evL (fun s K => evC ⟨D, t156, i156⟩ c156 (lp156 n) b156_1 2 s K) (c156.live 2).head (c156.live 2).leave k (sp156_2.mk' (((), (w0, (w1, ()))), ((w2, (w3, (w4, (w5, (w6, ()))))), ()))) K) x.1.2.1 x.1.2.2.1 x.2.1.1 x.2.1.2.1 x.2.1.2.2.1 x.2.1.2.2.2.1 x.2.1.2.2.2.2.1 := by kernel_rfl
theorem l156_2_ok {R : Type} (n : Nat) : ∀ (k : Nat) (x : sp156_2.vals) (K : Ex → St → Option R), evL (fun s K => evC ⟨D, t156, i156⟩ c156 (lp156 n) b156_1 2 s K) (c156.live 2).head (c156.live 2).leave k (sp156_2.mk' x) K = l156_2 n (fun v0 => K (.ret) ⟨[.set 10 (.bool v0)], []⟩) (K (.exit 2) ⟨[.set 10 (.top)], []⟩) k x.1.2.1 x.1.2.2.1 x.2.1.1 x.2.1.2.1 x.2.1.2.2.1 x.2.1.2.2.2.1 x.2.1.2.2.2.2.1
  | 0, _, _ => rfl
  | k + 1, x, K => (l156_2_step n k x K).trans (congrArg (fun rec => F156_2 n (fun v0 => K (.ret) ⟨[.set 10 (.bool v0)], []⟩) (K (.exit 2) ⟨[.set 10 (.top)], []⟩) rec x.1.2.1 x.1.2.2.1 x.2.1.1 x.2.1.2.1 x.2.1.2.2.1 x.2.1.2.2.2.1 x.2.1.2.2.2.2.1) (by funext w0 w1 w2 w3 w4 w5 w6; exact l156_2_ok n k (((), (w0, (w1, ()))), ((w2, (w3, (w4, (w5, (w6, ()))))), ())) K))
noncomputable def b156_2 : Code := ((loopsIn b156 0).getD 2 (0, .skip)).2
theorem l156_4_step {R : Type} (n k : Nat) (x : sp156_4.vals) (K : Ex → St → Option R) : evL (fun s K => evC ⟨D, t156, i156⟩ c156 (lp156 n) b156_2 4 s K) (c156.live 4).head (c156.live 4).leave (k + 1) (sp156_4.mk' x) K = F156_4 n (fun v0 => K (.ret) ⟨[.set 10 (.bool v0)], []⟩) (K (.exit 4) ⟨[.set 10 (.top)], []⟩) (fun w0 w1 w2 w3 w4 w5 w6 w7 => evL (fun s K => evC ⟨D, t156, i156⟩ c156 (lp156 n) b156_2 4 s K) (c156.live 4).head (c156.live 4).leave k (sp156_4.mk' ((w0, ((), (w1, (w2, ())))), ((w3, (w4, (w5, (w6, (w7, ()))))), ()))) K) x.1.1 x.1.2.2.1 x.1.2.2.2.1 x.2.1.1 x.2.1.2.1 x.2.1.2.2.1 x.2.1.2.2.2.1 x.2.1.2.2.2.2.1 := by kernel_rfl
theorem l156_4_ok {R : Type} (n : Nat) : ∀ (k : Nat) (x : sp156_4.vals) (K : Ex → St → Option R), evL (fun s K => evC ⟨D, t156, i156⟩ c156 (lp156 n) b156_2 4 s K) (c156.live 4).head (c156.live 4).leave k (sp156_4.mk' x) K = l156_4 n (fun v0 => K (.ret) ⟨[.set 10 (.bool v0)], []⟩) (K (.exit 4) ⟨[.set 10 (.top)], []⟩) k x.1.1 x.1.2.2.1 x.1.2.2.2.1 x.2.1.1 x.2.1.2.1 x.2.1.2.2.1 x.2.1.2.2.2.1 x.2.1.2.2.2.2.1
  | 0, _, _ => rfl
  | k + 1, x, K => (l156_4_step n k x K).trans (congrArg (fun rec => F156_4 n (fun v0 => K (.ret) ⟨[.set 10 (.bool v0)], []⟩) (K (.exit 4) ⟨[.set 10 (.top)], []⟩) rec x.1.1 x.1.2.2.1 x.1.2.2.2.1 x.2.1.1 x.2.1.2.1 x.2.1.2.2.1 x.2.1.2.2.2.1 x.2.1.2.2.2.2.1) (by funext w0 w1 w2 w3 w4 w5 w6 w7; exact l156_4_ok n k ((w0, ((), (w1, (w2, ())))), ((w3, (w4, (w5, (w6, (w7, ()))))), ())) K))
theorem F156_eq (n : Nat) (x : p156.vals) : evF ⟨D, t156, i156⟩ c156 (lp156 n) Try.f156 (p156.mk x) q156.get = G156 n x.1.1 x.1.2.1 x.1.2.2.1 x.1.2.2.2.1 x.1.2.2.2.2.1 x.2.1 x.2.2.1 x.2.2.2.1 x.2.2.2.2.1 := by kernel_rfl
theorem F156_ok (x : p156.vals) (y : q156.vals) (h : F156 x = some y) : Sound Try.prog 156 (p156.mk x) (q156.mk y) :=
  evF_sound hm hD ⟨t156_ok, i156_ok⟩ Try.func156 (c := b156) (by kernel_rfl) (by kernel_rfl) (fun v hv => PV.get_mk _ _ _ hv)
    (forall_loops _ [(0, b156_0), (2, b156_1), (4, b156_2)] (by kernel_rfl) ⟨fun s K r h => viaSP_good (p := sp156_0) (l156_0_ok KF KF) s K r h, ⟨fun s K r h => viaSP_good (p := sp156_2) (l156_2_ok KF KF) s K r h, ⟨fun s K r h => viaSP_good (p := sp156_4) (l156_4_ok KF KF) s K r h, trivial⟩⟩⟩) ((F156_eq KF x).trans h)
def e156 : CallE := entry [none, some (.int .u8), some (.int .u8), some (.int .i64), none] p156 q156 F156
theorem e156_ok : FunOk Try.prog 156 e156 := ⟨enters_of Try.func156 (by kernel_rfl) (c := b156) (by kernel_rfl), fun args y hy => entry_ok F156_ok args y hy⟩

/-! ### 136: spiritlevel/spiritlevelref39.Smaller -/
def p136 : PL := (.cons (.agg (.cons (.int .i64) (.cons (.sl true (.pair (.int .i64) (.int .i64))) (.cons (.sl true (.pair (.int .i64) (.int .i64))) (.cons (.sl true (.int .i64)) (.cons (.sl true (.int .i64)) .nil)))))) (.cons (.sl true .bool) (.cons (.sl true .bool) (.cons (.sl true (.int .i64)) (.cons .bool .nil)))))
def q136 : PV := (.tup (.cons (.sl false (.int .i64)) (.cons .bool .nil)))
def sp136_0 : SP := ⟨[(3, (.sl true (.int .i64))), (4, .bool), (5, (.ptr 5 0)), (12, (.row 192000000)), (13, (.row 212000000)), (14, (.row 9014)), (15, (.int .i64))], [(5, (.box (.cons (.int .i64) (.cons (.sl true (.pair (.int .i64) (.int .i64))) (.cons (.sl true (.pair (.int .i64) (.int .i64))) (.cons (.sl true (.int .i64)) (.cons (.sl true (.int .i64)) .nil))))))), (192000000, (.row 5 (.int .u8) false)), (212000000, (.row 5 (.int .u8) false)), (9014, (.row 3 (.int .i64) false))]⟩
def F136_0 {R : Type} (n : Nat) (k0_0 : (List Int) → Option R) (rec_0 : (List Int) → Bool → Int → Int → (List (Int × Int)) → (List (Int × Int)) → (List Int) → (List Int) → (List Int) → (List Int) → (List Int) → Option R) (x3 : (List Int)) (x4 : Bool) (x15 : Int) (r5_0 : Int) (r5_1 : (List (Int × Int))) (r5_2 : (List (Int × Int))) (r5_3 : (List Int)) (r5_4 : (List Int)) (r192000000 : (List Int)) (r212000000 : (List Int)) (r9014 : (List Int)) : Option R :=
  (bif (decide (x15 < ((r192000000.length : Nat) : Int))) then (bif ((decide ((0 : Int) ≤ x15)) && (decide ((Int.toNat x15) < r192000000.length))) then ((r192000000[(Int.toNat x15)]?)).bind fun e3 =>
  (bif ((decide ((0 : Int) ≤ x15)) && (decide ((Int.toNat x15) < r192000000.length))) then ((r192000000[(Int.toNat x15)]?)).bind fun e4 =>
  (F156 ((r5_0, (r5_1, (r5_2, (r5_3, (r5_4, ()))))), ((List.set r192000000 (Int.toNat x15) (2 : Int)), (r212000000, (x3, (x4, ())))))).bind fun (y5 : Bool) =>
  (bif (!y5) then (bif ((decide ((0 : Int) ≤ x15)) && (decide ((Int.toNat x15) < (List.set r192000000 (Int.toNat x15) (2 : Int)).length))) then (((List.set r192000000 (Int.toNat x15) (2 : Int))[(Int.toNat x15)]?)).bind fun e6 =>
  (bif (decide ((r9014.length + ((Go.IntKind.wrap Go.IntKind.i64 ((Go.IntKind.wrap Go.IntKind.i64 ((Go.IntKind.wrap Go.IntKind.i64 ((2 : Int) * x15)) + (3 : Int))) - (Go.IntKind.wrap Go.IntKind.i64 e3))) :: ([] : List Int)).length) ≤ LIM)) then (rec_0 (x3) (x4) ((Go.IntKind.wrap Go.IntKind.i64 (x15 + (1 : Int)))) (r5_0) (r5_1) (r5_2) (r5_3) (r5_4) ((List.set (List.set r192000000 (Int.toNat x15) (2 : Int)) (Int.toNat x15) e3)) (r212000000) ((r9014 ++ ((Go.IntKind.wrap Go.IntKind.i64 ((Go.IntKind.wrap Go.IntKind.i64 ((Go.IntKind.wrap Go.IntKind.i64 ((2 : Int) * x15)) + (3 : Int))) - (Go.IntKind.wrap Go.IntKind.i64 e3))) :: ([] : List Int)))))
  else none)
  else none)
  else (rec_0 (x3) (x4) ((Go.IntKind.wrap Go.IntKind.i64 (x15 + (1 : Int)))) (r5_0) (r5_1) (r5_2) (r5_3) (r5_4) ((List.set r192000000 (Int.toNat x15) (2 : Int))) (r212000000) (r9014)))
  else none)
  else none)
  else (k0_0 (r9014)))
def l136_0 {R : Type} (n : Nat) (k0_0 : (List Int) → Option R) : Nat → (List Int) → Bool → Int → Int → (List (Int × Int)) → (List (Int × Int)) → (List Int) → (List Int) → (List Int) → (List Int) → (List Int) → Option R
  | 0, _, _, _, _, _, _, _, _, _, _, _ => none
  | k + 1, x3, x4, x15, r5_0, r5_1, r5_2, r5_3, r5_4, r192000000, r212000000, r9014 => F136_0 n k0_0 (l136_0 n k0_0 k) x3 x4 x15 r5_0 r5_1 r5_2 r5_3 r5_4 r192000000 r212000000 r9014
def G136 (n : Nat) (x0_0 : Int) (x0_1 : (List (Int × Int))) (x0_2 : (List (Int × Int))) (x0_3 : (List Int)) (x0_4 : (List Int)) (x1 : (List Bool)) (x2 : (List Bool)) (x3 : (List Int)) (x4 : Bool) : Option ((List Int) × (Bool × Unit)) :=
  (F155 ((x1, ()), ())).bind fun (y0 : Unit × ((List Int) × Unit)) =>
  (F155 ((x2, ()), ())).bind fun (y1 : Unit × ((List Int) × Unit)) =>
  (F156 ((x0_0, (x0_1, (x0_2, (x0_3, (x0_4, ()))))), (y0.2.1, (y1.2.1, (x3, (x4, ())))))).bind fun (y2 : Bool) =>
  (bif (!y2) then (some (([] : List Int), (Bool.false, ())))
  else (l136_0 n (fun v7 =>
  (some (v7, (Bool.true, ())))) n (x3) (x4) ((0 : Int)) (x0_0) (x0_1) (x0_2) (x0_3) (x0_4) (y0.2.1) (y1.2.1) (([] : List Int))))
def F136 (x : ((Int × ((List (Int × Int)) × ((List (Int × Int)) × ((List Int) × ((List Int) × Unit))))) × ((List Bool) × ((List Bool) × ((List Int) × (Bool × Unit)))))) : Option ((List Int) × (Bool × Unit)) := G136 KF x.1.1 x.1.2.1 x.1.2.2.1 x.1.2.2.2.1 x.1.2.2.2.2.1 x.2.1 x.2.2.1 x.2.2.2.1 x.2.2.2.2.1
def t136 : Nat → Option CallE := tabOf [(156, e156)]
theorem t136_ok : TabOk Try.prog t136 := tabOf_ok _ ⟨e156_ok, trivial⟩
def i136 : Nat → Option CallI := tabIOf [(155, e155)]
theorem i136_ok : TabIOk Try.prog i136 := tabIOf_ok _ ⟨e155_ok, trivial⟩
def c136 : Cfg := ⟨liveTab [(0, ⟨[(3, .keep), (4, .keep), (5, .keep), (12, .keep), (13, .keep), (14, .own), (15, .keep)], [5, 192000000, 212000000, 60, 9014], [14], [9014], []⟩)], modeTab []⟩
noncomputable def b136 : Code := Try.f136.body.getD .skip
def lp136 {R : Type} (n : Nat) : Lp R := lpTab [(0, viaSP sp136_0 fun x K => l136_0 n (fun v0 => K (.exit 0) ⟨[.set 14 (.row 9014)], [.set 9014 (.row 3 (.int .i64) v0 false)]⟩) n x.1.1 x.1.2.1 x.1.2.2.2.2.2.2.1 x.2.1.1 x.2.1.2.1 x.2.1.2.2.1 x.2.1.2.2.2.1 x.2.1.2.2.2.2.1 x.2.2.1 x.2.2.2.1 x.2.2.2.2.1)]
noncomputable def b136_0 : Code := ((loopsIn b136 0).getD 0 (0, .skip)).2
theorem l136_0_step {R : Type} (n k : Nat) (x : sp136_0.vals) (K : Ex → St → Option R) : evL (fun s K => evC ⟨D, t136, i136⟩ c136 (lp136 n) b136_0 0 s K) (c136.live 0).head (c136.live 0).leave (k + 1) (sp136_0.mk' x) K = F136_0 n (fun v0 => K (.exit 0) ⟨[.set 14 (.row 9014)], [.set 9014 (.row 3 (.int .i64) v0 false)]⟩) (fun w0 w1 w2 w3 w4 w5 w6 w7 w8 w9 w10 => evL (fun s K => evC ⟨D, t136, i136⟩ c136 (lp136 n) b136_0 0 s K) (c136.live 0).head (c136.live 0).leave k (sp136_0.mk' ((w0, (w1, ((), ((), ((), ((), (w2, ()))))))), ((w3, (w4, (w5, (w6, (w7, ()))))), (w8, (w9, (w10, ())))))) K) x.1.1 x.1.2.1 x.1.2.2.2.2.2.2.1 x.2.1.1 x.2.1.2.1 x.2.1.2.2.1 x.2.1.2.2.2.1 x.2.1.2.2.2.2.1 x.2.2.1 x.2.2.2.1 x.2.2.2.2.1 := by kernel_rfl
theorem l136_0_ok {R : Type} (n : Nat) : ∀ (k : Nat) (x : sp136_0.vals) (K : Ex → St → Option R), evL (fun s K => evC ⟨D, t136, i136⟩ c136 (lp136 n) b136_0 0 s K) (c136.live 0).head (c136.live 0).leave k (sp136_0.mk' x) K = l136_0 n (fun v0 => K (.exit 0) ⟨[.set 14 (.row 9014)], [.set 9014 (.row 3 (.int .i64) v0 false)]⟩) k x.1.1 x.1.2.1 x.1.2.2.2.2.2.2.1 x.2.1.1 x.2.1.2.1 x.2.1.2.2.1 x.2.1.2.2.2.1 x.2.1.2.2.2.2.1 x.2.2.1 x.2.2.2.1 x.2.2.2.2.1
  | 0, _, _ => rfl
  | k + 1, x, K => (l136_0_step n k x K).trans (congrArg (fun rec => F136_0 n (fun v0 => K (.exit 0) ⟨[.set 14 (.row 9014)], [.set 9014 (.row 3 (.int .i64) v0 false)]⟩) rec x.1.1 x.1.2.1 x.1.2.2.2.2.2.2.1 x.2.1.1 x.2.1.2.1 x.2.1.2.2.1 x.2.1.2.2.2.1 x.2.1.2.2.2.2.1 x.2.2.1 x.2.2.2.1 x.2.2.2.2.1) (by funext w0 w1 w2 w3 w4 w5 w6 w7 w8 w9 w10; exact l136_0_ok n k ((w0, (w1, ((), ((), ((), ((), (w2, ()))))))), ((w3, (w4, (w5, (w6, (w7, ()))))), (w8, (w9, (w10, ()))))) K))
theorem F136_eq (n : Nat) (x : p136.vals) : evF ⟨D, t136, i136⟩ c136 (lp136 n) Try.f136 (p136.mk x) q136.get = G136 n x.1.1 x.1.2.1 x.1.2.2.1 x.1.2.2.2.1 x.1.2.2.2.2.1 x.2.1 x.2.2.1 x.2.2.2.1 x.2.2.2.2.1 := by kernel_rfl
theorem F136_ok (x : p136.vals) (y : q136.vals) (h : F136 x = some y) : Sound Try.prog 136 (p136.mk x) (q136.mk y) :=
  evF_sound hm hD ⟨t136_ok, i136_ok⟩ Try.func136 (c := b136) (by kernel_rfl) (by kernel_rfl) (fun v hv => PV.get_mk _ _ _ hv)
    (forall_loops _ [(0, b136_0)] (by kernel_rfl) ⟨fun s K r h => viaSP_good (p := sp136_0) (l136_0_ok KF KF) s K r h, trivial⟩) ((F136_eq KF x).trans h)
def e136 : CallE := entry [none, some .bool, some .bool, some (.int .i64), none] p136 q136 F136
theorem e136_ok : FunOk Try.prog 136 e136 := ⟨enters_of Try.func136 (by kernel_rfl) (c := b136) (by kernel_rfl), fun args y hy => entry_ok F136_ok args y hy⟩

/-! ### 95: spiritlevel/spiritlevelref39.made -/
def p95 : PL := (.cons (.agg (.cons (.int .i64) (.cons (.sl true (.pair (.int .i64) (.int .i64))) (.cons (.sl true (.pair (.int .i64) (.int .i64))) (.cons (.sl true (.int .i64)) (.cons (.sl true (.int .i64)) .nil)))))) (.cons (.sl true .bool) (.cons (.sl true .bool) (.cons (.sl true (.int .i64)) (.cons .bool .nil)))))
def q95 : PV := (.tup (.cons (.sl false (.int .i64)) (.cons (.int .i64) .nil)))
def G95 (n : Nat) (x0_0 : Int) (x0_1 : (List (Int × Int))) (x0_2 : (List (Int × Int))) (x0_3 : (List Int)) (x0_4 : (List Int)) (x1 : (List Bool)) (x2 : (List Bool)) (x3 : (List Int)) (x4 : Bool) : Option ((List Int) × (Int × Unit)) :=
  (F52 ((x0_0, (x0_1, (x0_2, (x0_3, (x0_4, ()))))), ())).bind fun (y0 : Int) =>
  (bif (y0 != (0 : Int)) then (some (([] : List Int), (y0, ())))
  else ((bif (((x1.length : Nat) : Int) != ((x0_1.length : Nat) : Int)) then (some Bool.true)
  else (some (bif Bool.false then Bool.true else (((x2.length : Nat) : Int) != x0_0))))).bind fun e1 =>
  (bif e1 then (some (([] : List Int), ((2 : Int), ())))
  else (F68 (((x0_1.length : Nat) : Int), (x3, ()))).bind fun (y2 : Bool) =>
  (bif (!y2) then (some (([] : List Int), ((8 : Int), ())))
  else (F136 ((x0_0, (x0_1, (x0_2, (x0_3, (x0_4, ()))))), (x1, (x2, (x3, (x4, ())))))).bind fun (y3 : ((List Int) × (Bool × Unit))) =>
  (bif (!y3.2.1) then (some (([] : List Int), ((6 : Int), ())))
  else (some (y3.1, ((0 : Int), ())))))))
def F95 (x : ((Int × ((List (Int × Int)) × ((List (Int × Int)) × ((List Int) × ((List Int) × Unit))))) × ((List Bool) × ((List Bool) × ((List Int) × (Bool × Unit)))))) : Option ((List Int) × (Int × Unit)) := G95 KF x.1.1 x.1.2.1 x.1.2.2.1 x.1.2.2.2.1 x.1.2.2.2.2.1 x.2.1 x.2.2.1 x.2.2.2.1 x.2.2.2.2.1
def t95 : Nat → Option CallE := tabOf [(136, e136), (68, e68), (52, e52)]
theorem t95_ok : TabOk Try.prog t95 := tabOf_ok _ ⟨e136_ok, ⟨e68_ok, ⟨e52_ok, trivial⟩⟩⟩
def i95 : Nat → Option CallI := tabIOf []
theorem i95_ok : TabIOk Try.prog i95 := tabIOf_ok _ trivial
def c95 : Cfg := ⟨liveTab [], modeTab [(4, .one 32)]⟩
noncomputable def b95 : Code := Try.f95.body.getD .skip
def lp95 {R : Type} (n : Nat) : Lp R := lpTab []
theorem F95_eq (n : Nat) (x : p95.vals) : evF ⟨D, t95, i95⟩ c95 (lp95 n) Try.f95 (p95.mk x) q95.get = G95 n x.1.1 x.1.2.1 x.1.2.2.1 x.1.2.2.2.1 x.1.2.2.2.2.1 x.2.1 x.2.2.1 x.2.2.2.1 x.2.2.2.2.1 := by kernel_rfl
theorem F95_ok (x : p95.vals) (y : q95.vals) (h : F95 x = some y) : Sound Try.prog 95 (p95.mk x) (q95.mk y) :=
  evF_sound hm hD ⟨t95_ok, i95_ok⟩ Try.func95 (c := b95) (by kernel_rfl) (by kernel_rfl) (fun v hv => PV.get_mk _ _ _ hv)
    (forall_loops _ [] (by kernel_rfl) trivial) ((F95_eq KF x).trans h)
def e95 : CallE := entry [none, some .bool, some .bool, some (.int .i64), none] p95 q95 F95
theorem e95_ok : FunOk Try.prog 95 e95 := ⟨enters_of Try.func95 (by kernel_rfl) (c := b95) (by kernel_rfl), fun args y hy => entry_ok F95_ok args y hy⟩

/-! ### 42: spiritlevel/spiritlevelref39.Step -/
def p42 : PL := (.cons (.agg (.cons (.int .i64) (.cons (.sl true (.pair (.int .i64) (.int .i64))) (.cons (.sl true (.pair (.int .i64) (.int .i64))) (.cons (.sl true (.int .i64)) (.cons (.sl true (.int .i64)) .nil)))))) (.cons (.sl true .bool) (.cons (.sl true .bool) (.cons (.sl true (.int .i64)) .nil))))
def q42 : PV := (.tup (.cons (.sl false (.int .i64)) (.cons (.int .i64) .nil)))
def G42 (n : Nat) (x0_0 : Int) (x0_1 : (List (Int × Int))) (x0_2 : (List (Int × Int))) (x0_3 : (List Int)) (x0_4 : (List Int)) (x1 : (List Bool)) (x2 : (List Bool)) (x3 : (List Int)) : Option ((List Int) × (Int × Unit)) :=
  (F95 ((x0_0, (x0_1, (x0_2, (x0_3, (x0_4, ()))))), (x1, (x2, (x3, (Bool.false, ())))))).bind fun (y0 : ((List Int) × (Int × Unit))) =>
  (some (y0.1, (y0.2.1, ())))
def F42 (x : ((Int × ((List (Int × Int)) × ((List (Int × Int)) × ((List Int) × ((List Int) × Unit))))) × ((List Bool) × ((List Bool) × ((List Int) × Unit))))) : Option ((List Int) × (Int × Unit)) := G42 KF x.1.1 x.1.2.1 x.1.2.2.1 x.1.2.2.2.1 x.1.2.2.2.2.1 x.2.1 x.2.2.1 x.2.2.2.1
def t42 : Nat → Option CallE := tabOf [(95, e95)]
theorem t42_ok : TabOk Try.prog t42 := tabOf_ok _ ⟨e95_ok, trivial⟩
def i42 : Nat → Option CallI := tabIOf []
theorem i42_ok : TabIOk Try.prog i42 := tabIOf_ok _ trivial
def c42 : Cfg := ⟨liveTab [], modeTab []⟩
noncomputable def b42 : Code := Try.f42.body.getD .skip
def lp42 {R : Type} (n : Nat) : Lp R := lpTab []
theorem F42_eq (n : Nat) (x : p42.vals) : evF ⟨D, t42, i42⟩ c42 (lp42 n) Try.f42 (p42.mk x) q42.get = G42 n x.1.1 x.1.2.1 x.1.2.2.1 x.1.2.2.2.1 x.1.2.2.2.2.1 x.2.1 x.2.2.1 x.2.2.2.1 := by kernel_rfl
theorem F42_ok (x : p42.vals) (y : q42.vals) (h : F42 x = some y) : Sound Try.prog 42 (p42.mk x) (q42.mk y) :=
  evF_sound hm hD ⟨t42_ok, i42_ok⟩ Try.func42 (c := b42) (by kernel_rfl) (by kernel_rfl) (fun v hv => PV.get_mk _ _ _ hv)
    (forall_loops _ [] (by kernel_rfl) trivial) ((F42_eq KF x).trans h)
def e42 : CallE := entry [none, some .bool, some .bool, some (.int .i64)] p42 q42 F42
theorem e42_ok : FunOk Try.prog 42 e42 := ⟨enters_of Try.func42 (by kernel_rfl) (c := b42) (by kernel_rfl), fun args y hy => entry_ok F42_ok args y hy⟩

/-! ### 97: spiritlevel/shrink.Bad$1$1 -/
def p97 : PL := (.cons (.int .i64) (.cons (.ep (.cons (.sl true (.int .u8)) .nil) 0) .nil))
def q97 : PV := .bool
def G97 (n : Nat) (x0 : Int) (x1 : (List Int)) : Option Bool :=
  (F98 (x1, (x0, ()))).bind fun (y0 : Int) =>
  (some (y0 == (1 : Int)))
def F97 (x : (Int × (((List Int) × Unit) × Unit))) : Option Bool := G97 KF x.1 x.2.1.1
def t97 : Nat → Option CallE := tabOf [(98, e98)]
theorem t97_ok : TabOk Try.prog t97 := tabOf_ok _ ⟨e98_ok, trivial⟩
def i97 : Nat → Option CallI := tabIOf []
theorem i97_ok : TabIOk Try.prog i97 := tabIOf_ok _ trivial
def c97 : Cfg := ⟨liveTab [], modeTab []⟩
noncomputable def b97 : Code := Try.f97.body.getD .skip
def lp97 {R : Type} (n : Nat) : Lp R := lpTab []
theorem F97_eq (n : Nat) (x : p97.vals) : evF ⟨D, t97, i97⟩ c97 (lp97 n) Try.f97 (p97.mk x) q97.get = G97 n x.1 x.2.1.1 := by kernel_rfl
theorem F97_ok (x : p97.vals) (y : q97.vals) (h : F97 x = some y) : Sound Try.prog 97 (p97.mk x) (q97.mk y) :=
  evF_sound hm hD ⟨t97_ok, i97_ok⟩ Try.func97 (c := b97) (by kernel_rfl) (by kernel_rfl) (fun v hv => PV.get_mk _ _ _ hv)
    (forall_loops _ [] (by kernel_rfl) trivial) ((F97_eq KF x).trans h)
def e97 : CallE := entry [none] p97 q97 F97
theorem e97_ok : FunOk Try.prog 97 e97 := ⟨enters_of Try.func97 (by kernel_rfl) (c := b97) (by kernel_rfl), fun args y hy => entry_ok F97_ok args y hy⟩

/-! ### 125v3: slices.IndexFunc[[]int,int] -/
def p125v3 : PL := (.cons (.sl true (.int .i64)) (.cons (.fn 97 (.cons (.ep (.cons (.sl true (.int .u8)) .nil) 0) .nil)) .nil))
def q125v3 : PV := (.int .i64)
def sp125v3_0 : SP := ⟨[(0, (.sl true (.int .i64))), (1, (.fn 97 (.cons (.ep (.cons (.sl true (.int .u8)) .nil) 0) .nil))), (7, (.int .i64)), (8, (.int .i64))], []⟩
def F125v3_0 {R : Type} (n : Nat) (k0_0 : Int → Option R) (k0_1 : Option R) (rec_0 : (List Int) → (List Int) → Int → Int → Option R) (x0 : (List Int)) (x1 : (List Int)) (x7 : Int) (x8 : Int) : Option R :=
  (bif (decide (x8 < x7)) then ((idxL x0 x8)).bind fun e0 =>
  (F97 (e0, ((x1, ()), ()))).bind fun (y1 : Bool) =>
  (bif y1 then (k0_0 (x8))
  else (rec_0 (x0) (x1) (x7) ((Go.IntKind.wrap Go.IntKind.i64 (x8 + (1 : Int))))))
  else (k0_1 ))
def l125v3_0 {R : Type} (n : Nat) (k0_0 : Int → Option R) (k0_1 : Option R) : Nat → (List Int) → (List Int) → Int → Int → Option R
  | 0, _, _, _, _ => none
  | k + 1, x0, x1, x7, x8 => F125v3_0 n k0_0 k0_1 (l125v3_0 n k0_0 k0_1 k) x0 x1 x7 x8
def G125v3 (n : Nat) (x0 : (List Int)) (x1 : (List Int)) : Option Int :=
  (l125v3_0 n (fun v2 =>
  (some v2)) ((some (@Neg.neg Int Int.instNegInt (1 : Int)))) n (x0) (x1) (((x0.length : Nat) : Int)) ((0 : Int)))
def F125v3 (x : ((List Int) × ((((List Int) × Unit) × Unit) × Unit))) : Option Int := G125v3 KF x.1 x.2.1.1.1
def t125v3 : Nat → Option CallE := tabOf [(97, e97)]
theorem t125v3_ok : TabOk Try.prog t125v3 := tabOf_ok _ ⟨e97_ok, trivial⟩
def i125v3 : Nat → Option CallI := tabIOf []
theorem i125v3_ok : TabIOk Try.prog i125v3 := tabIOf_ok _ trivial
def c125v3 : Cfg := ⟨liveTab [(0, ⟨[(0, .keep), (1, .keep), (7, .keep), (8, .keep)], [], [4], [], []⟩)], modeTab []⟩
noncomputable def b125v3 : Code := Try.f125.body.getD .skip
def lp125v3 {R : Type} (n : Nat) : Lp R := lpTab [(0, viaSP sp125v3_0 fun x K => l125v3_0 n (fun v0 => K (.ret) ⟨[.set 4 (.int .i64 v0)], []⟩) (K (.exit 0) ⟨[.set 4 (.top)], []⟩) n x.1.1 x.1.2.1.1.1 x.1.2.2.1 x.1.2.2.2.1)]
noncomputable def b125v3_0 : Code := ((loopsIn b125v3 0).getD 0 (0, .skip)).2
theorem l125v3_0_step {R : Type} (n k : Nat) (x : sp125v3_0.vals) (K : Ex → St → Option R) : evL (fun s K => evC ⟨D, t125v3, i125v3⟩ c125v3 (lp125v3 n) b125v3_0 0 s K) (c125v3.live 0).head (c125v3.live 0).leave (k + 1) (sp125v3_0.mk' x) K = F125v3_0 n (fun v0 => K (.ret) ⟨[.set 4 (.int .i64 v0)], []⟩) (K (.exit 0) ⟨[.set 4 (.top)], []⟩) (fun w0 w1 w2 w3 => evL (fun s K => evC ⟨D, t125v3, i125v3⟩ c125v3 (lp125v3 n) b125v3_0 0 s K) (c125v3.live 0).head (c125v3.live 0).leave k (sp125v3_0.mk' ((w0, (((w1, ()), ()), (w2, (w3, ())))), ())) K) x.1.1 x.1.2.1.1.1 x.1.2.2.1 x.1.2.2.2.1 := by kernel_rfl
theorem l125v3_0_ok {R : Type} (n : Nat) : ∀ (k : Nat) (x : sp125v3_0.vals) (K : Ex → St → Option R), evL (fun s K => evC ⟨D, t125v3, i125v3⟩ c125v3 (lp125v3 n) b125v3_0 0 s K) (c125v3.live 0).head (c125v3.live 0).leave k (sp125v3_0.mk' x) K = l125v3_0 n (fun v0 => K (.ret) ⟨[.set 4 (.int .i64 v0)], []⟩) (K (.exit 0) ⟨[.set 4 (.top)], []⟩) k x.1.1 x.1.2.1.1.1 x.1.2.2.1 x.1.2.2.2.1
  | 0, _, _ => rfl
  | k + 1, x, K => (l125v3_0_step n k x K).trans (congrArg (fun rec => F125v3_0 n (fun v0 => K (.ret) ⟨[.set 4 (.int .i64 v0)], []⟩) (K (.exit 0) ⟨[.set 4 (.top)], []⟩) rec x.1.1 x.1.2.1.1.1 x.1.2.2.1 x.1.2.2.2.1) (by funext w0 w1 w2 w3; exact l125v3_0_ok n k ((w0, (((w1, ()), ()), (w2, (w3, ())))), ()) K))
theorem F125v3_eq (n : Nat) (x : p125v3.vals) : evF ⟨D, t125v3, i125v3⟩ c125v3 (lp125v3 n) Try.f125 (p125v3.mk x) q125v3.get = G125v3 n x.1 x.2.1.1.1 := by kernel_rfl
theorem F125v3_ok (x : p125v3.vals) (y : q125v3.vals) (h : F125v3 x = some y) : Sound Try.prog 125 (p125v3.mk x) (q125v3.mk y) :=
  evF_sound hm hD ⟨t125v3_ok, i125v3_ok⟩ Try.func125 (c := b125v3) (by kernel_rfl) (by kernel_rfl) (fun v hv => PV.get_mk _ _ _ hv)
    (forall_loops _ [(0, b125v3_0)] (by kernel_rfl) ⟨fun s K r h => viaSP_good (p := sp125v3_0) (l125v3_0_ok KF KF) s K r h, trivial⟩) ((F125v3_eq KF x).trans h)
def e125v3 : CallE := entry [some (.int .i64), none] p125v3 q125v3 F125v3
theorem e125v3_ok : FunOk Try.prog 125 e125v3 := ⟨enters_of Try.func125 (by kernel_rfl) (c := b125v3) (by kernel_rfl), fun args y hy => entry_ok F125v3_ok args y hy⟩

/-! ### 82v3: slices.ContainsFunc[[]int,int] -/
def p82v3 : PL := (.cons (.sl true (.int .i64)) (.cons (.fn 97 (.cons (.ep (.cons (.sl true (.int .u8)) .nil) 0) .nil)) .nil))
def q82v3 : PV := .bool
def G82v3 (n : Nat) (x0 : (List Int)) (x1 : (List Int)) : Option Bool :=
  (F125v3 (x0, (((x1, ()), ()), ()))).bind fun (y0 : Int) =>
  (some (decide (y0 ≥ (0 : Int))))
def F82v3 (x : ((List Int) × ((((List Int) × Unit) × Unit) × Unit))) : Option Bool := G82v3 KF x.1 x.2.1.1.1
def t82v3 : Nat → Option CallE := tabOf [(125, e125v3)]
theorem t82v3_ok : TabOk Try.prog t82v3 := tabOf_ok _ ⟨e125v3_ok, trivial⟩
def i82v3 : Nat → Option CallI := tabIOf []
theorem i82v3_ok : TabIOk Try.prog i82v3 := tabIOf_ok _ trivial
def c82v3 : Cfg := ⟨liveTab [], modeTab []⟩
noncomputable def b82v3 : Code := Try.f82.body.getD .skip
def lp82v3 {R : Type} (n : Nat) : Lp R := lpTab []
theorem F82v3_eq (n : Nat) (x : p82v3.vals) : evF ⟨D, t82v3, i82v3⟩ c82v3 (lp82v3 n) Try.f82 (p82v3.mk x) q82v3.get = G82v3 n x.1 x.2.1.1.1 := by kernel_rfl
theorem F82v3_ok (x : p82v3.vals) (y : q82v3.vals) (h : F82v3 x = some y) : Sound Try.prog 82 (p82v3.mk x) (q82v3.mk y) :=
  evF_sound hm hD ⟨t82v3_ok, i82v3_ok⟩ Try.func82 (c := b82v3) (by kernel_rfl) (by kernel_rfl) (fun v hv => PV.get_mk _ _ _ hv)
    (forall_loops _ [] (by kernel_rfl) trivial) ((F82v3_eq KF x).trans h)
def e82v3 : CallE := entry [some (.int .i64), none] p82v3 q82v3 F82v3
theorem e82v3_ok : FunOk Try.prog 82 e82v3 := ⟨enters_of Try.func82 (by kernel_rfl) (c := b82v3) (by kernel_rfl), fun args y hy => entry_ok F82v3_ok args y hy⟩

/-! ### 96: spiritlevel/shrink.Bad$1 -/
def p96 : PL := (.cons (.sl true (.int .u8)) (.cons (.sl true (.int .u8)) (.cons (.ep (.cons (.int .i64) (.cons (.sl true (.pair (.int .i64) (.int .i64))) (.cons (.sl true (.pair (.int .i64) (.int .i64))) (.cons (.sl true (.int .i64)) (.cons (.sl true (.int .i64)) .nil))))) 0) .nil)))
def q96 : PV := .bool
def G96 (n : Nat) (x0 : (List Int)) (x1 : (List Int)) (x2_0 : Int) (x2_1 : (List (Int × Int))) (x2_2 : (List (Int × Int))) (x2_3 : (List Int)) (x2_4 : (List Int)) : Option Bool :=
  (F82v3 (x2_3, (((x0, ()), ()), ()))).bind fun (y0 : Bool) =>
  (some y0)
def F96 (x : ((List Int) × ((List Int) × ((Int × ((List (Int × Int)) × ((List (Int × Int)) × ((List Int) × ((List Int) × Unit))))) × Unit)))) : Option Bool := G96 KF x.1 x.2.1 x.2.2.1.1 x.2.2.1.2.1 x.2.2.1.2.2.1 x.2.2.1.2.2.2.1 x.2.2.1.2.2.2.2.1
def t96 : Nat → Option CallE := tabOf [(82, e82v3)]
theorem t96_ok : TabOk Try.prog t96 := tabOf_ok _ ⟨e82v3_ok, trivial⟩
def i96 : Nat → Option CallI := tabIOf []
theorem i96_ok : TabIOk Try.prog i96 := tabIOf_ok _ trivial
def c96 : Cfg := ⟨liveTab [], modeTab []⟩
noncomputable def b96 : Code := Try.f96.body.getD .skip
def lp96 {R : Type} (n : Nat) : Lp R := lpTab []
theorem F96_eq (n : Nat) (x : p96.vals) : evF ⟨D, t96, i96⟩ c96 (lp96 n) Try.f96 (p96.mk x) q96.get = G96 n x.1 x.2.1 x.2.2.1.1 x.2.2.1.2.1 x.2.2.1.2.2.1 x.2.2.1.2.2.2.1 x.2.2.1.2.2.2.2.1 := by kernel_rfl
theorem F96_ok (x : p96.vals) (y : q96.vals) (h : F96 x = some y) : Sound Try.prog 96 (p96.mk x) (q96.mk y) :=
  evF_sound hm hD ⟨t96_ok, i96_ok⟩ Try.func96 (c := b96) (by kernel_rfl) (by kernel_rfl) (fun v hv => PV.get_mk _ _ _ hv)
    (forall_loops _ [] (by kernel_rfl) trivial) ((F96_eq KF x).trans h)
def e96 : CallE := entry [some (.int .u8), some (.int .u8)] p96 q96 F96
theorem e96_ok : FunOk Try.prog 96 e96 := ⟨enters_of Try.func96 (by kernel_rfl) (c := b96) (by kernel_rfl), fun args y hy => entry_ok F96_ok args y hy⟩

/-! ### 132v1: spiritlevel/shrink.made$1 -/
def p132v1 : PL := (.cons (.ep (.cons (.int .i64) (.cons (.sl true (.pair (.int .i64) (.int .i64))) (.cons (.sl true (.pair (.int .i64) (.int .i64))) (.cons (.sl true (.int .i64)) (.cons (.sl true (.int .i64)) .nil))))) 0) (.cons (.ep (.cons (.sl true (.int .u8)) .nil) 0) (.cons (.ep (.cons (.sl true (.int .u8)) .nil) 0) (.cons (.ep (.cons (.fn 96 (.cons (.ep (.cons (.int .i64) (.cons (.sl true (.pair (.int .i64) (.int .i64))) (.cons (.sl true (.pair (.int .i64) (.int .i64))) (.cons (.sl true (.int .i64)) (.cons (.sl true (.int .i64)) .nil))))) 0) .nil)) .nil) 0) .nil))))
def q132v1 : PV := (.tup (.cons .bool (.cons (.int .i64) .nil)))
def G132v1 (n : Nat) (x0_0 : Int) (x0_1 : (List (Int × Int))) (x0_2 : (List (Int × Int))) (x0_3 : (List Int)) (x0_4 : (List Int)) (x1 : (List Int)) (x2 : (List Int)) (x3_0 : Int) (x3_1 : (List (Int × Int))) (x3_2 : (List (Int × Int))) (x3_3 : (List Int)) (x3_4 : (List Int)) : Option (Bool × (Int × Unit)) :=
  (F133 ((x0_0, (x0_1, (x0_2, (x0_3, (x0_4, ()))))), (x1, (x2, ())))).bind fun (y0 : ((List Int) × (Int × Unit))) =>
  (bif (y0.2.1 != (0 : Int)) then (some (Bool.false, (y0.2.1, ())))
  else (F134 ((x0_0, (x0_1, (x0_2, (x0_3, (x0_4, ()))))), (x1, (x2, ())))).bind fun (y1 : ((List Int) × (Int × Unit))) =>
  (bif (y1.2.1 != (0 : Int)) then (some (Bool.false, (y1.2.1, ())))
  else (F82v1 (x0_4, (((y0.1, ()), ()), ()))).bind fun (y2 : Bool) =>
  (bif (!y2) then (F96 (y0.1, (y1.1, ((x3_0, (x3_1, (x3_2, (x3_3, (x3_4, ()))))), ())))).bind fun (y3 : Bool) =>
  (some ((bif Bool.true then y3 else Bool.false), ((0 : Int), ())))
  else (some (Bool.false, ((0 : Int), ()))))))
def F132v1 (x : ((Int × ((List (Int × Int)) × ((List (Int × Int)) × ((List Int) × ((List Int) × Unit))))) × (((List Int) × Unit) × (((List Int) × Unit) × ((((Int × ((List (Int × Int)) × ((List (Int × Int)) × ((List Int) × ((List Int) × Unit))))) × Unit) × Unit) × Unit))))) : Option (Bool × (Int × Unit)) := G132v1 KF x.1.1 x.1.2.1 x.1.2.2.1 x.1.2.2.2.1 x.1.2.2.2.2.1 x.2.1.1 x.2.2.1.1 x.2.2.2.1.1.1.1 x.2.2.2.1.1.1.2.1 x.2.2.2.1.1.1.2.2.1 x.2.2.2.1.1.1.2.2.2.1 x.2.2.2.1.1.1.2.2.2.2.1
def t132v1 : Nat → Option CallE := tabOf [(96, e96), (82, e82v1), (134, e134), (133, e133)]
theorem t132v1_ok : TabOk Try.prog t132v1 := tabOf_ok _ ⟨e96_ok, ⟨e82v1_ok, ⟨e134_ok, ⟨e133_ok, trivial⟩⟩⟩⟩
def i132v1 : Nat → Option CallI := tabIOf []
theorem i132v1_ok : TabIOk Try.prog i132v1 := tabIOf_ok _ trivial
def c132v1 : Cfg := ⟨liveTab [], modeTab []⟩
noncomputable def b132v1 : Code := Try.f132.body.getD .skip
def lp132v1 {R : Type} (n : Nat) : Lp R := lpTab []
theorem F132v1_eq (n : Nat) (x : p132v1.vals) : evF ⟨D, t132v1, i132v1⟩ c132v1 (lp132v1 n) Try.f132 (p132v1.mk x) q132v1.get = G132v1 n x.1.1 x.1.2.1 x.1.2.2.1 x.1.2.2.2.1 x.1.2.2.2.2.1 x.2.1.1 x.2.2.1.1 x.2.2.2.1.1.1.1 x.2.2.2.1.1.1.2.1 x.2.2.2.1.1.1.2.2.1 x.2.2.2.1.1.1.2.2.2.1 x.2.2.2.1.1.1.2.2.2.2.1 := by kernel_rfl
theorem F132v1_ok (x : p132v1.vals) (y : q132v1.vals) (h : F132v1 x = some y) : Sound Try.prog 132 (p132v1.mk x) (q132v1.mk y) :=
  evF_sound hm hD ⟨t132v1_ok, i132v1_ok⟩ Try.func132 (c := b132v1) (by kernel_rfl) (by kernel_rfl) (fun v hv => PV.get_mk _ _ _ hv)
    (forall_loops _ [] (by kernel_rfl) trivial) ((F132v1_eq KF x).trans h)
def e132v1 : CallE := entry [] p132v1 q132v1 F132v1
theorem e132v1_ok : FunOk Try.prog 132 e132v1 := ⟨enters_of Try.func132 (by kernel_rfl) (c := b132v1) (by kernel_rfl), fun args y hy => entry_ok F132v1_ok args y hy⟩

/-! ### 92v1: spiritlevel/shrink.made -/
def p92v1 : PL := (.cons (.agg (.cons (.int .i64) (.cons (.sl true (.pair (.int .i64) (.int .i64))) (.cons (.sl true (.pair (.int .i64) (.int .i64))) (.cons (.sl true (.int .i64)) (.cons (.sl true (.int .i64)) .nil)))))) (.cons (.sl true .bool) (.cons (.sl true .bool) (.cons (.fn 96 (.cons (.ep (.cons (.int .i64) (.cons (.sl true (.pair (.int .i64) (.int .i64))) (.cons (.sl true (.pair (.int .i64) (.int .i64))) (.cons (.sl true (.int .i64)) (.cons (.sl true (.int .i64)) .nil))))) 0) .nil)) .nil))))
def q92v1 : PV := (.tup (.cons (.sl false (.int .i64)) (.cons (.int .i64) .nil)))
def sp92v1_0 : SP := ⟨[(10, (.ptr 10 0)), (12, (.fn 132 (.cons (.ptr 4 0) (.cons (.ptr 10 0) (.cons (.ptr 11 0) (.cons (.ptr 7 0) .nil)))))), (15, (.row 9015)), (35, (.row 222000000)), (36, (.int .i64)), (37, (.int .i64))], [(10, (.box (.cons (.row 222000000) .nil))), (4, (.box (.cons (.int .i64) (.cons (.sl true (.pair (.int .i64) (.int .i64))) (.cons (.sl true (.pair (.int .i64) (.int .i64))) (.cons (.sl true (.int .i64)) (.cons (.sl true (.int .i64)) .nil))))))), (11, (.box (.cons (.row 242000000) .nil))), (7, (.box (.cons (.fn 96 (.cons (.ep (.cons (.int .i64) (.cons (.sl true (.pair (.int .i64) (.int .i64))) (.cons (.sl true (.pair (.int .i64) (.int .i64))) (.cons (.sl true (.int .i64)) (.cons (.sl true (.int .i64)) .nil))))) 0) .nil)) .nil))), (222000000, (.row 5 (.int .u8) false)), (242000000, (.row 5 (.int .u8) false)), (9015, (.row 3 (.int .i64) false))]⟩
def F92v1_0 {R : Type} (n : Nat) (k0_0 : Int → (List Int) → Option R) (k0_1 : (List Int) → Option R) (rec_0 : Int → Int → Int → (List (Int × Int)) → (List (Int × Int)) → (List Int) → (List Int) → Int → (List (Int × Int)) → (List (Int × Int)) → (List Int) → (List Int) → (List Int) → (List Int) → (List Int) → Option R) (x36 : Int) (x37 : Int) (r4_0 : Int) (r4_1 : (List (Int × Int))) (r4_2 : (List (Int × Int))) (r4_3 : (List Int)) (r4_4 : (List Int)) (r7_0 : Int) (r7_1 : (List (Int × Int))) (r7_2 : (List (Int × Int))) (r7_3 : (List Int)) (r7_4 : (List Int)) (r222000000 : (List Int)) (r242000000 : (List Int)) (r9015 : (List Int)) : Option R :=
  (bif (decide (x37 < x36)) then (bif ((decide ((0 : Int) ≤ x37)) && (decide ((Int.toNat x37) < r222000000.length))) then ((r222000000[(Int.toNat x37)]?)).bind fun e3 =>
  (bif ((decide ((0 : Int) ≤ x37)) && (decide ((Int.toNat x37) < r222000000.length))) then ((r222000000[(Int.toNat x37)]?)).bind fun e4 =>
  (F132v1 ((r4_0, (r4_1, (r4_2, (r4_3, (r4_4, ()))))), (((List.set r222000000 (Int.toNat x37) (2 : Int)), ()), ((r242000000, ()), ((((r7_0, (r7_1, (r7_2, (r7_3, (r7_4, ()))))), ()), ()), ()))))).bind fun (y5 : (Bool × (Int × Unit))) =>
  (bif (y5.2.1 != (0 : Int)) then (k0_0 (y5.2.1) (r9015))
  else (bif (!y5.1) then (bif ((decide ((0 : Int) ≤ x37)) && (decide ((Int.toNat x37) < (List.set r222000000 (Int.toNat x37) (2 : Int)).length))) then (((List.set r222000000 (Int.toNat x37) (2 : Int))[(Int.toNat x37)]?)).bind fun e6 =>
  (bif (decide ((r9015.length + ((Go.IntKind.wrap Go.IntKind.i64 ((Go.IntKind.wrap Go.IntKind.i64 ((Go.IntKind.wrap Go.IntKind.i64 ((2 : Int) * x37)) + (3 : Int))) - (Go.IntKind.wrap Go.IntKind.i64 e3))) :: ([] : List Int)).length) ≤ LIM)) then (rec_0 (x36) ((Go.IntKind.wrap Go.IntKind.i64 (x37 + (1 : Int)))) (r4_0) (r4_1) (r4_2) (r4_3) (r4_4) (r7_0) (r7_1) (r7_2) (r7_3) (r7_4) ((List.set (List.set r222000000 (Int.toNat x37) (2 : Int)) (Int.toNat x37) e3)) (r242000000) ((r9015 ++ ((Go.IntKind.wrap Go.IntKind.i64 ((Go.IntKind.wrap Go.IntKind.i64 ((Go.IntKind.wrap Go.IntKind.i64 ((2 : Int) * x37)) + (3 : Int))) - (Go.IntKind.wrap Go.IntKind.i64 e3))) :: ([] : List Int)))))
  else none)
  else none)
  else (rec_0 (x36) ((Go.IntKind.wrap Go.IntKind.i64 (x37 + (1 : Int)))) (r4_0) (r4_1) (r4_2) (r4_3) (r4_4) (r7_0) (r7_1) (r7_2) (r7_3) (r7_4) ((List.set r222000000 (Int.toNat x37) (2 : Int))) (r242000000) (r9015))))
  else none)
  else none)
  else (k0_1 (r9015)))
def l92v1_0 {R : Type} (n : Nat) (k0_0 : Int → (List Int) → Option R) (k0_1 : (List Int) → Option R) : Nat → Int → Int → Int → (List (Int × Int)) → (List (Int × Int)) → (List Int) → (List Int) → Int → (List (Int × Int)) → (List (Int × Int)) → (List Int) → (List Int) → (List Int) → (List Int) → (List Int) → Option R
  | 0, _, _, _, _, _, _, _, _, _, _, _, _, _, _, _ => none
  | k + 1, x36, x37, r4_0, r4_1, r4_2, r4_3, r4_4, r7_0, r7_1, r7_2, r7_3, r7_4, r222000000, r242000000, r9015 => F92v1_0 n k0_0 k0_1 (l92v1_0 n k0_0 k0_1 k) x36 x37 r4_0 r4_1 r4_2 r4_3 r4_4 r7_0 r7_1 r7_2 r7_3 r7_4 r222000000 r242000000 r9015
def G92v1 (n : Nat) (x0_0 : Int) (x0_1 : (List (Int × Int))) (x0_2 : (List (Int × Int))) (x0_3 : (List Int)) (x0_4 : (List Int)) (x1 : (List Bool)) (x2 : (List Bool)) (x3_0 : Int) (x3_1 : (List (Int × Int))) (x3_2 : (List (Int × Int))) (x3_3 : (List Int)) (x3_4 : (List Int)) : Option ((List Int) × (Int × Unit)) :=
  (F131 ((x1, ()), ())).bind fun (y0 : Unit × ((List Int) × Unit)) =>
  (F131 ((x2, ()), ())).bind fun (y1 : Unit × ((List Int) × Unit)) =>
  (F132v1 ((x0_0, (x0_1, (x0_2, (x0_3, (x0_4, ()))))), ((y0.2.1, ()), ((y1.2.1, ()), ((((x3_0, (x3_1, (x3_2, (x3_3, (x3_4, ()))))), ()), ()), ()))))).bind fun (y2 : (Bool × (Int × Unit))) =>
  (bif (y2.2.1 != (0 : Int)) then (some (([] : List Int), (y2.2.1, ())))
  else (bif (!y2.1) then (some (([] : List Int), ((6 : Int), ())))
  else (l92v1_0 n (fun v7 v8 =>
  (some (([] : List Int), (v7, ())))) (fun v9 =>
  (some (v9, ((0 : Int), ())))) n (((y0.2.1.length : Nat) : Int)) ((0 : Int)) (x0_0) (x0_1) (x0_2) (x0_3) (x0_4) (x3_0) (x3_1) (x3_2) (x3_3) (x3_4) (y0.2.1) (y1.2.1) (([] : List Int)))))
def F92v1 (x : ((Int × ((List (Int × Int)) × ((List (Int × Int)) × ((List Int) × ((List Int) × Unit))))) × ((List Bool) × ((List Bool) × (((Int × ((List (Int × Int)) × ((List (Int × Int)) × ((List Int) × ((List Int) × Unit))))) × Unit) × Unit))))) : Option ((List Int) × (Int × Unit)) := G92v1 KF x.1.1 x.1.2.1 x.1.2.2.1 x.1.2.2.2.1 x.1.2.2.2.2.1 x.2.1 x.2.2.1 x.2.2.2.1.1.1 x.2.2.2.1.1.2.1 x.2.2.2.1.1.2.2.1 x.2.2.2.1.1.2.2.2.1 x.2.2.2.1.1.2.2.2.2.1
def t92v1 : Nat → Option CallE := tabOf [(132, e132v1)]
theorem t92v1_ok : TabOk Try.prog t92v1 := tabOf_ok _ ⟨e132v1_ok, trivial⟩
def i92v1 : Nat → Option CallI := tabIOf [(131, e131)]
theorem i92v1_ok : TabIOk Try.prog i92v1 := tabIOf_ok _ ⟨e131_ok, trivial⟩
def c92v1 : Cfg := ⟨liveTab [(0, ⟨[(10, .keep), (12, .keep), (15, .own), (35, .keep), (36, .keep), (37, .keep)], [10, 4, 11, 7, 222000000, 242000000, 67, 9015], [8, 9, 15], [9015], []⟩)], modeTab []⟩
noncomputable def b92v1 : Code := Try.f92.body.getD .skip
def lp92v1 {R : Type} (n : Nat) : Lp R := lpTab [(0, viaSP sp92v1_0 fun x K => l92v1_0 n (fun v0 v1 => K (.ret) ⟨[.set 8 (.nil 3 (.int .i64)), .set 9 (.int .i64 v0), .set 15 (.row 9015)], [.set 9015 (.row 3 (.int .i64) v1 false)]⟩) (fun v0 => K (.exit 0) ⟨[.set 8 (.top), .set 9 (.top), .set 15 (.row 9015)], [.set 9015 (.row 3 (.int .i64) v0 false)]⟩) n x.1.2.2.2.2.1 x.1.2.2.2.2.2.1 x.2.2.1.1 x.2.2.1.2.1 x.2.2.1.2.2.1 x.2.2.1.2.2.2.1 x.2.2.1.2.2.2.2.1 x.2.2.2.2.1.1.1.1 x.2.2.2.2.1.1.1.2.1 x.2.2.2.2.1.1.1.2.2.1 x.2.2.2.2.1.1.1.2.2.2.1 x.2.2.2.2.1.1.1.2.2.2.2.1 x.2.2.2.2.2.1 x.2.2.2.2.2.2.1 x.2.2.2.2.2.2.2.1)]
noncomputable def b92v1_0 : Code := ((loopsIn b92v1 0).getD 0 (0, .skip)).2
theorem l92v1_0_step {R : Type} (n k : Nat) (x : sp92v1_0.vals) (K : Ex → St → Option R) : evL (fun s K => evC ⟨D, t92v1, i92v1⟩ c92v1 (lp92v1 n) b92v1_0 0 s K) (c92v1.live 0).head (c92v1.live 0).leave (k + 1) (sp92v1_0.mk' x) K = F92v1_0 n (fun v0 v1 => K (.ret) ⟨[.set 8 (.nil 3 (.int .i64)), .set 9 (.int .i64 v0), .set 15 (.row 9015)], [.set 9015 (.row 3 (.int .i64) v1 false)]⟩) (fun v0 => K (.exit 0) ⟨[.set 8 (.top), .set 9 (.top), .set 15 (.row 9015)], [.set 9015 (.row 3 (.int .i64) v0 false)]⟩) (fun w0 w1 w2 w3 w4 w5 w6 w7 w8 w9 w10 w11 w12 w13 w14 => evL (fun s K => evC ⟨D, t92v1, i92v1⟩ c92v1 (lp92v1 n) b92v1_0 0 s K) (c92v1.live 0).head (c92v1.live 0).leave k (sp92v1_0.mk' (((), (((), ((), ((), ((), ())))), ((), ((), (w0, (w1, ())))))), (((), ()), ((w2, (w3, (w4, (w5, (w6, ()))))), (((), ()), ((((w7, (w8, (w9, (w10, (w11, ()))))), ()), ()), (w12, (w13, (w14, ()))))))))) K) x.1.2.2.2.2.1 x.1.2.2.2.2.2.1 x.2.2.1.1 x.2.2.1.2.1 x.2.2.1.2.2.1 x.2.2.1.2.2.2.1 x.2.2.1.2.2.2.2.1 x.2.2.2.2.1.1.1.1 x.2.2.2.2.1.1.1.2.1 x.2.2.2.2.1.1.1.2.2.1 x.2.2.2.2.1.1.1.2.2.2.1 x.2.2.2.2.1.1.1.2.2.2.2.1 x.2.2.2.2.2.1 x.2.2.2.2.2.2.1 x.2.2.2.2.2.2.2.1 := by kernel_rfl
theorem l92v1_0_ok {R : Type} (n : Nat) : ∀ (k : Nat) (x : sp92v1_0.vals) (K : Ex → St → Option R), evL (fun s K => evC ⟨D, t92v1, i92v1⟩ c92v1 (lp92v1 n) b92v1_0 0 s K) (c92v1.live 0).head (c92v1.live 0).leave k (sp92v1_0.mk' x) K = l92v1_0 n (fun v0 v1 => K (.ret) ⟨[.set 8 (.nil 3 (.int .i64)), .set 9 (.int .i64 v0), .set 15 (.row 9015)], [.set 9015 (.row 3 (.int .i64) v1 false)]⟩) (fun v0 => K (.exit 0) ⟨[.set 8 (.top), .set 9 (.top), .set 15 (.row 9015)], [.set 9015 (.row 3 (.int .i64) v0 false)]⟩) k x.1.2.2.2.2.1 x.1.2.2.2.2.2.1 x.2.2.1.1 x.2.2.1.2.1 x.2.2.1.2.2.1 x.2.2.1.2.2.2.1 x.2.2.1.2.2.2.2.1 x.2.2.2.2.1.1.1.1 x.2.2.2.2.1.1.1.2.1 x.2.2.2.2.1.1.1.2.2.1 x.2.2.2.2.1.1.1.2.2.2.1 x.2.2.2.2.1.1.1.2.2.2.2.1 x.2.2.2.2.2.1 x.2.2.2.2.2.2.1 x.2.2.2.2.2.2.2.1
  | 0, _, _ => rfl
  | k + 1, x, K => (l92v1_0_step n k x K).trans (congrArg (fun rec => F92v1_0 n (fun v0 v1 => K (.ret) ⟨[.set 8 (.nil 3 (.int .i64)), .set 9 (.int .i64 v0), .set 15 (.row 9015)], [.set 9015 (.row 3 (.int .i64) v1 false)]⟩) (fun v0 => K (.exit 0) ⟨[.set 8 (.top), .set 9 (.top), .set 15 (.row 9015)], [.set 9015 (.row 3 (.int .i64) v0 false)]⟩) rec x.1.2.2.2.2.1 x.1.2.2.2.2.2.1 x.2.2.1.1 x.2.2.1.2.1 x.2.2.1.2.2.1 x.2.2.1.2.2.2.1 x.2.2.1.2.2.2.2.1 x.2.2.2.2.1.1.1.1 x.2.2.2.2.1.1.1.2.1 x.2.2.2.2.1.1.1.2.2.1 x.2.2.2.2.1.1.1.2.2.2.1 x.2.2.2.2.1.1.1.2.2.2.2.1 x.2.2.2.2.2.1 x.2.2.2.2.2.2.1 x.2.2.2.2.2.2.2.1) (by funext w0 w1 w2 w3 w4 w5 w6 w7 w8 w9 w10 w11 w12 w13 w14; exact l92v1_0_ok n k (((), (((), ((), ((), ((), ())))), ((), ((), (w0, (w1, ())))))), (((), ()), ((w2, (w3, (w4, (w5, (w6, ()))))), (((), ()), ((((w7, (w8, (w9, (w10, (w11, ()))))), ()), ()), (w12, (w13, (w14, ())))))))) K))
theorem F92v1_eq (n : Nat) (x : p92v1.vals) : evF ⟨D, t92v1, i92v1⟩ c92v1 (lp92v1 n) Try.f92 (p92v1.mk x) q92v1.get = G92v1 n x.1.1 x.1.2.1 x.1.2.2.1 x.1.2.2.2.1 x.1.2.2.2.2.1 x.2.1 x.2.2.1 x.2.2.2.1.1.1 x.2.2.2.1.1.2.1 x.2.2.2.1.1.2.2.1 x.2.2.2.1.1.2.2.2.1 x.2.2.2.1.1.2.2.2.2.1 := by kernel_rfl
theorem F92v1_ok (x : p92v1.vals) (y : q92v1.vals) (h : F92v1 x = some y) : Sound Try.prog 92 (p92v1.mk x) (q92v1.mk y) :=
  evF_sound hm hD ⟨t92v1_ok, i92v1_ok⟩ Try.func92 (c := b92v1) (by kernel_rfl) (by kernel_rfl) (fun v hv => PV.get_mk _ _ _ hv)
    (forall_loops _ [(0, b92v1_0)] (by kernel_rfl) ⟨fun s K r h => viaSP_good (p := sp92v1_0) (l92v1_0_ok KF KF) s K r h, trivial⟩) ((F92v1_eq KF x).trans h)
def e92v1 : CallE := entry [none, some .bool, some .bool, none] p92v1 q92v1 F92v1
theorem e92v1_ok : FunOk Try.prog 92 e92v1 := ⟨enters_of Try.func92 (by kernel_rfl) (c := b92v1) (by kernel_rfl), fun args y hy => entry_ok F92v1_ok args y hy⟩

/-! ### 43: spiritlevel/shrink.Bad -/
def p43 : PL := (.cons (.agg (.cons (.int .i64) (.cons (.sl true (.pair (.int .i64) (.int .i64))) (.cons (.sl true (.pair (.int .i64) (.int .i64))) (.cons (.sl true (.int .i64)) (.cons (.sl true (.int .i64)) .nil)))))) (.cons (.sl true .bool) (.cons (.sl true .bool) .nil)))
def q43 : PV := (.tup (.cons (.sl false (.int .i64)) (.cons (.int .i64) .nil)))
def G43 (n : Nat) (x0_0 : Int) (x0_1 : (List (Int × Int))) (x0_2 : (List (Int × Int))) (x0_3 : (List Int)) (x0_4 : (List Int)) (x1 : (List Bool)) (x2 : (List Bool)) : Option ((List Int) × (Int × Unit)) :=
  (F91 ((x0_0, (x0_1, (x0_2, (x0_3, (x0_4, ()))))), (x1, (x2, ())))).bind fun (y0 : Int) =>
  (bif (y0 != (0 : Int)) then (some (([] : List Int), (y0, ())))
  else (F92v1 ((x0_0, (x0_1, (x0_2, (x0_3, (x0_4, ()))))), (x1, (x2, (((x0_0, (x0_1, (x0_2, (x0_3, (x0_4, ()))))), ()), ()))))).bind fun (y1 : ((List Int) × (Int × Unit))) =>
  (some (y1.1, (y1.2.1, ()))))
def F43 (x : ((Int × ((List (Int × Int)) × ((List (Int × Int)) × ((List Int) × ((List Int) × Unit))))) × ((List Bool) × ((List Bool) × Unit)))) : Option ((List Int) × (Int × Unit)) := G43 KF x.1.1 x.1.2.1 x.1.2.2.1 x.1.2.2.2.1 x.1.2.2.2.2.1 x.2.1 x.2.2.1
def t43 : Nat → Option CallE := tabOf [(92, e92v1), (91, e91)]
theorem t43_ok : TabOk Try.prog t43 := tabOf_ok _ ⟨e92v1_ok, ⟨e91_ok, trivial⟩⟩
def i43 : Nat → Option CallI := tabIOf []
theorem i43_ok : TabIOk Try.prog i43 := tabIOf_ok _ trivial
def c43 : Cfg := ⟨liveTab [], modeTab []⟩
noncomputable def b43 : Code := Try.f43.body.getD .skip
def lp43 {R : Type} (n : Nat) : Lp R := lpTab []
theorem F43_eq (n : Nat) (x : p43.vals) : evF ⟨D, t43, i43⟩ c43 (lp43 n) Try.f43 (p43.mk x) q43.get = G43 n x.1.1 x.1.2.1 x.1.2.2.1 x.1.2.2.2.1 x.1.2.2.2.2.1 x.2.1 x.2.2.1 := by kernel_rfl
theorem F43_ok (x : p43.vals) (y : q43.vals) (h : F43 x = some y) : Sound Try.prog 43 (p43.mk x) (q43.mk y) :=
  evF_sound hm hD ⟨t43_ok, i43_ok⟩ Try.func43 (c := b43) (by kernel_rfl) (by kernel_rfl) (fun v hv => PV.get_mk _ _ _ hv)
    (forall_loops _ [] (by kernel_rfl) trivial) ((F43_eq KF x).trans h)
def e43 : CallE := entry [none, some .bool, some .bool] p43 q43 F43
theorem e43_ok : FunOk Try.prog 43 e43 := ⟨enters_of Try.func43 (by kernel_rfl) (c := b43) (by kernel_rfl), fun args y hy => entry_ok F43_ok args y hy⟩

/-! ### 44: spiritlevel/spiritlevelref39.Bad -/
def p44 : PL := (.cons (.agg (.cons (.int .i64) (.cons (.sl true (.pair (.int .i64) (.int .i64))) (.cons (.sl true (.pair (.int .i64) (.int .i64))) (.cons (.sl true (.int .i64)) (.cons (.sl true (.int .i64)) .nil)))))) (.cons (.sl true .bool) (.cons (.sl true .bool) .nil)))
def q44 : PV := (.tup (.cons (.sl false (.int .i64)) (.cons (.int .i64) .nil)))
def G44 (n : Nat) (x0_0 : Int) (x0_1 : (List (Int × Int))) (x0_2 : (List (Int × Int))) (x0_3 : (List Int)) (x0_4 : (List Int)) (x1 : (List Bool)) (x2 : (List Bool)) : Option ((List Int) × (Int × Unit)) :=
  (F95 ((x0_0, (x0_1, (x0_2, (x0_3, (x0_4, ()))))), (x1, (x2, (([] : List Int), (Bool.true, ())))))).bind fun (y0 : ((List Int) × (Int × Unit))) =>
  (some (y0.1, (y0.2.1, ())))
def F44 (x : ((Int × ((List (Int × Int)) × ((List (Int × Int)) × ((List Int) × ((List Int) × Unit))))) × ((List Bool) × ((List Bool) × Unit)))) : Option ((List Int) × (Int × Unit)) := G44 KF x.1.1 x.1.2.1 x.1.2.2.1 x.1.2.2.2.1 x.1.2.2.2.2.1 x.2.1 x.2.2.1
def t44 : Nat → Option CallE := tabOf [(95, e95)]
theorem t44_ok : TabOk Try.prog t44 := tabOf_ok _ ⟨e95_ok, trivial⟩
def i44 : Nat → Option CallI := tabIOf []
theorem i44_ok : TabIOk Try.prog i44 := tabIOf_ok _ trivial
def c44 : Cfg := ⟨liveTab [], modeTab []⟩
noncomputable def b44 : Code := Try.f44.body.getD .skip
def lp44 {R : Type} (n : Nat) : Lp R := lpTab []
theorem F44_eq (n : Nat) (x : p44.vals) : evF ⟨D, t44, i44⟩ c44 (lp44 n) Try.f44 (p44.mk x) q44.get = G44 n x.1.1 x.1.2.1 x.1.2.2.1 x.1.2.2.2.1 x.1.2.2.2.2.1 x.2.1 x.2.2.1 := by kernel_rfl
theorem F44_ok (x : p44.vals) (y : q44.vals) (h : F44 x = some y) : Sound Try.prog 44 (p44.mk x) (q44.mk y) :=
  evF_sound hm hD ⟨t44_ok, i44_ok⟩ Try.func44 (c := b44) (by kernel_rfl) (by kernel_rfl) (fun v hv => PV.get_mk _ _ _ hv)
    (forall_loops _ [] (by kernel_rfl) trivial) ((F44_eq KF x).trans h)
def e44 : CallE := entry [none, some .bool, some .bool] p44 q44 F44
theorem e44_ok : FunOk Try.prog 44 e44 := ⟨enters_of Try.func44 (by kernel_rfl) (c := b44) (by kernel_rfl), fun args y hy => entry_ok F44_ok args y hy⟩

/-! ### 137: spiritlevel/shrink.first$1 -/
def p137 : PL := (.cons (.int .i64) (.cons (.ep (.cons (.int .i64) (.cons (.sl true (.pair (.int .i64) (.int .i64))) (.cons (.sl true (.pair (.int .i64) (.int .i64))) (.cons (.sl true (.int .i64)) (.cons (.sl true (.int .i64)) .nil))))) 0) .nil))
def q137 : PV := .bool
def G137 (n : Nat) (x0 : Int) (x1_0 : Int) (x1_1 : (List (Int × Int))) (x1_2 : (List (Int × Int))) (x1_3 : (List Int)) (x1_4 : (List Int)) : Option Bool :=
  ((idxL x1_1 (Go.IntKind.wrap Go.IntKind.i64 ((Go.IntKind.wrap Go.IntKind.i64 (Int.tdiv x0 (2 : Int))) - (1 : Int))))).bind fun e0 =>
  ((bif (e0.2 != (2 : Int)) then (some (bif Bool.true then (e0.2 == (Int.tmod x0 (2 : Int))) else Bool.false))
  else (some Bool.false))).bind fun e1 =>
  (some e1)
def F137 (x : (Int × ((Int × ((List (Int × Int)) × ((List (Int × Int)) × ((List Int) × ((List Int) × Unit))))) × Unit))) : Option Bool := G137 KF x.1 x.2.1.1 x.2.1.2.1 x.2.1.2.2.1 x.2.1.2.2.2.1 x.2.1.2.2.2.2.1
def t137 : Nat → Option CallE := tabOf []
theorem t137_ok : TabOk Try.prog t137 := tabOf_ok _ trivial
def i137 : Nat → Option CallI := tabIOf []
theorem i137_ok : TabIOk Try.prog i137 := tabIOf_ok _ trivial
def c137 : Cfg := ⟨liveTab [], modeTab [(2, .one 3)]⟩
noncomputable def b137 : Code := Try.f137.body.getD .skip
def lp137 {R : Type} (n : Nat) : Lp R := lpTab []
theorem F137_eq (n : Nat) (x : p137.vals) : evF ⟨D, t137, i137⟩ c137 (lp137 n) Try.f137 (p137.mk x) q137.get = G137 n x.1 x.2.1.1 x.2.1.2.1 x.2.1.2.2.1 x.2.1.2.2.2.1 x.2.1.2.2.2.2.1 := by kernel_rfl
theorem F137_ok (x : p137.vals) (y : q137.vals) (h : F137 x = some y) : Sound Try.prog 137 (p137.mk x) (q137.mk y) :=
  evF_sound hm hD ⟨t137_ok, i137_ok⟩ Try.func137 (c := b137) (by kernel_rfl) (by kernel_rfl) (fun v hv => PV.get_mk _ _ _ hv)
    (forall_loops _ [] (by kernel_rfl) trivial) ((F137_eq KF x).trans h)
def e137 : CallE := entry [none] p137 q137 F137
theorem e137_ok : FunOk Try.prog 137 e137 := ⟨enters_of Try.func137 (by kernel_rfl) (c := b137) (by kernel_rfl), fun args y hy => entry_ok F137_ok args y hy⟩

/-! ### 125v4: slices.IndexFunc[[]int,int] -/
def p125v4 : PL := (.cons (.sl true (.int .i64)) (.cons (.fn 137 (.cons (.ep (.cons (.int .i64) (.cons (.sl true (.pair (.int .i64) (.int .i64))) (.cons (.sl true (.pair (.int .i64) (.int .i64))) (.cons (.sl true (.int .i64)) (.cons (.sl true (.int .i64)) .nil))))) 0) .nil)) .nil))
def q125v4 : PV := (.int .i64)
def sp125v4_0 : SP := ⟨[(0, (.sl true (.int .i64))), (1, (.fn 137 (.cons (.ep (.cons (.int .i64) (.cons (.sl true (.pair (.int .i64) (.int .i64))) (.cons (.sl true (.pair (.int .i64) (.int .i64))) (.cons (.sl true (.int .i64)) (.cons (.sl true (.int .i64)) .nil))))) 0) .nil))), (7, (.int .i64)), (8, (.int .i64))], []⟩
def F125v4_0 {R : Type} (n : Nat) (k0_0 : Int → Option R) (k0_1 : Option R) (rec_0 : (List Int) → Int → (List (Int × Int)) → (List (Int × Int)) → (List Int) → (List Int) → Int → Int → Option R) (x0 : (List Int)) (x1_0 : Int) (x1_1 : (List (Int × Int))) (x1_2 : (List (Int × Int))) (x1_3 : (List Int)) (x1_4 : (List Int)) (x7 : Int) (x8 : Int) : Option R :=
  (bif (decide (x8 < x7)) then ((idxL x0 x8)).bind fun e0 =>
  (F137 (e0, ((x1_0, (x1_1, (x1_2, (x1_3, (x1_4, ()))))), ()))).bind fun (y1 : Bool) =>
  (bif y1 then (k0_0 (x8))
  else (rec_0 (x0) (x1_0) (x1_1) (x1_2) (x1_3) (x1_4) (x7) ((Go.IntKind.wrap Go.IntKind.i64 (x8 + (1 : Int))))))
  else (k0_1 ))
def l125v4_0 {R : Type} (n : Nat) (k0_0 : Int → Option R) (k0_1 : Option R) : Nat → (List Int) → Int → (List (Int × Int)) → (List (Int × Int)) → (List Int) → (List Int) → Int → Int → Option R
  | 0, _, _, _, _, _, _, _, _ => none
  | k + 1, x0, x1_0, x1_1, x1_2, x1_3, x1_4, x7, x8 => F125v4_0 n k0_0 k0_1 (l125v4_0 n k0_0 k0_1 k) x0 x1_0 x1_1 x1_2 x1_3 x1_4 x7 x8
def G125v4 (n : Nat) (x0 : (List Int)) (x1_0 : Int) (x1_1 : (List (Int × Int))) (x1_2 : (List (Int × Int))) (x1_3 : (List Int)) (x1_4 : (List Int)) : Option Int :=
  (l125v4_0 n (fun v2 =>
  (some v2)) ((some (@Neg.neg Int Int.instNegInt (1 : Int)))) n (x0) (x1_0) (x1_1) (x1_2) (x1_3) (x1_4) (((x0.length : Nat) : Int)) ((0 : Int)))
def F125v4 (x : ((List Int) × (((Int × ((List (Int × Int)) × ((List (Int × Int)) × ((List Int) × ((List Int) × Unit))))) × Unit) × Unit))) : Option Int := G125v4 KF x.1 x.2.1.1.1 x.2.1.1.2.1 x.2.1.1.2.2.1 x.2.1.1.2.2.2.1 x.2.1.1.2.2.2.2.1
def t125v4 : Nat → Option CallE := tabOf [(137, e137)]
theorem t125v4_ok : TabOk Try.prog t125v4 := tabOf_ok _ ⟨e137_ok, trivial⟩
def i125v4 : Nat → Option CallI := tabIOf []
theorem i125v4_ok : TabIOk Try.prog i125v4 := tabIOf_ok _ trivial
def c125v4 : Cfg := ⟨liveTab [(0, ⟨[(0, .keep), (1, .keep), (7, .keep), (8, .keep)], [], [4], [], []⟩)], modeTab []⟩
noncomputable def b125v4 : Code := Try.f125.body.getD .skip
def lp125v4 {R : Type} (n : Nat) : Lp R := lpTab [(0, viaSP sp125v4_0 fun x K => l125v4_0 n (fun v0 => K (.ret) ⟨[.set 4 (.int .i64 v0)], []⟩) (K (.exit 0) ⟨[.set 4 (.top)], []⟩) n x.1.1 x.1.2.1.1.1 x.1.2.1.1.2.1 x.1.2.1.1.2.2.1 x.1.2.1.1.2.2.2.1 x.1.2.1.1.2.2.2.2.1 x.1.2.2.1 x.1.2.2.2.1)]
noncomputable def b125v4_0 : Code := ((loopsIn b125v4 0).getD 0 (0, .skip)).2
theorem l125v4_0_step {R : Type} (n k : Nat) (x : sp125v4_0.vals) (K : Ex → St → Option R) : evL (fun s K => evC ⟨D, t125v4, i125v4⟩ c125v4 (lp125v4 n) b125v4_0 0 s K) (c125v4.live 0).head (c125v4.live 0).leave (k + 1) (sp125v4_0.mk' x) K = F125v4_0 n (fun v0 => K (.ret) ⟨[.set 4 (.int .i64 v0)], []⟩) (K (.exit 0) ⟨[.set 4 (.top)], []⟩) (fun w0 w1 w2 w3 w4 w5 w6 w7 => evL (fun s K => evC ⟨D, t125v4, i125v4⟩ c125v4 (lp125v4 n) b125v4_0 0 s K) (c125v4.live 0).head (c125v4.live 0).leave k (sp125v4_0.mk' ((w0, (((w1, (w2, (w3, (w4, (w5, ()))))), ()), (w6, (w7, ())))), ())) K) x.1.1 x.1.2.1.1.1 x.1.2.1.1.2.1 x.1.2.1.1.2.2.1 x.1.2.1.1.2.2.2.1 x.1.2.1.1.2.2.2.2.1 x.1.2.2.1 x.1.2.2.2.1 := by kernel_rfl
theorem l125v4_0_ok {R : Type} (n : Nat) : ∀ (k : Nat) (x : sp125v4_0.vals) (K : Ex → St → Option R), evL (fun s K => evC ⟨D, t125v4, i125v4⟩ c125v4 (lp125v4 n) b125v4_0 0 s K) (c125v4.live 0).head (c125v4.live 0).leave k (sp125v4_0.mk' x) K = l125v4_0 n (fun v0 => K (.ret) ⟨[.set 4 (.int .i64 v0)], []⟩) (K (.exit 0) ⟨[.set 4 (.top)], []⟩) k x.1.1 x.1.2.1.1.1 x.1.2.1.1.2.1 x.1.2.1.1.2.2.1 x.1.2.1.1.2.2.2.1 x.1.2.1.1.2.2.2.2.1 x.1.2.2.1 x.1.2.2.2.1
  | 0, _, _ => rfl
  | k + 1, x, K => (l125v4_0_step n k x K).trans (congrArg (fun rec => F125v4_0 n (fun v0 => K (.ret) ⟨[.set 4 (.int .i64 v0)], []⟩) (K (.exit 0) ⟨[.set 4 (.top)], []⟩) rec x.1.1 x.1.2.1.1.1 x.1.2.1.1.2.1 x.1.2.1.1.2.2.1 x.1.2.1.1.2.2.2.1 x.1.2.1.1.2.2.2.2.1 x.1.2.2.1 x.1.2.2.2.1) (by funext w0 w1 w2 w3 w4 w5 w6 w7; exact l125v4_0_ok n k ((w0, (((w1, (w2, (w3, (w4, (w5, ()))))), ()), (w6, (w7, ())))), ()) K))
theorem F125v4_eq (n : Nat) (x : p125v4.vals) : evF ⟨D, t125v4, i125v4⟩ c125v4 (lp125v4 n) Try.f125 (p125v4.mk x) q125v4.get = G125v4 n x.1 x.2.1.1.1 x.2.1.1.2.1 x.2.1.1.2.2.1 x.2.1.1.2.2.2.1 x.2.1.1.2.2.2.2.1 := by kernel_rfl
theorem F125v4_ok (x : p125v4.vals) (y : q125v4.vals) (h : F125v4 x = some y) : Sound Try.prog 125 (p125v4.mk x) (q125v4.mk y) :=
  evF_sound hm hD ⟨t125v4_ok, i125v4_ok⟩ Try.func125 (c := b125v4) (by kernel_rfl) (by kernel_rfl) (fun v hv => PV.get_mk _ _ _ hv)
    (forall_loops _ [(0, b125v4_0)] (by kernel_rfl) ⟨fun s K r h => viaSP_good (p := sp125v4_0) (l125v4_0_ok KF KF) s K r h, trivial⟩) ((F125v4_eq KF x).trans h)
def e125v4 : CallE := entry [some (.int .i64), none] p125v4 q125v4 F125v4
theorem e125v4_ok : FunOk Try.prog 125 e125v4 := ⟨enters_of Try.func125 (by kernel_rfl) (c := b125v4) (by kernel_rfl), fun args y hy => entry_ok F125v4_ok args y hy⟩

/-! ### 82v4: slices.ContainsFunc[[]int,int] -/
def p82v4 : PL := (.cons (.sl true (.int .i64)) (.cons (.fn 137 (.cons (.ep (.cons (.int .i64) (.cons (.sl true (.pair (.int .i64) (.int .i64))) (.cons (.sl true (.pair (.int .i64) (.int .i64))) (.cons (.sl true (.int .i64)) (.cons (.sl true (.int .i64)) .nil))))) 0) .nil)) .nil))
def q82v4 : PV := .bool
def G82v4 (n : Nat) (x0 : (List Int)) (x1_0 : Int) (x1_1 : (List (Int × Int))) (x1_2 : (List (Int × Int))) (x1_3 : (List Int)) (x1_4 : (List Int)) : Option Bool :=
  (F125v4 (x0, (((x1_0, (x1_1, (x1_2, (x1_3, (x1_4, ()))))), ()), ()))).bind fun (y0 : Int) =>
  (some (decide (y0 ≥ (0 : Int))))
def F82v4 (x : ((List Int) × (((Int × ((List (Int × Int)) × ((List (Int × Int)) × ((List Int) × ((List Int) × Unit))))) × Unit) × Unit))) : Option Bool := G82v4 KF x.1 x.2.1.1.1 x.2.1.1.2.1 x.2.1.1.2.2.1 x.2.1.1.2.2.2.1 x.2.1.1.2.2.2.2.1
def t82v4 : Nat → Option CallE := tabOf [(125, e125v4)]
theorem t82v4_ok : TabOk Try.prog t82v4 := tabOf_ok _ ⟨e125v4_ok, trivial⟩
def i82v4 : Nat → Option CallI := tabIOf []
theorem i82v4_ok : TabIOk Try.prog i82v4 := tabIOf_ok _ trivial
def c82v4 : Cfg := ⟨liveTab [], modeTab []⟩
noncomputable def b82v4 : Code := Try.f82.body.getD .skip
def lp82v4 {R : Type} (n : Nat) : Lp R := lpTab []
theorem F82v4_eq (n : Nat) (x : p82v4.vals) : evF ⟨D, t82v4, i82v4⟩ c82v4 (lp82v4 n) Try.f82 (p82v4.mk x) q82v4.get = G82v4 n x.1 x.2.1.1.1 x.2.1.1.2.1 x.2.1.1.2.2.1 x.2.1.1.2.2.2.1 x.2.1.1.2.2.2.2.1 := by kernel_rfl
theorem F82v4_ok (x : p82v4.vals) (y : q82v4.vals) (h : F82v4 x = some y) : Sound Try.prog 82 (p82v4.mk x) (q82v4.mk y) :=
  evF_sound hm hD ⟨t82v4_ok, i82v4_ok⟩ Try.func82 (c := b82v4) (by kernel_rfl) (by kernel_rfl) (fun v hv => PV.get_mk _ _ _ hv)
    (forall_loops _ [] (by kernel_rfl) trivial) ((F82v4_eq KF x).trans h)
def e82v4 : CallE := entry [some (.int .i64), none] p82v4 q82v4 F82v4
theorem e82v4_ok : FunOk Try.prog 82 e82v4 := ⟨enters_of Try.func82 (by kernel_rfl) (c := b82v4) (by kernel_rfl), fun args y hy => entry_ok F82v4_ok args y hy⟩

/-! ### 99: spiritlevel/shrink.first -/
def p99 : PL := (.cons (.agg (.cons (.int .i64) (.cons (.sl true (.pair (.int .i64) (.int .i64))) (.cons (.sl true (.pair (.int .i64) (.int .i64))) (.cons (.sl true (.int .i64)) (.cons (.sl true (.int .i64)) .nil)))))) (.cons (.sl true (.int .i64)) .nil))
def q99 : PV := .bool
def G99 (n : Nat) (x0_0 : Int) (x0_1 : (List (Int × Int))) (x0_2 : (List (Int × Int))) (x0_3 : (List Int)) (x0_4 : (List Int)) (x1 : (List Int)) : Option Bool :=
  (F82v4 (x1, (((x0_0, (x0_1, (x0_2, (x0_3, (x0_4, ()))))), ()), ()))).bind fun (y0 : Bool) =>
  (some (!y0))
def F99 (x : ((Int × ((List (Int × Int)) × ((List (Int × Int)) × ((List Int) × ((List Int) × Unit))))) × ((List Int) × Unit))) : Option Bool := G99 KF x.1.1 x.1.2.1 x.1.2.2.1 x.1.2.2.2.1 x.1.2.2.2.2.1 x.2.1
def t99 : Nat → Option CallE := tabOf [(82, e82v4)]
theorem t99_ok : TabOk Try.prog t99 := tabOf_ok _ ⟨e82v4_ok, trivial⟩
def i99 : Nat → Option CallI := tabIOf []
theorem i99_ok : TabIOk Try.prog i99 := tabIOf_ok _ trivial
def c99 : Cfg := ⟨liveTab [], modeTab []⟩
noncomputable def b99 : Code := Try.f99.body.getD .skip
def lp99 {R : Type} (n : Nat) : Lp R := lpTab []
theorem F99_eq (n : Nat) (x : p99.vals) : evF ⟨D, t99, i99⟩ c99 (lp99 n) Try.f99 (p99.mk x) q99.get = G99 n x.1.1 x.1.2.1 x.1.2.2.1 x.1.2.2.2.1 x.1.2.2.2.2.1 x.2.1 := by kernel_rfl
theorem F99_ok (x : p99.vals) (y : q99.vals) (h : F99 x = some y) : Sound Try.prog 99 (p99.mk x) (q99.mk y) :=
  evF_sound hm hD ⟨t99_ok, i99_ok⟩ Try.func99 (c := b99) (by kernel_rfl) (by kernel_rfl) (fun v hv => PV.get_mk _ _ _ hv)
    (forall_loops _ [] (by kernel_rfl) trivial) ((F99_eq KF x).trans h)
def e99 : CallE := entry [none, some (.int .i64)] p99 q99 F99
theorem e99_ok : FunOk Try.prog 99 e99 := ⟨enters_of Try.func99 (by kernel_rfl) (c := b99) (by kernel_rfl), fun args y hy => entry_ok F99_ok args y hy⟩

/-! ### 45: spiritlevel/shrink.First -/
def p45 : PL := (.cons (.agg (.cons (.int .i64) (.cons (.sl true (.pair (.int .i64) (.int .i64))) (.cons (.sl true (.pair (.int .i64) (.int .i64))) (.cons (.sl true (.int .i64)) (.cons (.sl true (.int .i64)) .nil)))))) (.cons (.sl true (.int .i64)) .nil))
def q45 : PV := (.tup (.cons .bool (.cons (.int .i64) .nil)))
def G45 (n : Nat) (x0_0 : Int) (x0_1 : (List (Int × Int))) (x0_2 : (List (Int × Int))) (x0_3 : (List Int)) (x0_4 : (List Int)) (x1 : (List Int)) : Option (Bool × (Int × Unit)) :=
  (F66 ((x0_0, (x0_1, (x0_2, (x0_3, (x0_4, ()))))), ())).bind fun (y0 : Int) =>
  (bif (y0 != (0 : Int)) then (some (Bool.false, (y0, ())))
  else (F67 (((x0_1.length : Nat) : Int), (x1, ()))).bind fun (y1 : Int) =>
  (bif (y1 != (0 : Int)) then (some (Bool.false, ((8 : Int), ())))
  else (F99 ((x0_0, (x0_1, (x0_2, (x0_3, (x0_4, ()))))), (x1, ()))).bind fun (y2 : Bool) =>
  (some (y2, ((0 : Int), ())))))
def F45 (x : ((Int × ((List (Int × Int)) × ((List (Int × Int)) × ((List Int) × ((List Int) × Unit))))) × ((List Int) × Unit))) : Option (Bool × (Int × Unit)) := G45 KF x.1.1 x.1.2.1 x.1.2.2.1 x.1.2.2.2.1 x.1.2.2.2.2.1 x.2.1
def t45 : Nat → Option CallE := tabOf [(99, e99), (67, e67), (66, e66)]
theorem t45_ok : TabOk Try.prog t45 := tabOf_ok _ ⟨e99_ok, ⟨e67_ok, ⟨e66_ok, trivial⟩⟩⟩
def i45 : Nat → Option CallI := tabIOf []
theorem i45_ok : TabIOk Try.prog i45 := tabIOf_ok _ trivial
def c45 : Cfg := ⟨liveTab [], modeTab []⟩
noncomputable def b45 : Code := Try.f45.body.getD .skip
def lp45 {R : Type} (n : Nat) : Lp R := lpTab []
theorem F45_eq (n : Nat) (x : p45.vals) : evF ⟨D, t45, i45⟩ c45 (lp45 n) Try.f45 (p45.mk x) q45.get = G45 n x.1.1 x.1.2.1 x.1.2.2.1 x.1.2.2.2.1 x.1.2.2.2.2.1 x.2.1 := by kernel_rfl
theorem F45_ok (x : p45.vals) (y : q45.vals) (h : F45 x = some y) : Sound Try.prog 45 (p45.mk x) (q45.mk y) :=
  evF_sound hm hD ⟨t45_ok, i45_ok⟩ Try.func45 (c := b45) (by kernel_rfl) (by kernel_rfl) (fun v hv => PV.get_mk _ _ _ hv)
    (forall_loops _ [] (by kernel_rfl) trivial) ((F45_eq KF x).trans h)
def e45 : CallE := entry [none, some (.int .i64)] p45 q45 F45
theorem e45_ok : FunOk Try.prog 45 e45 := ⟨enters_of Try.func45 (by kernel_rfl) (c := b45) (by kernel_rfl), fun args y hy => entry_ok F45_ok args y hy⟩

/-! ### 100: spiritlevel/spiritlevelref39.Starts -/
def p100 : PL := (.cons (.agg (.cons (.int .i64) (.cons (.sl true (.pair (.int .i64) (.int .i64))) (.cons (.sl true (.pair (.int .i64) (.int .i64))) (.cons (.sl true (.int .i64)) (.cons (.sl true (.int .i64)) .nil)))))) (.cons (.sl true (.int .i64)) .nil))
def q100 : PV := .bool
def sp100_0 : SP := ⟨[(1, (.sl true (.int .i64))), (2, (.ptr 2 0)), (5, (.int .i64))], [(2, (.box (.cons (.int .i64) (.cons (.sl true (.pair (.int .i64) (.int .i64))) (.cons (.sl true (.pair (.int .i64) (.int .i64))) (.cons (.sl true (.int .i64)) (.cons (.sl true (.int .i64)) .nil)))))))]⟩
def F100_0 {R : Type} (n : Nat) (k0_0 : Bool → Option R) (k0_1 : Option R) (rec_0 : (List Int) → Int → Int → (List (Int × Int)) → (List (Int × Int)) → (List Int) → (List Int) → Option R) (x1 : (List Int)) (x5 : Int) (r2_0 : Int) (r2_1 : (List (Int × Int))) (r2_2 : (List (Int × Int))) (r2_3 : (List Int)) (r2_4 : (List Int)) : Option R :=
  (bif (decide (x5 < ((x1.length : Nat) : Int))) then ((idxL x1 x5)).bind fun e0 =>
  ((idxL r2_1 (Go.IntKind.wrap Go.IntKind.i64 ((Go.IntKind.wrap Go.IntKind.i64 (Int.tdiv e0 (2 : Int))) - (1 : Int))))).bind fun e1 =>
  ((bif (e1.2 == (0 : Int)) then ((idxL x1 x5)).bind fun e3 =>
  (bif (bif Bool.true then ((Int.tmod e3 (2 : Int)) == (0 : Int)) else Bool.false) then (some Bool.true)
  else (bif (e1.2 == (1 : Int)) then ((idxL x1 x5)).bind fun e4 =>
  (some (bif Bool.false then Bool.true else (bif Bool.true then ((Int.tmod e4 (2 : Int)) == (1 : Int)) else Bool.false)))
  else (some (bif Bool.false then Bool.true else Bool.false))))
  else (bif (e1.2 == (1 : Int)) then ((idxL x1 x5)).bind fun e5 =>
  (some (bif Bool.false then Bool.true else (bif Bool.true then ((Int.tmod e5 (2 : Int)) == (1 : Int)) else Bool.false)))
  else (some (bif Bool.false then Bool.true else Bool.false))))).bind fun e2 =>
  (bif e2 then (k0_0 (Bool.false))
  else (rec_0 (x1) ((Go.IntKind.wrap Go.IntKind.i64 (x5 + (1 : Int)))) (r2_0) (r2_1) (r2_2) (r2_3) (r2_4)))
  else (k0_1 ))
def l100_0 {R : Type} (n : Nat) (k0_0 : Bool → Option R) (k0_1 : Option R) : Nat → (List Int) → Int → Int → (List (Int × Int)) → (List (Int × Int)) → (List Int) → (List Int) → Option R
  | 0, _, _, _, _, _, _, _ => none
  | k + 1, x1, x5, r2_0, r2_1, r2_2, r2_3, r2_4 => F100_0 n k0_0 k0_1 (l100_0 n k0_0 k0_1 k) x1 x5 r2_0 r2_1 r2_2 r2_3 r2_4
def G100 (n : Nat) (x0_0 : Int) (x0_1 : (List (Int × Int))) (x0_2 : (List (Int × Int))) (x0_3 : (List Int)) (x0_4 : (List Int)) (x1 : (List Int)) : Option Bool :=
  (l100_0 n (fun v6 =>
  (some v6)) ((some Bool.true)) n (x1) ((0 : Int)) (x0_0) (x0_1) (x0_2) (x0_3) (x0_4))
def F100 (x : ((Int × ((List (Int × Int)) × ((List (Int × Int)) × ((List Int) × ((List Int) × Unit))))) × ((List Int) × Unit))) : Option Bool := G100 KF x.1.1 x.1.2.1 x.1.2.2.1 x.1.2.2.2.1 x.1.2.2.2.2.1 x.2.1
def t100 : Nat → Option CallE := tabOf []
theorem t100_ok : TabOk Try.prog t100 := tabOf_ok _ trivial
def i100 : Nat → Option CallI := tabIOf []
theorem i100_ok : TabIOk Try.prog i100 := tabIOf_ok _ trivial
def c100 : Cfg := ⟨liveTab [(0, ⟨[(1, .keep), (2, .keep), (5, .keep)], [2], [4], [], []⟩)], modeTab [(4, .quiet), (5, .one 45)]⟩
noncomputable def b100 : Code := Try.f100.body.getD .skip
def lp100 {R : Type} (n : Nat) : Lp R := lpTab [(0, viaSP sp100_0 fun x K => l100_0 n (fun v0 => K (.ret) ⟨[.set 4 (.bool v0)], []⟩) (K (.exit 0) ⟨[.set 4 (.top)], []⟩) n x.1.1 x.1.2.2.1 x.2.1.1 x.2.1.2.1 x.2.1.2.2.1 x.2.1.2.2.2.1 x.2.1.2.2.2.2.1)]
noncomputable def b100_0 : Code := ((loopsIn b100 0).getD 0 (0, .skip)).2
theorem l100_0_step {R : Type} (n k : Nat) (x : sp100_0.vals) (K : Ex → St → Option R) : evL (fun s K => evC ⟨D, t100, i100⟩ c100 (lp100 n) b100_0 0 s K) (c100.live 0).head (c100.live 0).leave (k + 1) (sp100_0.mk' x) K = F100_0 n (fun v0 => K (.ret) ⟨[.set 4 (.bool v0)], []⟩) (K (.exit 0) ⟨[.set 4 (.top)], []⟩) (fun w0 w1 w2 w3 w4 w5 w6 => evL (fun s K => evC ⟨D, t100, i100⟩ c100 (lp100 n) b100_0 0 s K) (c100.live 0).head (c100.live 0).leave k (sp100_0.mk' ((w0, ((), (w1, ()))), ((w2, (w3, (w4, (w5, (w6, ()))))), ()))) K) x.1.1 x.1.2.2.1 x.2.1.1 x.2.1.2.1 x.2.1.2.2.1 x.2.1.2.2.2.1 x.2.1.2.2.2.2.1 := by kernel_rfl
theorem l100_0_ok {R : Type} (n : Nat) : ∀ (k : Nat) (x : sp100_0.vals) (K : Ex → St → Option R), evL (fun s K => evC ⟨D, t100, i100⟩ c100 (lp100 n) b100_0 0 s K) (c100.live 0).head (c100.live 0).leave k (sp100_0.mk' x) K = l100_0 n (fun v0 => K (.ret) ⟨[.set 4 (.bool v0)], []⟩) (K (.exit 0) ⟨[.set 4 (.top)], []⟩) k x.1.1 x.1.2.2.1 x.2.1.1 x.2.1.2.1 x.2.1.2.2.1 x.2.1.2.2.2.1 x.2.1.2.2.2.2.1
  | 0, _, _ => rfl
  | k + 1, x, K => (l100_0_step n k x K).trans (congrArg (fun rec => F100_0 n (fun v0 => K (.ret) ⟨[.set 4 (.bool v0)], []⟩) (K (.exit 0) ⟨[.set 4 (.top)], []⟩) rec x.1.1 x.1.2.2.1 x.2.1.1 x.2.1.2.1 x.2.1.2.2.1 x.2.1.2.2.2.1 x.2.1.2.2.2.2.1) (by funext w0 w1 w2 w3 w4 w5 w6; exact l100_0_ok n k ((w0, ((), (w1, ()))), ((w2, (w3, (w4, (w5, (w6, ()))))), ())) K))
theorem F100_eq (n : Nat) (x : p100.vals) : evF ⟨D, t100, i100⟩ c100 (lp100 n) Try.f100 (p100.mk x) q100.get = G100 n x.1.1 x.1.2.1 x.1.2.2.1 x.1.2.2.2.1 x.1.2.2.2.2.1 x.2.1 := by kernel_rfl
theorem F100_ok (x : p100.vals) (y : q100.vals) (h : F100 x = some y) : Sound Try.prog 100 (p100.mk x) (q100.mk y) :=
  evF_sound hm hD ⟨t100_ok, i100_ok⟩ Try.func100 (c := b100) (by kernel_rfl) (by kernel_rfl) (fun v hv => PV.get_mk _ _ _ hv)
    (forall_loops _ [(0, b100_0)] (by kernel_rfl) ⟨fun s K r h => viaSP_good (p := sp100_0) (l100_0_ok KF KF) s K r h, trivial⟩) ((F100_eq KF x).trans h)
def e100 : CallE := entry [none, some (.int .i64)] p100 q100 F100
theorem e100_ok : FunOk Try.prog 100 e100 := ⟨enters_of Try.func100 (by kernel_rfl) (c := b100) (by kernel_rfl), fun args y hy => entry_ok F100_ok args y hy⟩

/-! ### 46: spiritlevel/spiritlevelref39.First -/
def p46 : PL := (.cons (.agg (.cons (.int .i64) (.cons (.sl true (.pair (.int .i64) (.int .i64))) (.cons (.sl true (.pair (.int .i64) (.int .i64))) (.cons (.sl true (.int .i64)) (.cons (.sl true (.int .i64)) .nil)))))) (.cons (.sl true (.int .i64)) .nil))
def q46 : PV := (.tup (.cons .bool (.cons (.int .i64) .nil)))
def G46 (n : Nat) (x0_0 : Int) (x0_1 : (List (Int × Int))) (x0_2 : (List (Int × Int))) (x0_3 : (List Int)) (x0_4 : (List Int)) (x1 : (List Int)) : Option (Bool × (Int × Unit)) :=
  (F52 ((x0_0, (x0_1, (x0_2, (x0_3, (x0_4, ()))))), ())).bind fun (y0 : Int) =>
  (bif (y0 != (0 : Int)) then (some (Bool.false, (y0, ())))
  else (F68 (((x0_1.length : Nat) : Int), (x1, ()))).bind fun (y1 : Bool) =>
  (bif (!y1) then (some (Bool.false, ((8 : Int), ())))
  else (F100 ((x0_0, (x0_1, (x0_2, (x0_3, (x0_4, ()))))), (x1, ()))).bind fun (y2 : Bool) =>
  (some (y2, ((0 : Int), ())))))
def F46 (x : ((Int × ((List (Int × Int)) × ((List (Int × Int)) × ((List Int) × ((List Int) × Unit))))) × ((List Int) × Unit))) : Option (Bool × (Int × Unit)) := G46 KF x.1.1 x.1.2.1 x.1.2.2.1 x.1.2.2.2.1 x.1.2.2.2.2.1 x.2.1
def t46 : Nat → Option CallE := tabOf [(100, e100), (68, e68), (52, e52)]
theorem t46_ok : TabOk Try.prog t46 := tabOf_ok _ ⟨e100_ok, ⟨e68_ok, ⟨e52_ok, trivial⟩⟩⟩
def i46 : Nat → Option CallI := tabIOf []
theorem i46_ok : TabIOk Try.prog i46 := tabIOf_ok _ trivial
def c46 : Cfg := ⟨liveTab [], modeTab []⟩
noncomputable def b46 : Code := Try.f46.body.getD .skip
def lp46 {R : Type} (n : Nat) : Lp R := lpTab []
theorem F46_eq (n : Nat) (x : p46.vals) : evF ⟨D, t46, i46⟩ c46 (lp46 n) Try.f46 (p46.mk x) q46.get = G46 n x.1.1 x.1.2.1 x.1.2.2.1 x.1.2.2.2.1 x.1.2.2.2.2.1 x.2.1 := by kernel_rfl
theorem F46_ok (x : p46.vals) (y : q46.vals) (h : F46 x = some y) : Sound Try.prog 46 (p46.mk x) (q46.mk y) :=
  evF_sound hm hD ⟨t46_ok, i46_ok⟩ Try.func46 (c := b46) (by kernel_rfl) (by kernel_rfl) (fun v hv => PV.get_mk _ _ _ hv)
    (forall_loops _ [] (by kernel_rfl) trivial) ((F46_eq KF x).trans h)
def e46 : CallE := entry [none, some (.int .i64)] p46 q46 F46
theorem e46_ok : FunOk Try.prog 46 e46 := ⟨enters_of Try.func46 (by kernel_rfl) (c := b46) (by kernel_rfl), fun args y hy => entry_ok F46_ok args y hy⟩

/-! ### 20: spiritlevel/spiritlevelref13.Same -/
def p20 : PL := (.cons (.sl true (.int .i64)) (.cons (.sl true (.int .i64)) .nil))
def q20 : PV := .bool
def sp20_0 : SP := ⟨[(0, (.sl true (.int .i64))), (1, (.sl true (.int .i64))), (5, (.int .i64))], []⟩
def F20_0 {R : Type} (n : Nat) (k0_0 : Bool → Option R) (k0_1 : Option R) (rec_0 : (List Int) → (List Int) → Int → Option R) (x0 : (List Int)) (x1 : (List Int)) (x5 : Int) : Option R :=
  (bif (decide (x5 < ((x0.length : Nat) : Int))) then ((idxL x0 x5)).bind fun e0 =>
  ((idxL x1 x5)).bind fun e1 =>
  (bif (e0 != e1) then (k0_0 (Bool.false))
  else (rec_0 (x0) (x1) ((Go.IntKind.wrap Go.IntKind.i64 (x5 + (1 : Int))))))
  else (k0_1 ))
def l20_0 {R : Type} (n : Nat) (k0_0 : Bool → Option R) (k0_1 : Option R) : Nat → (List Int) → (List Int) → Int → Option R
  | 0, _, _, _ => none
  | k + 1, x0, x1, x5 => F20_0 n k0_0 k0_1 (l20_0 n k0_0 k0_1 k) x0 x1 x5
def G20 (n : Nat) (x0 : (List Int)) (x1 : (List Int)) : Option Bool :=
  (bif (((x0.length : Nat) : Int) != ((x1.length : Nat) : Int)) then (some Bool.false)
  else (l20_0 n (fun v2 =>
  (some v2)) ((some Bool.true)) n (x0) (x1) ((0 : Int))))
def F20 (x : ((List Int) × ((List Int) × Unit))) : Option Bool := G20 KF x.1 x.2.1
def t20 : Nat → Option CallE := tabOf []
theorem t20_ok : TabOk Try.prog t20 := tabOf_ok _ trivial
def i20 : Nat → Option CallI := tabIOf []
theorem i20_ok : TabIOk Try.prog i20 := tabIOf_ok _ trivial
def c20 : Cfg := ⟨liveTab [(0, ⟨[(0, .keep), (1, .keep), (5, .keep)], [], [4], [], []⟩)], modeTab [(6, .quiet)]⟩
noncomputable def b20 : Code := Try.f20.body.getD .skip
def lp20 {R : Type} (n : Nat) : Lp R := lpTab [(0, viaSP sp20_0 fun x K => l20_0 n (fun v0 => K (.ret) ⟨[.set 4 (.bool v0)], []⟩) (K (.exit 0) ⟨[.set 4 (.top)], []⟩) n x.1.1 x.1.2.1 x.1.2.2.1)]
noncomputable def b20_0 : Code := ((loopsIn b20 0).getD 0 (0, .skip)).2
theorem l20_0_step {R : Type} (n k : Nat) (x : sp20_0.vals) (K : Ex → St → Option R) : evL (fun s K => evC ⟨D, t20, i20⟩ c20 (lp20 n) b20_0 0 s K) (c20.live 0).head (c20.live 0).leave (k + 1) (sp20_0.mk' x) K = F20_0 n (fun v0 => K (.ret) ⟨[.set 4 (.bool v0)], []⟩) (K (.exit 0) ⟨[.set 4 (.top)], []⟩) (fun w0 w1 w2 => evL (fun s K => evC ⟨D, t20, i20⟩ c20 (lp20 n) b20_0 0 s K) (c20.live 0).head (c20.live 0).leave k (sp20_0.mk' ((w0, (w1, (w2, ()))), ())) K) x.1.1 x.1.2.1 x.1.2.2.1 := by kernel_rfl
theorem l20_0_ok {R : Type} (n : Nat) : ∀ (k : Nat) (x : sp20_0.vals) (K : Ex → St → Option R), evL (fun s K => evC ⟨D, t20, i20⟩ c20 (lp20 n) b20_0 0 s K) (c20.live 0).head (c20.live 0).leave k (sp20_0.mk' x) K = l20_0 n (fun v0 => K (.ret) ⟨[.set 4 (.bool v0)], []⟩) (K (.exit 0) ⟨[.set 4 (.top)], []⟩) k x.1.1 x.1.2.1 x.1.2.2.1
  | 0, _, _ => rfl
  | k + 1, x, K => (l20_0_step n k x K).trans (congrArg (fun rec => F20_0 n (fun v0 => K (.ret) ⟨[.set 4 (.bool v0)], []⟩) (K (.exit 0) ⟨[.set 4 (.top)], []⟩) rec x.1.1 x.1.2.1 x.1.2.2.1) (by funext w0 w1 w2; exact l20_0_ok n k ((w0, (w1, (w2, ()))), ()) K))
theorem F20_eq (n : Nat) (x : p20.vals) : evF ⟨D, t20, i20⟩ c20 (lp20 n) Try.f20 (p20.mk x) q20.get = G20 n x.1 x.2.1 := by kernel_rfl
theorem F20_ok (x : p20.vals) (y : q20.vals) (h : F20 x = some y) : Sound Try.prog 20 (p20.mk x) (q20.mk y) :=
  evF_sound hm hD ⟨t20_ok, i20_ok⟩ Try.func20 (c := b20) (by kernel_rfl) (by kernel_rfl) (fun v hv => PV.get_mk _ _ _ hv)
    (forall_loops _ [(0, b20_0)] (by kernel_rfl) ⟨fun s K r h => viaSP_good (p := sp20_0) (l20_0_ok KF KF) s K r h, trivial⟩) ((F20_eq KF x).trans h)
def e20 : CallE := entry [some (.int .i64), some (.int .i64)] p20 q20 F20
theorem e20_ok : FunOk Try.prog 20 e20 := ⟨enters_of Try.func20 (by kernel_rfl) (c := b20) (by kernel_rfl), fun args y hy => entry_ok F20_ok args y hy⟩

/-! ### 6: spiritlevel/spiritlevellaw39.ShrinkStates -/
def p6 : PL := (.cons (.agg (.cons (.int .i64) (.cons (.sl true (.pair (.int .i64) (.int .i64))) (.cons (.sl true (.pair (.int .i64) (.int .i64))) (.cons (.sl true (.int .i64)) (.cons (.sl true (.int .i64)) .nil)))))) (.cons (.sl true .bool) (.cons (.sl true .bool) (.cons (.sl true (.int .i64)) .nil))))
def q6 : PV := .bool
def G6 (n : Nat) (x0_0 : Int) (x0_1 : (List (Int × Int))) (x0_2 : (List (Int × Int))) (x0_3 : (List Int)) (x0_4 : (List Int)) (x1 : (List Bool)) (x2 : (List Bool)) (x3 : (List Int)) : Option Bool :=
  ((F12 ((x0_0, (x0_1, (x0_2, (x0_3, (x0_4, ()))))), ())).bind fun (y1 : Bool) =>
  (bif y1 then (some Bool.true)
  else (bif (bif Bool.false then Bool.true else (decide (((x1.length : Nat) : Int) > (30 : Int)))) then (some Bool.true)
  else (bif (bif Bool.false then Bool.true else (decide (((x2.length : Nat) : Int) > (30 : Int)))) then (some Bool.true)
  else (some (bif Bool.false then Bool.true else (decide (((x3.length : Nat) : Int) > (20 : Int))))))))).bind fun e0 =>
  (bif e0 then (some Bool.true)
  else (F41 ((x0_0, (x0_1, (x0_2, (x0_3, (x0_4, ()))))), (x1, (x2, (x3, ()))))).bind fun (y2 : ((List Int) × (Int × Unit))) =>
  (F42 ((x0_0, (x0_1, (x0_2, (x0_3, (x0_4, ()))))), (x1, (x2, (x3, ()))))).bind fun (y3 : ((List Int) × (Int × Unit))) =>
  (F43 ((x0_0, (x0_1, (x0_2, (x0_3, (x0_4, ()))))), (x1, (x2, ())))).bind fun (y4 : ((List Int) × (Int × Unit))) =>
  (F44 ((x0_0, (x0_1, (x0_2, (x0_3, (x0_4, ()))))), (x1, (x2, ())))).bind fun (y5 : ((List Int) × (Int × Unit))) =>
  (F45 ((x0_0, (x0_1, (x0_2, (x0_3, (x0_4, ()))))), (x3, ()))).bind fun (y6 : (Bool × (Int × Unit))) =>
  (F46 ((x0_0, (x0_1, (x0_2, (x0_3, (x0_4, ()))))), (x3, ()))).bind fun (y7 : (Bool × (Int × Unit))) =>
  ((F20 (y2.1, (y3.1, ()))).bind fun (y9 : Bool) =>
  (bif y9 then (bif (bif Bool.true then (y2.2.1 == y3.2.1) else Bool.false) then (F20 (y4.1, (y5.1, ()))).bind fun (y10 : Bool) =>
  (bif (bif Bool.true then y10 else Bool.false) then (bif (bif Bool.true then (y4.2.1 == y5.2.1) else Bool.false) then (bif (bif Bool.true then (y6.1 == y7.1) else Bool.false) then (some (bif Bool.true then (y6.2.1 == y7.2.1) else Bool.false))
  else (some Bool.false))
  else (some Bool.false))
  else (some Bool.false))
  else (some Bool.false))
  else (some Bool.false))).bind fun e8 =>
  (some e8))
def F6 (x : ((Int × ((List (Int × Int)) × ((List (Int × Int)) × ((List Int) × ((List Int) × Unit))))) × ((List Bool) × ((List Bool) × ((List Int) × Unit))))) : Option Bool := G6 KF x.1.1 x.1.2.1 x.1.2.2.1 x.1.2.2.2.1 x.1.2.2.2.2.1 x.2.1 x.2.2.1 x.2.2.2.1
def t6 : Nat → Option CallE := tabOf [(20, e20), (46, e46), (45, e45), (44, e44), (43, e43), (42, e42), (41, e41), (12, e12)]
theorem t6_ok : TabOk Try.prog t6 := tabOf_ok _ ⟨e20_ok, ⟨e46_ok, ⟨e45_ok, ⟨e44_ok, ⟨e43_ok, ⟨e42_ok, ⟨e41_ok, ⟨e12_ok, trivial⟩⟩⟩⟩⟩⟩⟩⟩
def i6 : Nat → Option CallI := tabIOf []
theorem i6_ok : TabIOk Try.prog i6 := tabIOf_ok _ trivial
def c6 : Cfg := ⟨liveTab [], modeTab [(1, .one 37), (9, .one 8)]⟩
noncomputable def b6 : Code := Try.f6.body.getD .skip
def lp6 {R : Type} (n : Nat) : Lp R := lpTab []
theorem F6_eq (n : Nat) (x : p6.vals) : evF ⟨D, t6, i6⟩ c6 (lp6 n) Try.f6 (p6.mk x) q6.get = G6 n x.1.1 x.1.2.1 x.1.2.2.1 x.1.2.2.2.1 x.1.2.2.2.2.1 x.2.1 x.2.2.1 x.2.2.2.1 := by kernel_rfl
theorem F6_ok (x : p6.vals) (y : q6.vals) (h : F6 x = some y) : Sound Try.prog 6 (p6.mk x) (q6.mk y) :=
  evF_sound hm hD ⟨t6_ok, i6_ok⟩ Try.func6 (c := b6) (by kernel_rfl) (by kernel_rfl) (fun v hv => PV.get_mk _ _ _ hv)
    (forall_loops _ [] (by kernel_rfl) trivial) ((F6_eq KF x).trans h)
def e6 : CallE := entry [none, some .bool, some .bool, some (.int .i64)] p6 q6 F6
theorem e6_ok : FunOk Try.prog 6 e6 := ⟨enters_of Try.func6 (by kernel_rfl) (c := b6) (by kernel_rfl), fun args y hy => entry_ok F6_ok args y hy⟩

end Go.Proofs.Ytbcijglbinaioaa.Ev
