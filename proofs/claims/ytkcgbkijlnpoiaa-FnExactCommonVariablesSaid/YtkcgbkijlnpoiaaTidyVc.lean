/- A part of a walk: TidyVc. -/
import Derived.Test.YtkcgbkijlnpoiaaProg
import Derived.Test.YtkcgbkijlnpoiaaPiTab
namespace Go.Pi.TidyVc
open Go Go.Pi Go.Proofs

def tab : List (Nat × TI) := [(2, .base (.int .i64)),
  (3, .base (.int .i64)),
  (4, .base .bool),
  (22, .slice 54 16 (.pair (.int .i64) (.pair (.int .i64) .unit))),
  (24, .slice 52 16 (.pair (.int .i64) (.pair (.int .i64) .unit))),
  (52, .struct [(0, 2), (1, 2)] (.pair (.int .i64) (.pair (.int .i64) .unit))),
  (54, .struct [(0, 2), (1, 2)] (.pair (.int .i64) (.pair (.int .i64) .unit))),
  (78, .slice 24 24 (.sl false (.pair (.int .i64) (.pair (.int .i64) .unit))))]
/-- laws.szNodeS -/
def S8 : Sg := ⟨[(.bor, (.sl false (.pair (.int .i64) (.pair (.int .i64) .unit)))), (.bor, (.int .i64))], [(.int .i64)]⟩
/-- laws.toNode -/
def S37 : Sg := ⟨[(.bor, (.pair (.int .i64) (.pair (.int .i64) .unit)))], [(.pair (.int .i64) (.pair (.int .i64) .unit))]⟩
/-- laws.toNodeS -/
def S10 : Sg := ⟨[(.bor, (.sl false (.pair (.int .i64) (.pair (.int .i64) .unit))))], [(.sl true (.pair (.int .i64) (.pair (.int .i64) .unit)))]⟩
/-- spec.l01In -/
def S80 : Sg := ⟨[(.bor, (.int .i64)), (.bor, (.int .i64)), (.bor, (.int .i64))], [.bool]⟩
/-- spec.l02Parts -/
def S58 : Sg := ⟨[(.bor, (.int .i64))], [(.int .i64)]⟩
/-- spec.l02Part -/
def S122 : Sg := ⟨[(.bor, (.sl false (.pair (.int .i64) (.pair (.int .i64) .unit)))), (.bor, (.int .i64))], [(.int .i64)]⟩
/-- spec.l02Tree -/
def S57 : Sg := ⟨[(.bor, (.sl false (.pair (.int .i64) (.pair (.int .i64) .unit))))], [.bool]⟩
/-- spec.l02Is -/
def S34 : Sg := ⟨[(.bor, (.sl false (.pair (.int .i64) (.pair (.int .i64) .unit))))], [.bool]⟩
/-- spec.l02Plain -/
def S35 : Sg := ⟨[(.bor, (.sl false (.pair (.int .i64) (.pair (.int .i64) .unit))))], [.bool]⟩
/-- spec.l02Pre -/
def S59 : Sg := ⟨[(.bor, (.int .i64)), (.bor, (.sl false (.pair (.int .i64) (.pair (.int .i64) .unit))))], [(.sl true (.pair (.int .i64) (.pair (.int .i64) .unit)))]⟩
/-- spec.l02False -/
def S65 : Sg := ⟨[], [(.sl true (.pair (.int .i64) (.pair (.int .i64) .unit)))]⟩
/-- spec.l02Pair -/
def S66 : Sg := ⟨[(.bor, (.int .i64)), (.bor, (.sl false (.pair (.int .i64) (.pair (.int .i64) .unit)))), (.bor, (.sl false (.pair (.int .i64) (.pair (.int .i64) .unit))))], [(.sl true (.pair (.int .i64) (.pair (.int .i64) .unit)))]⟩
/-- spec.l02Not -/
def S123 : Sg := ⟨[(.bor, (.sl false (.pair (.int .i64) (.pair (.int .i64) .unit))))], [(.sl true (.pair (.int .i64) (.pair (.int .i64) .unit)))]⟩
/-- spec.l02True -/
def S61 : Sg := ⟨[], [(.sl true (.pair (.int .i64) (.pair (.int .i64) .unit)))]⟩
/-- spec.l02Equal -/
def S60 : Sg := ⟨[(.bor, (.sl false (.pair (.int .i64) (.pair (.int .i64) .unit)))), (.bor, (.sl false (.pair (.int .i64) (.pair (.int .i64) .unit))))], [.bool]⟩
/-- spec.l02Own -/
def S62 : Sg := ⟨[(.bor, (.sl false (.pair (.int .i64) (.pair (.int .i64) .unit))))], [(.sl true (.pair (.int .i64) (.pair (.int .i64) .unit)))]⟩
/-- spec.l02Left -/
def S63 : Sg := ⟨[(.bor, (.sl false (.pair (.int .i64) (.pair (.int .i64) .unit))))], [(.sl false (.pair (.int .i64) (.pair (.int .i64) .unit)))]⟩
/-- spec.l02Right -/
def S64 : Sg := ⟨[(.bor, (.sl false (.pair (.int .i64) (.pair (.int .i64) .unit))))], [(.sl false (.pair (.int .i64) (.pair (.int .i64) .unit)))]⟩
/-- spec.l28Tidy -/
def S36 : Sg := ⟨[(.bor, (.sl false (.pair (.int .i64) (.pair (.int .i64) .unit))))], [(.sl true (.pair (.int .i64) (.pair (.int .i64) .unit)))]⟩
/-- spec.TidyFormula -/
def S9 : Sg := ⟨[(.bor, (.sl false (.pair (.int .i64) (.pair (.int .i64) .unit))))], [(.sl true (.pair (.int .i64) (.pair (.int .i64) .unit))), (.int .i64)]⟩
/-- impl.inRange -/
def S109 : Sg := ⟨[(.bor, (.int .i64)), (.bor, (.int .i64)), (.bor, (.int .i64))], [.bool]⟩
/-- impl.isVariable -/
def S84 : Sg := ⟨[(.bor, (.int .i64))], [.bool]⟩
/-- impl.isNode -/
def S99 : Sg := ⟨[(.bor, (.pair (.int .i64) (.pair (.int .i64) .unit)))], [.bool]⟩
/-- impl.isFormula$1 -/
def S98 : Sg := ⟨[(.bor, (.pair (.int .i64) (.pair (.int .i64) .unit)))], [.bool]⟩
/-- slices.IndexFunc(()impl.Node,impl.Node) -/
def S140_98 : Sg := ⟨[(.bor, (.sl false (.pair (.int .i64) (.pair (.int .i64) .unit)))), (.bor, (.clo 98 .unit))], [(.int .i64)]⟩
/-- slices.ContainsFunc(()impl.Node,impl.Node) -/
def S97_98 : Sg := ⟨[(.bor, (.sl false (.pair (.int .i64) (.pair (.int .i64) .unit)))), (.bor, (.clo 98 .unit))], [.bool]⟩
/-- impl.partsOf -/
def S71 : Sg := ⟨[(.bor, (.int .i64))], [(.int .i64)]⟩
/-- impl.partEnd -/
def S100 : Sg := ⟨[(.bor, (.sl false (.pair (.int .i64) (.pair (.int .i64) .unit)))), (.bor, (.int .i64))], [(.int .i64)]⟩
/-- impl.isFormula -/
def S45 : Sg := ⟨[(.bor, (.sl false (.pair (.int .i64) (.pair (.int .i64) .unit))))], [.bool]⟩
/-- impl.areFormulas$1 -/
def S124 : Sg := ⟨[(.bor, (.sl false (.pair (.int .i64) (.pair (.int .i64) .unit))))], [.bool]⟩
/-- slices.IndexFunc(()()impl.Node,()impl.Node) -/
def S125_124 : Sg := ⟨[(.bor, (.sl false (.sl false (.pair (.int .i64) (.pair (.int .i64) .unit))))), (.bor, (.clo 124 .unit))], [(.int .i64)]⟩
/-- slices.ContainsFunc(()()impl.Node,()impl.Node) -/
def S68_124 : Sg := ⟨[(.bor, (.sl false (.sl false (.pair (.int .i64) (.pair (.int .i64) .unit))))), (.bor, (.clo 124 .unit))], [.bool]⟩
/-- impl.areFormulas -/
def S67 : Sg := ⟨[(.bor, (.sl false (.sl false (.pair (.int .i64) (.pair (.int .i64) .unit)))))], [.bool]⟩
/-- impl.isModal -/
def S127 : Sg := ⟨[(.bor, (.int .i64))], [.bool]⟩
/-- impl.isPlain$1 -/
def S126 : Sg := ⟨[(.bor, (.pair (.int .i64) (.pair (.int .i64) .unit)))], [.bool]⟩
/-- slices.IndexFunc(()impl.Node,impl.Node) -/
def S140_126 : Sg := ⟨[(.bor, (.sl false (.pair (.int .i64) (.pair (.int .i64) .unit)))), (.bor, (.clo 126 .unit))], [(.int .i64)]⟩
/-- slices.ContainsFunc(()impl.Node,impl.Node) -/
def S97_126 : Sg := ⟨[(.bor, (.sl false (.pair (.int .i64) (.pair (.int .i64) .unit)))), (.bor, (.clo 126 .unit))], [.bool]⟩
/-- impl.isPlain -/
def S70 : Sg := ⟨[(.bor, (.sl false (.pair (.int .i64) (.pair (.int .i64) .unit))))], [.bool]⟩
/-- impl.plainCode$1 -/
def S69 : Sg := ⟨[(.bor, (.sl false (.pair (.int .i64) (.pair (.int .i64) .unit))))], [.bool]⟩
/-- slices.IndexFunc(()()impl.Node,()impl.Node) -/
def S125_69 : Sg := ⟨[(.bor, (.sl false (.sl false (.pair (.int .i64) (.pair (.int .i64) .unit))))), (.bor, (.clo 69 .unit))], [(.int .i64)]⟩
/-- slices.ContainsFunc(()()impl.Node,()impl.Node) -/
def S68_69 : Sg := ⟨[(.bor, (.sl false (.sl false (.pair (.int .i64) (.pair (.int .i64) .unit))))), (.bor, (.clo 69 .unit))], [.bool]⟩
/-- impl.plainCode -/
def S38 : Sg := ⟨[(.bor, (.sl false (.sl false (.pair (.int .i64) (.pair (.int .i64) .unit)))))], [(.int .i64)]⟩
/-- slices.Clone(()impl.Node,impl.Node) -/
def S128 : Sg := ⟨[(.bor, (.sl false (.pair (.int .i64) (.pair (.int .i64) .unit))))], [(.sl true (.pair (.int .i64) (.pair (.int .i64) .unit)))]⟩
/-- impl.clone -/
def S72 : Sg := ⟨[(.bor, (.sl false (.pair (.int .i64) (.pair (.int .i64) .unit))))], [(.sl true (.pair (.int .i64) (.pair (.int .i64) .unit)))]⟩
/-- impl.part -/
def S129 : Sg := ⟨[(.bor, (.sl false (.pair (.int .i64) (.pair (.int .i64) .unit)))), (.bor, (.int .i64))], [(.sl false (.pair (.int .i64) (.pair (.int .i64) .unit)))]⟩
/-- impl.first -/
def S73 : Sg := ⟨[(.bor, (.sl false (.pair (.int .i64) (.pair (.int .i64) .unit))))], [(.sl false (.pair (.int .i64) (.pair (.int .i64) .unit)))]⟩
/-- impl.second -/
def S74 : Sg := ⟨[(.bor, (.sl false (.pair (.int .i64) (.pair (.int .i64) .unit))))], [(.sl false (.pair (.int .i64) (.pair (.int .i64) .unit)))]⟩
/-- slices.Equal(()impl.Node,impl.Node) -/
def S130 : Sg := ⟨[(.bor, (.sl false (.pair (.int .i64) (.pair (.int .i64) .unit)))), (.bor, (.sl false (.pair (.int .i64) (.pair (.int .i64) .unit))))], [.bool]⟩
/-- impl.same -/
def S76 : Sg := ⟨[(.bor, (.sl false (.pair (.int .i64) (.pair (.int .i64) .unit)))), (.bor, (.sl false (.pair (.int .i64) (.pair (.int .i64) .unit))))], [.bool]⟩
/-- impl.truth -/
def S77 : Sg := ⟨[], [(.sl true (.pair (.int .i64) (.pair (.int .i64) .unit)))]⟩
/-- impl.tidy$1 -/
def S75 : Sg := ⟨[(.bor, (.sl false (.pair (.int .i64) (.pair (.int .i64) .unit))))], [.bool]⟩
/-- impl.isFalsum -/
def S78 : Sg := ⟨[(.bor, (.sl false (.pair (.int .i64) (.pair (.int .i64) .unit))))], [.bool]⟩
/-- slices.Grow(()impl.Node,impl.Node) -/
def S161 : Sg := ⟨[(.tak, (.sl true (.pair (.int .i64) (.pair (.int .i64) .unit)))), (.bor, (.int .i64))], [(.sl true (.pair (.int .i64) (.pair (.int .i64) .unit)))]⟩
/-- slices.Concat(()impl.Node,impl.Node) -/
def S131 : Sg := ⟨[(.bor, (.sl false (.sl false (.pair (.int .i64) (.pair (.int .i64) .unit)))))], [(.sl true (.pair (.int .i64) (.pair (.int .i64) .unit)))]⟩
/-- impl.join -/
def S79 : Sg := ⟨[(.bor, (.int .i64)), (.bor, (.sl false (.pair (.int .i64) (.pair (.int .i64) .unit)))), (.bor, (.sl false (.pair (.int .i64) (.pair (.int .i64) .unit))))], [(.sl true (.pair (.int .i64) (.pair (.int .i64) .unit)))]⟩
/-- impl.tidy -/
def S39 : Sg := ⟨[(.bor, (.sl false (.pair (.int .i64) (.pair (.int .i64) .unit))))], [(.sl true (.pair (.int .i64) (.pair (.int .i64) .unit)))]⟩
/-- impl.TidyFormula -/
def S11 : Sg := ⟨[(.bor, (.sl false (.pair (.int .i64) (.pair (.int .i64) .unit))))], [(.sl true (.pair (.int .i64) (.pair (.int .i64) .unit))), (.int .i64)]⟩
/-- laws.eqNode -/
def S40 : Sg := ⟨[(.bor, (.pair (.int .i64) (.pair (.int .i64) .unit))), (.bor, (.pair (.int .i64) (.pair (.int .i64) .unit)))], [.bool]⟩
/-- laws.eqNodeS -/
def S12 : Sg := ⟨[(.bor, (.sl false (.pair (.int .i64) (.pair (.int .i64) .unit)))), (.bor, (.sl false (.pair (.int .i64) (.pair (.int .i64) .unit))))], [.bool]⟩
/-- laws.markNodeS -/
def S13 : Sg := ⟨[(.ino, (.sl true (.pair (.int .i64) (.pair (.int .i64) .unit)))), (.bor, (.int .i64))], [(.int .i64)]⟩
/-- laws.heldNodeS -/
def S14 : Sg := ⟨[(.bor, (.sl false (.pair (.int .i64) (.pair (.int .i64) .unit)))), (.bor, (.int .i64))], [(.int .i64)]⟩
/-- laws.FnExactTidyFormula -/
def S3 : Sg := ⟨[(.bor, (.sl false (.pair (.int .i64) (.pair (.int .i64) .unit))))], [.bool]⟩
def sgs : List SgRow := [⟨8, [], S8⟩, ⟨37, [], S37⟩, ⟨10, [], S10⟩, ⟨80, [], S80⟩, ⟨58, [], S58⟩, ⟨122, [], S122⟩, ⟨57, [], S57⟩, ⟨34, [], S34⟩, ⟨35, [], S35⟩, ⟨59, [], S59⟩, ⟨65, [], S65⟩, ⟨66, [], S66⟩, ⟨123, [], S123⟩, ⟨61, [], S61⟩, ⟨60, [], S60⟩, ⟨62, [], S62⟩, ⟨63, [], S63⟩, ⟨64, [], S64⟩, ⟨36, [], S36⟩, ⟨9, [], S9⟩, ⟨109, [], S109⟩, ⟨84, [], S84⟩, ⟨99, [], S99⟩, ⟨98, [], S98⟩, ⟨140, [98], S140_98⟩, ⟨97, [98], S97_98⟩, ⟨71, [], S71⟩, ⟨100, [], S100⟩, ⟨45, [], S45⟩, ⟨124, [], S124⟩, ⟨125, [124], S125_124⟩, ⟨68, [124], S68_124⟩, ⟨67, [], S67⟩, ⟨127, [], S127⟩, ⟨126, [], S126⟩, ⟨140, [126], S140_126⟩, ⟨97, [126], S97_126⟩, ⟨70, [], S70⟩, ⟨69, [], S69⟩, ⟨125, [69], S125_69⟩, ⟨68, [69], S68_69⟩, ⟨38, [], S38⟩, ⟨128, [], S128⟩, ⟨72, [], S72⟩, ⟨129, [], S129⟩, ⟨73, [], S73⟩, ⟨74, [], S74⟩, ⟨130, [], S130⟩, ⟨76, [], S76⟩, ⟨77, [], S77⟩, ⟨75, [], S75⟩, ⟨78, [], S78⟩, ⟨161, [], S161⟩, ⟨131, [], S131⟩, ⟨79, [], S79⟩, ⟨39, [], S39⟩, ⟨11, [], S11⟩, ⟨40, [], S40⟩, ⟨12, [], S12⟩, ⟨13, [], S13⟩, ⟨14, [], S14⟩, ⟨3, [], S3⟩]
def E : Env := envOf Try.prog tab sgs
theorem tab_all : tab.all (fun p => tiB Try.prog p.1 p.2) = true := by kernel_rfl
theorem sgs_all : sgs.all (fun x => fnB Try.prog x.g) = true := by kernel_rfl
theorem mixed : Try.prog.follows .mixedOrders = true := by kernel_rfl
theorem eok : EnvOk Try.prog E := envOf_ok tab_all
theorem kok : Known Try.prog E := envOf_known mixed sgs_all
def A8 : Ann := {}
theorem r8 (x0 : List D) (z0 : Bool) (x1 : Int) (rs : List D) : (sel (decide ((IntKind.i64.wrap (x1 - (x0.length : Int))) < (0 : Int))) ([(D.i (-1 : Int))] = rs) ([(D.i (IntKind.i64.wrap (x1 - (x0.length : Int))))] = rs)) = vc E A8 Try.f8 S8 [(D.l x0 z0), (D.i x1)] rs := by kernel_rfl
def A37 : Ann := {}
theorem r37 (x0 : D) (rs : List D) : (True ∧ (True ∧ (True ∧ ([(D.p x0.fst (D.p x0.snd.fst D.u))] = rs)))) = vc E A37 Try.f37 S37 [x0] rs := by kernel_rfl
def A10 : Ann := { op := fun r n => bif Nat.beq r 6 && Nat.beq n 1 then 1 else 0, loop := fun i => bif Nat.beq i 3 then some [(0, (.sl false (.pair (.int .i64) (.pair (.int .i64) .unit)))), (3, (.sl true (.pair (.int .i64) (.pair (.int .i64) .unit)))), (4, (.int .i64))] else none }
theorem r10 (x0 : List D) (z0 : Bool) (rs : List D) : ((0 ≤ (x0.length : Int) ∧ (x0.length : Int) ≤ (x0.length : Int) ∧ (x0.length : Int) * 16 ≤ 140737488355328 ∧ (x0.length : Int) ≤ 140737488355328) ∧ (∃ (J3 : List D → Prop) (m3 : List D → Nat), (J3 [(D.l x0 z0), (D.l (List.replicate ((x0.length : Int)).toNat (D.p (D.i (0 : Int)) (D.p (D.i (0 : Int)) D.u))) false), (D.i (0 : Int))]) ∧ (∀ s0_5 : D, ∀ s3_6 : D, ∀ s4_7 : D, J3 [s0_5, s3_6, s4_7] → (sel (decide (s4_7.toI < (s0_5.toL.length : Int))) ((0 ≤ s4_7.toI ∧ s4_7.toI < (s0_5.toL.length : Int)) ∧ (∃ r8 : D, E.sat 37 [] [(s0_5.toL.getD (s4_7.toI).toNat D.u)] [r8] ∧ ((0 ≤ s4_7.toI ∧ s4_7.toI < (s3_6.toL.length : Int)) ∧ (((s4_7.toI).toNat < s3_6.toL.length) ∧ (True ∧ (J3 [s0_5, (D.l (s3_6.toL.set (s4_7.toI).toNat r8) s3_6.toZ), (D.i (IntKind.i64.wrap (s4_7.toI + (1 : Int))))] ∧ m3 [s0_5, (D.l (s3_6.toL.set (s4_7.toI).toNat r8) s3_6.toZ), (D.i (IntKind.i64.wrap (s4_7.toI + (1 : Int))))] < m3 [s0_5, s3_6, s4_7])))))) ([s3_6] = rs))))) = vc E A10 Try.f10 S10 [(D.l x0 z0)] rs := by kernel_rfl
def A80 : Ann := {}
theorem r80 (x0 : Int) (x1 : Int) (x2 : Int) (rs : List D) : (sel ((decide (x0 ≥ x1)) == true) ([(D.b (decide (x0 ≤ x2)))] = rs) ([(D.b false)] = rs)) = vc E A80 Try.f80 S80 [(D.i x0), (D.i x1), (D.i x2)] rs := by kernel_rfl
def A58 : Ann := {}
theorem r58 (x0 : Int) (rs : List D) : (sel (x0 == (2 : Int)) ([(D.i (2 : Int))] = rs) (sel (x0 == (3 : Int)) ([(D.i (2 : Int))] = rs) (sel (x0 == (4 : Int)) ([(D.i (2 : Int))] = rs) (sel (x0 == (5 : Int)) ([(D.i (1 : Int))] = rs) (sel (x0 == (6 : Int)) ([(D.i (1 : Int))] = rs) ([(D.i (0 : Int))] = rs)))))) = vc E A58 Try.f58 S58 [(D.i x0)] rs := by kernel_rfl
def A122 : Ann := { loop := fun i => bif Nat.beq i 2 then some [(0, (.sl false (.pair (.int .i64) (.pair (.int .i64) .unit)))), (1, (.int .i64)), (5, (.int .i64))] else none }
theorem r122 (x0 : List D) (z0 : Bool) (x1 : Int) (rs : List D) : (∃ (J2 : List D → Prop) (m2 : List D → Nat), (J2 [(D.l x0 z0), (D.i x1), (D.i (1 : Int))]) ∧ (∀ s0_5 : D, ∀ s1_6 : D, ∀ s5_7 : D, J2 [s0_5, s1_6, s5_7] → (sel (decide (s5_7.toI > (0 : Int))) (sel (decide (s1_6.toI ≥ (s0_5.toL.length : Int))) ([(D.i (-1 : Int))] = rs) ((0 ≤ s1_6.toI ∧ s1_6.toI < (s0_5.toL.length : Int)) ∧ (∃ r8 : D, E.sat 58 [] [(s0_5.toL.getD (s1_6.toI).toNat D.u).fst] [r8] ∧ (True ∧ (True ∧ (J2 [s0_5, (D.i (IntKind.i64.wrap (s1_6.toI + (1 : Int)))), (D.i (IntKind.i64.wrap ((IntKind.i64.wrap (s5_7.toI - (1 : Int))) + r8.toI)))] ∧ m2 [s0_5, (D.i (IntKind.i64.wrap (s1_6.toI + (1 : Int)))), (D.i (IntKind.i64.wrap ((IntKind.i64.wrap (s5_7.toI - (1 : Int))) + r8.toI)))] < m2 [s0_5, s1_6, s5_7])))))) ([s1_6] = rs)))) = vc E A122 Try.f122 S122 [(D.l x0 z0), (D.i x1)] rs := by kernel_rfl
def A57 : Ann := { loop := fun i => bif Nat.beq i 2 then some [(0, (.sl false (.pair (.int .i64) (.pair (.int .i64) .unit)))), (3, (.int .i64))] else none }
theorem r57 (x0 : List D) (z0 : Bool) (rs : List D) : (∃ (J2 : List D → Prop) (m2 : List D → Nat), (J2 [(D.l x0 z0), (D.i (0 : Int))]) ∧ (∀ s0_9 : D, ∀ s3_10 : D, J2 [s0_9, s3_10] → (sel (decide (s3_10.toI < (s0_9.toL.length : Int))) ((0 ≤ s3_10.toI ∧ s3_10.toI < (s0_9.toL.length : Int)) ∧ (∃ r11 : D, E.sat 80 [] [(s0_9.toL.getD (s3_10.toI).toNat D.u).fst, (D.i (0 : Int)), (D.i (6 : Int))] [r11] ∧ (sel ((!r11.toB) == false) ((0 ≤ s3_10.toI ∧ s3_10.toI < (s0_9.toL.length : Int)) ∧ (∃ r12 : D, E.sat 80 [] [(s0_9.toL.getD (s3_10.toI).toNat D.u).snd.fst, (D.i (0 : Int)), (D.i (5 : Int))] [r12] ∧ (sel ((!r12.toB) == false) ((0 ≤ s3_10.toI ∧ s3_10.toI < (s0_9.toL.length : Int)) ∧ (sel (((s0_9.toL.getD (s3_10.toI).toNat D.u).fst.toI != (0 : Int)) == true) ((0 ≤ s3_10.toI ∧ s3_10.toI < (s0_9.toL.length : Int)) ∧ (sel ((s0_9.toL.getD (s3_10.toI).toNat D.u).snd.fst.toI != (0 : Int)) ([(D.b false)] = rs) (True ∧ (J2 [s0_9, (D.i (IntKind.i64.wrap (s3_10.toI + (1 : Int))))] ∧ m2 [s0_9, (D.i (IntKind.i64.wrap (s3_10.toI + (1 : Int))))] < m2 [s0_9, s3_10])))) (True ∧ (J2 [s0_9, (D.i (IntKind.i64.wrap (s3_10.toI + (1 : Int))))] ∧ m2 [s0_9, (D.i (IntKind.i64.wrap (s3_10.toI + (1 : Int))))] < m2 [s0_9, s3_10])))) ([(D.b false)] = rs)))) ([(D.b false)] = rs)))) (sel ((decide ((s0_9.toL.length : Int) > (0 : Int))) == true) (∃ r13 : D, E.sat 122 [] [s0_9, (D.i (0 : Int))] [r13] ∧ ([(D.b (r13.toI == (s0_9.toL.length : Int)))] = rs)) ([(D.b false)] = rs))))) = vc E A57 Try.f57 S57 [(D.l x0 z0)] rs := by kernel_rfl
def A34 : Ann := {}
theorem r34 (x0 : List D) (z0 : Bool) (rs : List D) : (sel ((decide ((x0.length : Int) ≤ (40 : Int))) == true) (∃ r1 : D, E.sat 57 [] [(D.l x0 z0)] [r1] ∧ ([r1] = rs)) ([(D.b false)] = rs)) = vc E A34 Try.f34 S34 [(D.l x0 z0)] rs := by kernel_rfl
def A35 : Ann := { loop := fun i => bif Nat.beq i 2 then some [(0, (.sl false (.pair (.int .i64) (.pair (.int .i64) .unit)))), (3, (.int .i64))] else none }
theorem r35 (x0 : List D) (z0 : Bool) (rs : List D) : (∃ (J2 : List D → Prop) (m2 : List D → Nat), (J2 [(D.l x0 z0), (D.i (0 : Int))]) ∧ (∀ s0_3 : D, ∀ s3_4 : D, J2 [s0_3, s3_4] → (sel (decide (s3_4.toI < (s0_3.toL.length : Int))) ((0 ≤ s3_4.toI ∧ s3_4.toI < (s0_3.toL.length : Int)) ∧ (sel (((s0_3.toL.getD (s3_4.toI).toNat D.u).fst.toI == (5 : Int)) == false) ((0 ≤ s3_4.toI ∧ s3_4.toI < (s0_3.toL.length : Int)) ∧ (sel ((s0_3.toL.getD (s3_4.toI).toNat D.u).fst.toI == (6 : Int)) ([(D.b false)] = rs) (True ∧ (J2 [s0_3, (D.i (IntKind.i64.wrap (s3_4.toI + (1 : Int))))] ∧ m2 [s0_3, (D.i (IntKind.i64.wrap (s3_4.toI + (1 : Int))))] < m2 [s0_3, s3_4])))) ([(D.b false)] = rs))) ([(D.b true)] = rs)))) = vc E A35 Try.f35 S35 [(D.l x0 z0)] rs := by kernel_rfl
def A59 : Ann := {}
theorem r59 (x0 : Int) (x1 : List D) (z1 : Bool) (rs : List D) : (((([(D.p (D.i x0) (D.p (D.i (0 : Int)) D.u))] : List D).length + x1.length) * 16 ≤ 140737488355328 ∧ ([(D.p (D.i x0) (D.p (D.i (0 : Int)) D.u))] : List D).length + x1.length ≤ 140737488355328) ∧ ([(D.l (([(D.p (D.i x0) (D.p (D.i (0 : Int)) D.u))] : List D) ++ x1) (false && x1.isEmpty))] = rs)) = vc E A59 Try.f59 S59 [(D.i x0), (D.l x1 z1)] rs := by kernel_rfl
def A65 : Ann := {}
theorem r65  (rs : List D) : ([(D.l ([(D.p (D.i (1 : Int)) (D.p (D.i (0 : Int)) D.u))] : List D) false)] = rs) = vc E A65 Try.f65 S65 [] rs := by kernel_rfl
def A66 : Ann := {}
theorem r66 (x0 : Int) (x1 : List D) (z1 : Bool) (x2 : List D) (z2 : Bool) (rs : List D) : (((([(D.p (D.i x0) (D.p (D.i (0 : Int)) D.u))] : List D).length + x1.length) * 16 ≤ 140737488355328 ∧ ([(D.p (D.i x0) (D.p (D.i (0 : Int)) D.u))] : List D).length + x1.length ≤ 140737488355328) ∧ ((((([(D.p (D.i x0) (D.p (D.i (0 : Int)) D.u))] : List D) ++ x1).length + x2.length) * 16 ≤ 140737488355328 ∧ (([(D.p (D.i x0) (D.p (D.i (0 : Int)) D.u))] : List D) ++ x1).length + x2.length ≤ 140737488355328) ∧ ([(D.l ((([(D.p (D.i x0) (D.p (D.i (0 : Int)) D.u))] : List D) ++ x1) ++ x2) ((false && x1.isEmpty) && x2.isEmpty))] = rs))) = vc E A66 Try.f66 S66 [(D.i x0), (D.l x1 z1), (D.l x2 z2)] rs := by kernel_rfl
def A123 : Ann := {}
theorem r123 (x0 : List D) (z0 : Bool) (rs : List D) : (∃ r1 : D, E.sat 65 [] [] [r1] ∧ (∃ r2 : D, E.sat 66 [] [(D.i (4 : Int)), (D.l x0 z0), r1] [r2] ∧ ([r2] = rs))) = vc E A123 Try.f123 S123 [(D.l x0 z0)] rs := by kernel_rfl
def A61 : Ann := {}
theorem r61  (rs : List D) : (∃ r1 : D, E.sat 65 [] [] [r1] ∧ (∃ r2 : D, E.sat 123 [] [r1] [r2] ∧ ([r2] = rs))) = vc E A61 Try.f61 S61 [] rs := by kernel_rfl
def A60 : Ann := { loop := fun i => bif Nat.beq i 4 then some [(0, (.sl false (.pair (.int .i64) (.pair (.int .i64) .unit)))), (1, (.sl false (.pair (.int .i64) (.pair (.int .i64) .unit)))), (5, (.int .i64))] else none }
theorem r60 (x0 : List D) (z0 : Bool) (x1 : List D) (z1 : Bool) (rs : List D) : (sel ((x0.length : Int) != (x1.length : Int)) ([(D.b false)] = rs) (∃ (J4 : List D → Prop) (m4 : List D → Nat), (J4 [(D.l x0 z0), (D.l x1 z1), (D.i (0 : Int))]) ∧ (∀ s0_4 : D, ∀ s1_5 : D, ∀ s5_6 : D, J4 [s0_4, s1_5, s5_6] → (sel (decide (s5_6.toI < (s0_4.toL.length : Int))) ((0 ≤ s5_6.toI ∧ s5_6.toI < (s0_4.toL.length : Int)) ∧ ((0 ≤ s5_6.toI ∧ s5_6.toI < (s1_5.toL.length : Int)) ∧ (sel (!Ty.deq (.pair (.int .i64) (.pair (.int .i64) .unit)) (s0_4.toL.getD (s5_6.toI).toNat D.u) (s1_5.toL.getD (s5_6.toI).toNat D.u)) ([(D.b false)] = rs) (True ∧ (J4 [s0_4, s1_5, (D.i (IntKind.i64.wrap (s5_6.toI + (1 : Int))))] ∧ m4 [s0_4, s1_5, (D.i (IntKind.i64.wrap (s5_6.toI + (1 : Int))))] < m4 [s0_4, s1_5, s5_6]))))) ([(D.b true)] = rs))))) = vc E A60 Try.f60 S60 [(D.l x0 z0), (D.l x1 z1)] rs := by kernel_rfl
def A62 : Ann := {}
theorem r62 (x0 : List D) (z0 : Bool) (rs : List D) : (((([] : List D).length + x0.length) * 16 ≤ 140737488355328 ∧ ([] : List D).length + x0.length ≤ 140737488355328) ∧ ([(D.l (([] : List D) ++ x0) (false && x0.isEmpty))] = rs)) = vc E A62 Try.f62 S62 [(D.l x0 z0)] rs := by kernel_rfl
def A63 : Ann := {}
theorem r63 (x0 : List D) (z0 : Bool) (rs : List D) : (∃ r1 : D, E.sat 122 [] [(D.l x0 z0), (D.i (1 : Int))] [r1] ∧ ((0 ≤ (1 : Int) ∧ (1 : Int) ≤ r1.toI ∧ r1.toI ≤ r1.toI ∧ r1.toI ≤ (x0.length : Int)) ∧ ([(D.l (cut x0 (1 : Int) r1.toI) z0)] = rs))) = vc E A63 Try.f63 S63 [(D.l x0 z0)] rs := by kernel_rfl
def A64 : Ann := {}
theorem r64 (x0 : List D) (z0 : Bool) (rs : List D) : (∃ r1 : D, E.sat 122 [] [(D.l x0 z0), (D.i (1 : Int))] [r1] ∧ ((0 ≤ r1.toI ∧ r1.toI ≤ (x0.length : Int) ∧ (x0.length : Int) ≤ (x0.length : Int) ∧ (x0.length : Int) ≤ (x0.length : Int)) ∧ ([(D.l (cut x0 r1.toI (x0.length : Int)) z0)] = rs))) = vc E A64 Try.f64 S64 [(D.l x0 z0)] rs := by kernel_rfl
def A36 : Ann := { op := fun r n => bif Nat.beq r 10 && Nat.beq n 1 then 1 else bif Nat.beq r 12 && Nat.beq n 1 then 1 else bif Nat.beq r 14 && Nat.beq n 1 then 1 else bif Nat.beq r 17 && Nat.beq n 1 then 1 else bif Nat.beq r 19 && Nat.beq n 1 then 1 else bif Nat.beq r 21 && Nat.beq n 1 then 1 else bif Nat.beq r 24 && Nat.beq n 1 then 1 else bif Nat.beq r 26 && Nat.beq n 1 then 1 else 0, join := fun i => bif Nat.beq i 27 then some [(0, (.sl false (.pair (.int .i64) (.pair (.int .i64) .unit)))), (3, (.sl true (.pair (.int .i64) (.pair (.int .i64) .unit)))), (4, (.sl true (.pair (.int .i64) (.pair (.int .i64) .unit))))] else none }
theorem r36 (x0 : List D) (z0 : Bool) (rs : List D) : ((0 ≤ (0 : Int) ∧ (0 : Int) < (x0.length : Int)) ∧ (∃ r8 : D, E.sat 58 [] [(x0.getD ((0 : Int)).toNat D.u).fst] [r8] ∧ (sel (r8.toI == (1 : Int)) ((0 ≤ (0 : Int) ∧ (0 : Int) < (x0.length : Int)) ∧ (((0 ≤ (1 : Int) ∧ (1 : Int) ≤ (x0.length : Int) ∧ (x0.length : Int) ≤ (x0.length : Int) ∧ (x0.length : Int) ≤ (x0.length : Int)) ∧ (∃ r9 : D, E.sat 36 [] [(D.l (cut x0 (1 : Int) (x0.length : Int)) z0)] [r9] ∧ (∃ r10 : D, E.sat 59 [] [(x0.getD ((0 : Int)).toNat D.u).fst, r9] [r10] ∧ ([r10] = rs)))) ∧ ((0 ≤ (1 : Int) ∧ (1 : Int) ≤ (x0.length : Int) ∧ (x0.length : Int) ≤ (x0.length : Int) ∧ (x0.length : Int) ≤ (x0.length : Int)) ∧ ((∃ r11 : D, E.sat 36 [] [(D.l (cut x0 (1 : Int) (x0.length : Int)) z0)] [r11] ∧ (∃ r12 : D, E.sat 59 [] [(x0.getD ((0 : Int)).toNat D.u).fst, r11] [r12] ∧ ([r12] = rs))) ∧ (∃ r13 : D, E.sat 36 [] [(D.l (cut x0 (1 : Int) (x0.length : Int)) z0)] [r13] ∧ (∃ r14 : D, E.sat 59 [] [(x0.getD ((0 : Int)).toNat D.u).fst, r13] [r14] ∧ ([r14] = rs))))))) ((0 ≤ (0 : Int) ∧ (0 : Int) < (x0.length : Int)) ∧ (∃ r20 : D, E.sat 58 [] [(x0.getD ((0 : Int)).toNat D.u).fst] [r20] ∧ (sel ((r20.toI == (0 : Int)) == false) (∃ r21 : D, E.sat 61 [] [] [r21] ∧ (∃ r22 : D, E.sat 60 [] [(D.l x0 z0), r21] [r22] ∧ (sel r22.toB (∃ r23 : D, E.sat 62 [] [(D.l x0 z0)] [r23] ∧ ([r23] = rs)) (∃ r24 : D, E.sat 63 [] [(D.l x0 z0)] [r24] ∧ (∃ r25 : D, E.sat 36 [] [r24] [r25] ∧ (∃ r26 : D, E.sat 64 [] [(D.l x0 z0)] [r26] ∧ (∃ r27 : D, E.sat 36 [] [r26] [r27] ∧ (∃ r28 : D, E.sat 61 [] [] [r28] ∧ (∃ r29 : D, E.sat 65 [] [] [r29] ∧ (∃ J27 : List D → Prop, ((0 ≤ (0 : Int) ∧ (0 : Int) < (x0.length : Int)) ∧ (sel ((x0.getD ((0 : Int)).toNat D.u).fst.toI == (2 : Int)) (∃ r44 : D, E.sat 60 [] [r25, r27] [r44] ∧ (sel (r44.toB == false) (∃ r45 : D, E.sat 60 [] [r27, r28] [r45] ∧ (sel r45.toB ([r25] = rs) (∃ r46 : D, E.sat 60 [] [r25, r28] [r46] ∧ (sel r46.toB ([r27] = rs) (∃ r47 : D, E.sat 60 [] [r25, r29] [r47] ∧ (sel (r47.toB == false) (∃ r48 : D, E.sat 60 [] [r27, r29] [r48] ∧ (sel r48.toB ([r29] = rs) (J27 [(D.l x0 z0), r25, r27]))) ([r29] = rs))))))) ([r25] = rs))) (sel ((x0.getD ((0 : Int)).toNat D.u).fst.toI == (3 : Int)) (∃ r49 : D, E.sat 60 [] [r25, r27] [r49] ∧ (sel (r49.toB == false) (∃ r50 : D, E.sat 60 [] [r27, r29] [r50] ∧ (sel r50.toB ([r25] = rs) (∃ r51 : D, E.sat 60 [] [r25, r29] [r51] ∧ (sel r51.toB ([r27] = rs) (∃ r52 : D, E.sat 60 [] [r25, r28] [r52] ∧ (sel (r52.toB == false) (∃ r53 : D, E.sat 60 [] [r27, r28] [r53] ∧ (sel r53.toB ([r28] = rs) (J27 [(D.l x0 z0), r25, r27]))) ([r28] = rs))))))) ([r25] = rs))) (sel ((x0.getD ((0 : Int)).toNat D.u).fst.toI == (4 : Int)) (∃ r54 : D, E.sat 60 [] [r25, r27] [r54] ∧ (sel (r54.toB == false) (∃ r55 : D, E.sat 60 [] [r25, r29] [r55] ∧ (sel (r55.toB == false) (∃ r56 : D, E.sat 60 [] [r27, r28] [r56] ∧ (sel r56.toB ([r28] = rs) (∃ r57 : D, E.sat 60 [] [r25, r28] [r57] ∧ (sel r57.toB ([r27] = rs) (J27 [(D.l x0 z0), r25, r27]))))) ([r28] = rs))) ([r28] = rs))) (J27 [(D.l x0 z0), r25, r27]))))) ∧ (∀ s0_58 : D, ∀ s3_59 : D, ∀ s4_60 : D, J27 [s0_58, s3_59, s4_60] → ((0 ≤ (0 : Int) ∧ (0 : Int) < (s0_58.toL.length : Int)) ∧ (∃ r61 : D, E.sat 66 [] [(s0_58.toL.getD ((0 : Int)).toNat D.u).fst, s3_59, s4_60] [r61] ∧ ([r61] = rs)))))))))))))) (∃ r62 : D, E.sat 62 [] [(D.l x0 z0)] [r62] ∧ ([r62] = rs)))))))) = vc E A36 Try.f36 S36 [(D.l x0 z0)] rs := by kernel_rfl
def A9 : Ann := {}
theorem r9 (x0 : List D) (z0 : Bool) (rs : List D) : (∃ r2 : D, E.sat 34 [] [(D.l x0 z0)] [r2] ∧ (sel (!r2.toB) ([(D.l ([] : List D) true), (D.i (1 : Int))] = rs) (∃ r4 : D, E.sat 35 [] [(D.l x0 z0)] [r4] ∧ (sel (!r4.toB) ([(D.l ([] : List D) true), (D.i (5 : Int))] = rs) (∃ r5 : D, E.sat 36 [] [(D.l x0 z0)] [r5] ∧ ([r5, (D.i (0 : Int))] = rs)))))) = vc E A9 Try.f9 S9 [(D.l x0 z0)] rs := by kernel_rfl
def A109 : Ann := {}
theorem r109 (x0 : Int) (x1 : Int) (x2 : Int) (rs : List D) : (sel ((decide (x1 ≤ x0)) == true) ([(D.b (decide (x0 ≤ x2)))] = rs) ([(D.b false)] = rs)) = vc E A109 Try.f109 S109 [(D.i x0), (D.i x1), (D.i x2)] rs := by kernel_rfl
def A84 : Ann := {}
theorem r84 (x0 : Int) (rs : List D) : (∃ r1 : D, E.sat 109 [] [(D.i x0), (D.i (0 : Int)), (D.i (5 : Int))] [r1] ∧ ([r1] = rs)) = vc E A84 Try.f84 S84 [(D.i x0)] rs := by kernel_rfl
def A99 : Ann := {}
theorem r99 (x0 : D) (rs : List D) : (sel (x0.fst.toI == (0 : Int)) (∃ r2 : D, E.sat 84 [] [x0.snd.fst] [r2] ∧ ([r2] = rs)) (∃ r3 : D, E.sat 109 [] [x0.fst, (D.i (1 : Int)), (D.i (6 : Int))] [r3] ∧ (sel (r3.toB == true) ([(D.b (x0.snd.fst.toI == (0 : Int)))] = rs) ([(D.b false)] = rs)))) = vc E A99 Try.f99 S99 [x0] rs := by kernel_rfl
def A98 : Ann := {}
theorem r98 (x0 : D) (rs : List D) : (∃ r1 : D, E.sat 99 [] [x0] [r1] ∧ ([(D.b (!r1.toB))] = rs)) = vc E A98 Try.f98 S98 [x0] rs := by kernel_rfl
def A140_98 : Ann := { loop := fun i => bif Nat.beq i 2 then some [(0, (.sl false (.pair (.int .i64) (.pair (.int .i64) .unit)))), (1, (.clo 98 .unit)), (7, (.int .i64)), (8, (.int .i64))] else none }
theorem r140_98 (x0 : List D) (z0 : Bool) (rs : List D) : (∃ (J2 : List D → Prop) (m2 : List D → Nat), (J2 [(D.l x0 z0), D.u, (D.i (x0.length : Int)), (D.i (0 : Int))]) ∧ (∀ s0_6 : D, ∀ s1_7 : D, ∀ s7_8 : D, ∀ s8_9 : D, J2 [s0_6, s1_7, s7_8, s8_9] → (sel (decide (s8_9.toI < s7_8.toI)) ((0 ≤ s8_9.toI ∧ s8_9.toI < (s0_6.toL.length : Int)) ∧ (∃ r10 : D, E.sat 98 [] [(s0_6.toL.getD (s8_9.toI).toNat D.u)] [r10] ∧ (sel r10.toB ([s8_9] = rs) (True ∧ (J2 [s0_6, s1_7, s7_8, (D.i (IntKind.i64.wrap (s8_9.toI + (1 : Int))))] ∧ m2 [s0_6, s1_7, s7_8, (D.i (IntKind.i64.wrap (s8_9.toI + (1 : Int))))] < m2 [s0_6, s1_7, s7_8, s8_9]))))) ([(D.i (-1 : Int))] = rs)))) = vc E A140_98 Try.f140 S140_98 [(D.l x0 z0), D.u] rs := by kernel_rfl
def A97_98 : Ann := {}
theorem r97_98 (x0 : List D) (z0 : Bool) (rs : List D) : (∃ r1 : D, E.sat 140 [98] [(D.l x0 z0), D.u] [r1] ∧ ([(D.b (decide (r1.toI ≥ (0 : Int))))] = rs)) = vc E A97_98 Try.f97 S97_98 [(D.l x0 z0), D.u] rs := by kernel_rfl
def A71 : Ann := {}
theorem r71 (x0 : Int) (rs : List D) : (sel (x0 == (2 : Int)) ([(D.i (2 : Int))] = rs) (sel (x0 == (3 : Int)) ([(D.i (2 : Int))] = rs) (sel (x0 == (4 : Int)) ([(D.i (2 : Int))] = rs) (sel (x0 == (5 : Int)) ([(D.i (1 : Int))] = rs) (sel (x0 == (6 : Int)) ([(D.i (1 : Int))] = rs) ([(D.i (0 : Int))] = rs)))))) = vc E A71 Try.f71 S71 [(D.i x0)] rs := by kernel_rfl
def A100 : Ann := { loop := fun i => bif Nat.beq i 2 then some [(0, (.sl false (.pair (.int .i64) (.pair (.int .i64) .unit)))), (1, (.int .i64)), (5, (.int .i64))] else none }
theorem r100 (x0 : List D) (z0 : Bool) (x1 : Int) (rs : List D) : (∃ (J2 : List D → Prop) (m2 : List D → Nat), (J2 [(D.l x0 z0), (D.i x1), (D.i (1 : Int))]) ∧ (∀ s0_5 : D, ∀ s1_6 : D, ∀ s5_7 : D, J2 [s0_5, s1_6, s5_7] → (sel (decide (s5_7.toI > (0 : Int))) (sel (decide (s1_6.toI ≥ (s0_5.toL.length : Int))) ([(D.i (-1 : Int))] = rs) ((0 ≤ s1_6.toI ∧ s1_6.toI < (s0_5.toL.length : Int)) ∧ (∃ r8 : D, E.sat 71 [] [(s0_5.toL.getD (s1_6.toI).toNat D.u).fst] [r8] ∧ (True ∧ (True ∧ (J2 [s0_5, (D.i (IntKind.i64.wrap (s1_6.toI + (1 : Int)))), (D.i (IntKind.i64.wrap (s5_7.toI + (IntKind.i64.wrap (r8.toI - (1 : Int))))))] ∧ m2 [s0_5, (D.i (IntKind.i64.wrap (s1_6.toI + (1 : Int)))), (D.i (IntKind.i64.wrap (s5_7.toI + (IntKind.i64.wrap (r8.toI - (1 : Int))))))] < m2 [s0_5, s1_6, s5_7])))))) ([s1_6] = rs)))) = vc E A100 Try.f100 S100 [(D.l x0 z0), (D.i x1)] rs := by kernel_rfl
def A45 : Ann := {}
theorem r45 (x0 : List D) (z0 : Bool) (rs : List D) : (sel ((decide ((x0.length : Int) ≥ (1 : Int))) == true) (sel ((decide ((x0.length : Int) ≤ (40 : Int))) == true) (∃ r1 : D, E.sat 97 [98] [(D.l x0 z0), D.u] [r1] ∧ (sel ((!r1.toB) == true) (∃ r2 : D, E.sat 100 [] [(D.l x0 z0), (D.i (0 : Int))] [r2] ∧ ([(D.b (r2.toI == (x0.length : Int)))] = rs)) ([(D.b false)] = rs))) ([(D.b false)] = rs)) ([(D.b false)] = rs)) = vc E A45 Try.f45 S45 [(D.l x0 z0)] rs := by kernel_rfl
def A124 : Ann := {}
theorem r124 (x0 : List D) (z0 : Bool) (rs : List D) : (∃ r1 : D, E.sat 45 [] [(D.l x0 z0)] [r1] ∧ ([(D.b (!r1.toB))] = rs)) = vc E A124 Try.f124 S124 [(D.l x0 z0)] rs := by kernel_rfl
def A125_124 : Ann := { loop := fun i => bif Nat.beq i 2 then some [(0, (.sl false (.sl false (.pair (.int .i64) (.pair (.int .i64) .unit))))), (1, (.clo 124 .unit)), (7, (.int .i64)), (8, (.int .i64))] else none }
theorem r125_124 (x0 : List D) (z0 : Bool) (rs : List D) : (∃ (J2 : List D → Prop) (m2 : List D → Nat), (J2 [(D.l x0 z0), D.u, (D.i (x0.length : Int)), (D.i (0 : Int))]) ∧ (∀ s0_6 : D, ∀ s1_7 : D, ∀ s7_8 : D, ∀ s8_9 : D, J2 [s0_6, s1_7, s7_8, s8_9] → (sel (decide (s8_9.toI < s7_8.toI)) ((0 ≤ s8_9.toI ∧ s8_9.toI < (s0_6.toL.length : Int)) ∧ (∃ r10 : D, E.sat 124 [] [(s0_6.toL.getD (s8_9.toI).toNat D.u)] [r10] ∧ (sel r10.toB ([s8_9] = rs) (True ∧ (J2 [s0_6, s1_7, s7_8, (D.i (IntKind.i64.wrap (s8_9.toI + (1 : Int))))] ∧ m2 [s0_6, s1_7, s7_8, (D.i (IntKind.i64.wrap (s8_9.toI + (1 : Int))))] < m2 [s0_6, s1_7, s7_8, s8_9]))))) ([(D.i (-1 : Int))] = rs)))) = vc E A125_124 Try.f125 S125_124 [(D.l x0 z0), D.u] rs := by kernel_rfl
def A68_124 : Ann := {}
theorem r68_124 (x0 : List D) (z0 : Bool) (rs : List D) : (∃ r1 : D, E.sat 125 [124] [(D.l x0 z0), D.u] [r1] ∧ ([(D.b (decide (r1.toI ≥ (0 : Int))))] = rs)) = vc E A68_124 Try.f68 S68_124 [(D.l x0 z0), D.u] rs := by kernel_rfl
def A67 : Ann := {}
theorem r67 (x0 : List D) (z0 : Bool) (rs : List D) : (∃ r1 : D, E.sat 68 [124] [(D.l x0 z0), D.u] [r1] ∧ ([(D.b (!r1.toB))] = rs)) = vc E A67 Try.f67 S67 [(D.l x0 z0)] rs := by kernel_rfl
def A127 : Ann := {}
theorem r127 (x0 : Int) (rs : List D) : (sel ((x0 == (5 : Int)) == false) ([(D.b (x0 == (6 : Int)))] = rs) ([(D.b true)] = rs)) = vc E A127 Try.f127 S127 [(D.i x0)] rs := by kernel_rfl
def A126 : Ann := {}
theorem r126 (x0 : D) (rs : List D) : (∃ r1 : D, E.sat 127 [] [x0.fst] [r1] ∧ ([r1] = rs)) = vc E A126 Try.f126 S126 [x0] rs := by kernel_rfl
def A140_126 : Ann := { loop := fun i => bif Nat.beq i 2 then some [(0, (.sl false (.pair (.int .i64) (.pair (.int .i64) .unit)))), (1, (.clo 126 .unit)), (7, (.int .i64)), (8, (.int .i64))] else none }
theorem r140_126 (x0 : List D) (z0 : Bool) (rs : List D) : (∃ (J2 : List D → Prop) (m2 : List D → Nat), (J2 [(D.l x0 z0), D.u, (D.i (x0.length : Int)), (D.i (0 : Int))]) ∧ (∀ s0_6 : D, ∀ s1_7 : D, ∀ s7_8 : D, ∀ s8_9 : D, J2 [s0_6, s1_7, s7_8, s8_9] → (sel (decide (s8_9.toI < s7_8.toI)) ((0 ≤ s8_9.toI ∧ s8_9.toI < (s0_6.toL.length : Int)) ∧ (∃ r10 : D, E.sat 126 [] [(s0_6.toL.getD (s8_9.toI).toNat D.u)] [r10] ∧ (sel r10.toB ([s8_9] = rs) (True ∧ (J2 [s0_6, s1_7, s7_8, (D.i (IntKind.i64.wrap (s8_9.toI + (1 : Int))))] ∧ m2 [s0_6, s1_7, s7_8, (D.i (IntKind.i64.wrap (s8_9.toI + (1 : Int))))] < m2 [s0_6, s1_7, s7_8, s8_9]))))) ([(D.i (-1 : Int))] = rs)))) = vc E A140_126 Try.f140 S140_126 [(D.l x0 z0), D.u] rs := by kernel_rfl
def A97_126 : Ann := {}
theorem r97_126 (x0 : List D) (z0 : Bool) (rs : List D) : (∃ r1 : D, E.sat 140 [126] [(D.l x0 z0), D.u] [r1] ∧ ([(D.b (decide (r1.toI ≥ (0 : Int))))] = rs)) = vc E A97_126 Try.f97 S97_126 [(D.l x0 z0), D.u] rs := by kernel_rfl
def A70 : Ann := {}
theorem r70 (x0 : List D) (z0 : Bool) (rs : List D) : (∃ r1 : D, E.sat 97 [126] [(D.l x0 z0), D.u] [r1] ∧ ([(D.b (!r1.toB))] = rs)) = vc E A70 Try.f70 S70 [(D.l x0 z0)] rs := by kernel_rfl
def A69 : Ann := {}
theorem r69 (x0 : List D) (z0 : Bool) (rs : List D) : (∃ r1 : D, E.sat 70 [] [(D.l x0 z0)] [r1] ∧ ([(D.b (!r1.toB))] = rs)) = vc E A69 Try.f69 S69 [(D.l x0 z0)] rs := by kernel_rfl
def A125_69 : Ann := { loop := fun i => bif Nat.beq i 2 then some [(0, (.sl false (.sl false (.pair (.int .i64) (.pair (.int .i64) .unit))))), (1, (.clo 69 .unit)), (7, (.int .i64)), (8, (.int .i64))] else none }
theorem r125_69 (x0 : List D) (z0 : Bool) (rs : List D) : (∃ (J2 : List D → Prop) (m2 : List D → Nat), (J2 [(D.l x0 z0), D.u, (D.i (x0.length : Int)), (D.i (0 : Int))]) ∧ (∀ s0_6 : D, ∀ s1_7 : D, ∀ s7_8 : D, ∀ s8_9 : D, J2 [s0_6, s1_7, s7_8, s8_9] → (sel (decide (s8_9.toI < s7_8.toI)) ((0 ≤ s8_9.toI ∧ s8_9.toI < (s0_6.toL.length : Int)) ∧ (∃ r10 : D, E.sat 69 [] [(s0_6.toL.getD (s8_9.toI).toNat D.u)] [r10] ∧ (sel r10.toB ([s8_9] = rs) (True ∧ (J2 [s0_6, s1_7, s7_8, (D.i (IntKind.i64.wrap (s8_9.toI + (1 : Int))))] ∧ m2 [s0_6, s1_7, s7_8, (D.i (IntKind.i64.wrap (s8_9.toI + (1 : Int))))] < m2 [s0_6, s1_7, s7_8, s8_9]))))) ([(D.i (-1 : Int))] = rs)))) = vc E A125_69 Try.f125 S125_69 [(D.l x0 z0), D.u] rs := by kernel_rfl
def A68_69 : Ann := {}
theorem r68_69 (x0 : List D) (z0 : Bool) (rs : List D) : (∃ r1 : D, E.sat 125 [69] [(D.l x0 z0), D.u] [r1] ∧ ([(D.b (decide (r1.toI ≥ (0 : Int))))] = rs)) = vc E A68_69 Try.f68 S68_69 [(D.l x0 z0), D.u] rs := by kernel_rfl
def A38 : Ann := {}
theorem r38 (x0 : List D) (z0 : Bool) (rs : List D) : (∃ r1 : D, E.sat 67 [] [(D.l x0 z0)] [r1] ∧ (sel (!r1.toB) ([(D.i (1 : Int))] = rs) (∃ r2 : D, E.sat 68 [69] [(D.l x0 z0), D.u] [r2] ∧ (sel r2.toB ([(D.i (5 : Int))] = rs) ([(D.i (0 : Int))] = rs))))) = vc E A38 Try.f38 S38 [(D.l x0 z0)] rs := by kernel_rfl
def A128 : Ann := {}
theorem r128 (x0 : List D) (z0 : Bool) (rs : List D) : (sel z0 ([(D.l ([] : List D) true)] = rs) (((([] : List D).length + x0.length) * 16 ≤ 140737488355328 ∧ ([] : List D).length + x0.length ≤ 140737488355328) ∧ ([(D.l (([] : List D) ++ x0) (false && x0.isEmpty))] = rs))) = vc E A128 Try.f128 S128 [(D.l x0 z0)] rs := by kernel_rfl
def A72 : Ann := {}
theorem r72 (x0 : List D) (z0 : Bool) (rs : List D) : (∃ r1 : D, E.sat 128 [] [(D.l x0 z0)] [r1] ∧ ([r1] = rs)) = vc E A72 Try.f72 S72 [(D.l x0 z0)] rs := by kernel_rfl
def A129 : Ann := {}
theorem r129 (x0 : List D) (z0 : Bool) (x1 : Int) (rs : List D) : (∃ r1 : D, E.sat 100 [] [(D.l x0 z0), (D.i x1)] [r1] ∧ (∃ r2 : D, E.sat 100 [] [(D.l x0 z0), (D.i x1)] [r2] ∧ ((0 ≤ x1 ∧ x1 ≤ r1.toI ∧ r1.toI ≤ r2.toI ∧ r2.toI ≤ (x0.length : Int)) ∧ ([(D.l (cut x0 x1 r1.toI) z0)] = rs)))) = vc E A129 Try.f129 S129 [(D.l x0 z0), (D.i x1)] rs := by kernel_rfl
def A73 : Ann := {}
theorem r73 (x0 : List D) (z0 : Bool) (rs : List D) : (∃ r1 : D, E.sat 129 [] [(D.l x0 z0), (D.i (1 : Int))] [r1] ∧ ([r1] = rs)) = vc E A73 Try.f73 S73 [(D.l x0 z0)] rs := by kernel_rfl
def A74 : Ann := {}
theorem r74 (x0 : List D) (z0 : Bool) (rs : List D) : (∃ r1 : D, E.sat 100 [] [(D.l x0 z0), (D.i (1 : Int))] [r1] ∧ (∃ r2 : D, E.sat 129 [] [(D.l x0 z0), r1] [r2] ∧ ([r2] = rs))) = vc E A74 Try.f74 S74 [(D.l x0 z0)] rs := by kernel_rfl
def A130 : Ann := { loop := fun i => bif Nat.beq i 4 then some [(0, (.sl false (.pair (.int .i64) (.pair (.int .i64) .unit)))), (1, (.sl false (.pair (.int .i64) (.pair (.int .i64) .unit)))), (12, (.int .i64)), (13, (.int .i64))] else none }
theorem r130 (x0 : List D) (z0 : Bool) (x1 : List D) (z1 : Bool) (rs : List D) : (sel ((x0.length : Int) != (x1.length : Int)) ([(D.b false)] = rs) (∃ (J4 : List D → Prop) (m4 : List D → Nat), (J4 [(D.l x0 z0), (D.l x1 z1), (D.i (x0.length : Int)), (D.i (0 : Int))]) ∧ (∀ s0_5 : D, ∀ s1_6 : D, ∀ s12_7 : D, ∀ s13_8 : D, J4 [s0_5, s1_6, s12_7, s13_8] → (sel (decide (s13_8.toI < s12_7.toI)) ((0 ≤ s13_8.toI ∧ s13_8.toI < (s0_5.toL.length : Int)) ∧ ((0 ≤ s13_8.toI ∧ s13_8.toI < (s1_6.toL.length : Int)) ∧ (sel (!Ty.deq (.pair (.int .i64) (.pair (.int .i64) .unit)) (s0_5.toL.getD (s13_8.toI).toNat D.u) (s1_6.toL.getD (s13_8.toI).toNat D.u)) ([(D.b false)] = rs) (True ∧ (J4 [s0_5, s1_6, s12_7, (D.i (IntKind.i64.wrap (s13_8.toI + (1 : Int))))] ∧ m4 [s0_5, s1_6, s12_7, (D.i (IntKind.i64.wrap (s13_8.toI + (1 : Int))))] < m4 [s0_5, s1_6, s12_7, s13_8]))))) ([(D.b true)] = rs))))) = vc E A130 Try.f130 S130 [(D.l x0 z0), (D.l x1 z1)] rs := by kernel_rfl
def A76 : Ann := {}
theorem r76 (x0 : List D) (z0 : Bool) (x1 : List D) (z1 : Bool) (rs : List D) : (∃ r1 : D, E.sat 130 [] [(D.l x0 z0), (D.l x1 z1)] [r1] ∧ ([r1] = rs)) = vc E A76 Try.f76 S76 [(D.l x0 z0), (D.l x1 z1)] rs := by kernel_rfl
def A77 : Ann := {}
theorem r77  (rs : List D) : ([(D.l ([(D.p (D.i (4 : Int)) (D.p (D.i (0 : Int)) D.u)), (D.p (D.i (1 : Int)) (D.p (D.i (0 : Int)) D.u)), (D.p (D.i (1 : Int)) (D.p (D.i (0 : Int)) D.u))] : List D) false)] = rs) = vc E A77 Try.f77 S77 [] rs := by kernel_rfl
def A75 : Ann := {}
theorem r75 (x0 : List D) (z0 : Bool) (rs : List D) : (∃ r1 : D, E.sat 77 [] [] [r1] ∧ (∃ r2 : D, E.sat 76 [] [(D.l x0 z0), r1] [r2] ∧ ([r2] = rs))) = vc E A75 Try.f75 S75 [(D.l x0 z0)] rs := by kernel_rfl
def A78 : Ann := {}
theorem r78 (x0 : List D) (z0 : Bool) (rs : List D) : ((0 ≤ (0 : Int) ∧ (0 : Int) < (x0.length : Int)) ∧ ([(D.b ((x0.getD ((0 : Int)).toNat D.u).fst.toI == (1 : Int)))] = rs)) = vc E A78 Try.f78 S78 [(D.l x0 z0)] rs := by kernel_rfl
def A161 : Ann := { op := fun r n => bif Nat.beq r 5 && Nat.beq n 3 then 3 else bif Nat.beq r 6 && Nat.beq n 1 then 1 else 0 }
theorem r161 (x0 : List D) (z0 : Bool) (x1 : Int) (rs : List D) : (sel (decide (x1 < (0 : Int))) False (∀ c1 : Nat, x0.length ≤ c1 → (z0 = true → c1 = 0) → (sel (decide ((IntKind.i64.wrap (x1 - (IntKind.i64.wrap ((c1 : Int) - (x0.length : Int))))) > (0 : Int))) (∀ c2 : Nat, x0.length ≤ c2 → (z0 = true → c2 = 0) → ((0 ≤ (0 : Int) ∧ (0 : Int) ≤ (c2 : Int) ∧ (c2 : Int) ≤ (c2 : Int) ∧ (c2 : Int) ≤ (x0.length : Int)) ∧ ((0 ≤ (IntKind.i64.wrap (x1 - (IntKind.i64.wrap ((c1 : Int) - (x0.length : Int))))) ∧ ((cut x0 (0 : Int) (c2 : Int)).length + ((IntKind.i64.wrap (x1 - (IntKind.i64.wrap ((c1 : Int) - (x0.length : Int)))))).toNat) * 16 ≤ 140737488355328 ∧ (cut x0 (0 : Int) (c2 : Int)).length + ((IntKind.i64.wrap (x1 - (IntKind.i64.wrap ((c1 : Int) - (x0.length : Int)))))).toNat ≤ 140737488355328) ∧ ((0 ≤ (0 : Int) ∧ (0 : Int) ≤ (x0.length : Int) ∧ (x0.length : Int) ≤ (x0.length : Int) ∧ (x0.length : Int) ≤ (((cut x0 (0 : Int) (c2 : Int)) ++ List.replicate ((IntKind.i64.wrap (x1 - (IntKind.i64.wrap ((c1 : Int) - (x0.length : Int)))))).toNat (D.p (D.i (0 : Int)) (D.p (D.i (0 : Int)) D.u))).length : Int)) ∧ ([(D.l (cut ((cut x0 (0 : Int) (c2 : Int)) ++ List.replicate ((IntKind.i64.wrap (x1 - (IntKind.i64.wrap ((c1 : Int) - (x0.length : Int)))))).toNat (D.p (D.i (0 : Int)) (D.p (D.i (0 : Int)) D.u))) (0 : Int) (x0.length : Int)) (z0 && decide (((IntKind.i64.wrap (x1 - (IntKind.i64.wrap ((c1 : Int) - (x0.length : Int)))))).toNat = 0)))] = rs))))) ([(D.l x0 z0)] = rs)))) = vc E A161 Try.f161 S161 [(D.l x0 z0), (D.i x1)] rs := by kernel_rfl
def A131 : Ann := { op := fun r n => bif Nat.beq r 15 && Nat.beq n 1 then 1 else 0, loop := fun i => bif Nat.beq i 3 then some [(0, (.sl false (.sl false (.pair (.int .i64) (.pair (.int .i64) .unit))))), (3, (.int .i64)), (9, (.sl false (.sl false (.pair (.int .i64) (.pair (.int .i64) .unit))))), (10, (.int .i64)), (11, (.int .i64))] else bif Nat.beq i 11 then some [(6, (.sl true (.pair (.int .i64) (.pair (.int .i64) .unit)))), (25, (.sl false (.sl false (.pair (.int .i64) (.pair (.int .i64) .unit))))), (26, (.int .i64)), (27, (.int .i64))] else none }
theorem r131 (x0 : List D) (z0 : Bool) (rs : List D) : (∃ (J3 : List D → Prop) (m3 : List D → Nat), (J3 [(D.l x0 z0), (D.i (0 : Int)), (D.l x0 z0), (D.i (x0.length : Int)), (D.i (0 : Int))]) ∧ (∀ s0_11 : D, ∀ s3_12 : D, ∀ s9_13 : D, ∀ s10_14 : D, ∀ s11_15 : D, J3 [s0_11, s3_12, s9_13, s10_14, s11_15] → (sel (decide (s11_15.toI < s10_14.toI)) ((0 ≤ s11_15.toI ∧ s11_15.toI < (s9_13.toL.length : Int)) ∧ (True ∧ (sel (decide ((IntKind.i64.wrap (s3_12.toI + ((s9_13.toL.getD (s11_15.toI).toNat D.u).toL.length : Int))) < (0 : Int))) False (True ∧ (J3 [s0_11, (D.i (IntKind.i64.wrap (s3_12.toI + ((s9_13.toL.getD (s11_15.toI).toNat D.u).toL.length : Int)))), s9_13, s10_14, (D.i (IntKind.i64.wrap (s11_15.toI + (1 : Int))))] ∧ m3 [s0_11, (D.i (IntKind.i64.wrap (s3_12.toI + ((s9_13.toL.getD (s11_15.toI).toNat D.u).toL.length : Int)))), s9_13, s10_14, (D.i (IntKind.i64.wrap (s11_15.toI + (1 : Int))))] < m3 [s0_11, s3_12, s9_13, s10_14, s11_15]))))) (∃ r16 : D, E.sat 161 [] [(D.l ([] : List D) true), s3_12] [r16] ∧ (∃ (J11 : List D → Prop) (m11 : List D → Nat), (J11 [r16, s0_11, (D.i (s0_11.toL.length : Int)), (D.i (0 : Int))]) ∧ (∀ s6_21 : D, ∀ s25_22 : D, ∀ s26_23 : D, ∀ s27_24 : D, J11 [s6_21, s25_22, s26_23, s27_24] → (sel (decide (s27_24.toI < s26_23.toI)) ((0 ≤ s27_24.toI ∧ s27_24.toI < (s25_22.toL.length : Int)) ∧ (((s6_21.toL.length + (s25_22.toL.getD (s27_24.toI).toNat D.u).toL.length) * 16 ≤ 140737488355328 ∧ s6_21.toL.length + (s25_22.toL.getD (s27_24.toI).toNat D.u).toL.length ≤ 140737488355328) ∧ (True ∧ (J11 [(D.l (s6_21.toL ++ (s25_22.toL.getD (s27_24.toI).toNat D.u).toL) (s6_21.toZ && (s25_22.toL.getD (s27_24.toI).toNat D.u).toL.isEmpty)), s25_22, s26_23, (D.i (IntKind.i64.wrap (s27_24.toI + (1 : Int))))] ∧ m11 [(D.l (s6_21.toL ++ (s25_22.toL.getD (s27_24.toI).toNat D.u).toL) (s6_21.toZ && (s25_22.toL.getD (s27_24.toI).toNat D.u).toL.isEmpty)), s25_22, s26_23, (D.i (IntKind.i64.wrap (s27_24.toI + (1 : Int))))] < m11 [s6_21, s25_22, s26_23, s27_24])))) ([s6_21] = rs)))))))) = vc E A131 Try.f131 S131 [(D.l x0 z0)] rs := by kernel_rfl
def A79 : Ann := {}
theorem r79 (x0 : Int) (x1 : List D) (z1 : Bool) (x2 : List D) (z2 : Bool) (rs : List D) : (∃ r1 : D, E.sat 131 [] [(D.l ([(D.l ([(D.p (D.i x0) (D.p (D.i (0 : Int)) D.u))] : List D) false), (D.l x1 z1), (D.l x2 z2)] : List D) false)] [r1] ∧ ([r1] = rs)) = vc E A79 Try.f79 S79 [(D.i x0), (D.l x1 z1), (D.l x2 z2)] rs := by kernel_rfl
def A39 : Ann := { op := fun r n => bif Nat.beq r 9 && Nat.beq n 1 then 1 else bif Nat.beq r 12 && Nat.beq n 1 then 1 else bif Nat.beq r 14 && Nat.beq n 1 then 1 else bif Nat.beq r 17 && Nat.beq n 1 then 1 else bif Nat.beq r 19 && Nat.beq n 1 then 1 else 0, join := fun i => bif Nat.beq i 20 then some [(0, (.sl false (.pair (.int .i64) (.pair (.int .i64) .unit)))), (3, (.sl true (.pair (.int .i64) (.pair (.int .i64) .unit)))), (4, (.sl true (.pair (.int .i64) (.pair (.int .i64) .unit))))] else none }
theorem r39 (x0 : List D) (z0 : Bool) (rs : List D) : ((0 ≤ (0 : Int) ∧ (0 : Int) < (x0.length : Int)) ∧ (∃ r3 : D, E.sat 71 [] [(x0.getD ((0 : Int)).toNat D.u).fst] [r3] ∧ (sel (r3.toI == (0 : Int)) (∃ r4 : D, E.sat 72 [] [(D.l x0 z0)] [r4] ∧ ([r4] = rs)) (∃ r5 : D, E.sat 73 [] [(D.l x0 z0)] [r5] ∧ (∃ r6 : D, E.sat 39 [] [r5] [r6] ∧ (∃ r7 : D, E.sat 74 [] [(D.l x0 z0)] [r7] ∧ (∃ r8 : D, E.sat 39 [] [r7] [r8] ∧ (∃ J20 : List D → Prop, ((0 ≤ (0 : Int) ∧ (0 : Int) < (x0.length : Int)) ∧ (sel ((x0.getD ((0 : Int)).toNat D.u).fst.toI == (2 : Int)) (∃ r26 : D, E.sat 76 [] [r6, r8] [r26] ∧ (sel (r26.toB == false) (∃ r27 : D, E.sat 75 [] [r8] [r27] ∧ (sel (r27.toB == false) (∃ r28 : D, E.sat 78 [] [r6] [r28] ∧ (sel r28.toB ([r6] = rs) (∃ r29 : D, E.sat 75 [] [r6] [r29] ∧ (sel (r29.toB == false) (∃ r30 : D, E.sat 78 [] [r8] [r30] ∧ (sel r30.toB ([r8] = rs) (J20 [(D.l x0 z0), r6, r8]))) ([r8] = rs))))) ([r6] = rs))) ([r6] = rs))) (sel ((x0.getD ((0 : Int)).toNat D.u).fst.toI == (3 : Int)) (∃ r31 : D, E.sat 76 [] [r6, r8] [r31] ∧ (sel (r31.toB == false) (∃ r32 : D, E.sat 78 [] [r8] [r32] ∧ (sel (r32.toB == false) (∃ r33 : D, E.sat 75 [] [r6] [r33] ∧ (sel r33.toB ([r6] = rs) (∃ r34 : D, E.sat 78 [] [r6] [r34] ∧ (sel (r34.toB == false) (∃ r35 : D, E.sat 75 [] [r8] [r35] ∧ (sel r35.toB ([r8] = rs) (J20 [(D.l x0 z0), r6, r8]))) ([r8] = rs))))) ([r6] = rs))) ([r6] = rs))) (∃ r36 : D, E.sat 76 [] [r6, r8] [r36] ∧ (sel (r36.toB == false) (∃ r37 : D, E.sat 78 [] [r6] [r37] ∧ (sel (r37.toB == false) (∃ r38 : D, E.sat 75 [] [r8] [r38] ∧ (sel r38.toB (∃ r39 : D, E.sat 77 [] [] [r39] ∧ ([r39] = rs)) (∃ r40 : D, E.sat 75 [] [r6] [r40] ∧ (sel r40.toB ([r8] = rs) (J20 [(D.l x0 z0), r6, r8]))))) (∃ r41 : D, E.sat 77 [] [] [r41] ∧ ([r41] = rs)))) (∃ r42 : D, E.sat 77 [] [] [r42] ∧ ([r42] = rs))))))) ∧ (∀ s0_43 : D, ∀ s3_44 : D, ∀ s4_45 : D, J20 [s0_43, s3_44, s4_45] → ((0 ≤ (0 : Int) ∧ (0 : Int) < (s0_43.toL.length : Int)) ∧ (∃ r46 : D, E.sat 79 [] [(s0_43.toL.getD ((0 : Int)).toNat D.u).fst, s3_44, s4_45] [r46] ∧ ([r46] = rs)))))))))))) = vc E A39 Try.f39 S39 [(D.l x0 z0)] rs := by kernel_rfl
def A11 : Ann := {}
theorem r11 (x0 : List D) (z0 : Bool) (rs : List D) : (∃ r2 : D, E.sat 38 [] [(D.l ([(D.l x0 z0)] : List D) false)] [r2] ∧ (sel (r2.toI != (0 : Int)) ([(D.l ([] : List D) true), r2] = rs) (∃ r3 : D, E.sat 39 [] [(D.l x0 z0)] [r3] ∧ ([r3, (D.i (0 : Int))] = rs)))) = vc E A11 Try.f11 S11 [(D.l x0 z0)] rs := by kernel_rfl
def A40 : Ann := {}
theorem r40 (x0 : D) (x1 : D) (rs : List D) : (sel (x0.fst.toI != x1.fst.toI) ([(D.b false)] = rs) (sel (x0.snd.fst.toI != x1.snd.fst.toI) ([(D.b false)] = rs) ([(D.b true)] = rs))) = vc E A40 Try.f40 S40 [x0, x1] rs := by kernel_rfl
def A12 : Ann := { loop := fun i => bif Nat.beq i 4 then some [(0, (.sl false (.pair (.int .i64) (.pair (.int .i64) .unit)))), (1, (.sl false (.pair (.int .i64) (.pair (.int .i64) .unit)))), (5, (.int .i64))] else none }
theorem r12 (x0 : List D) (z0 : Bool) (x1 : List D) (z1 : Bool) (rs : List D) : (sel ((x0.length : Int) != (x1.length : Int)) ([(D.b false)] = rs) (∃ (J4 : List D → Prop) (m4 : List D → Nat), (J4 [(D.l x0 z0), (D.l x1 z1), (D.i (0 : Int))]) ∧ (∀ s0_5 : D, ∀ s1_6 : D, ∀ s5_7 : D, J4 [s0_5, s1_6, s5_7] → (sel (decide (s5_7.toI < (s0_5.toL.length : Int))) ((0 ≤ s5_7.toI ∧ s5_7.toI < (s0_5.toL.length : Int)) ∧ ((0 ≤ s5_7.toI ∧ s5_7.toI < (s1_6.toL.length : Int)) ∧ (∃ r8 : D, E.sat 40 [] [(s0_5.toL.getD (s5_7.toI).toNat D.u), (s1_6.toL.getD (s5_7.toI).toNat D.u)] [r8] ∧ (sel (!r8.toB) ([(D.b false)] = rs) (True ∧ (J4 [s0_5, s1_6, (D.i (IntKind.i64.wrap (s5_7.toI + (1 : Int))))] ∧ m4 [s0_5, s1_6, (D.i (IntKind.i64.wrap (s5_7.toI + (1 : Int))))] < m4 [s0_5, s1_6, s5_7])))))) ([(D.b true)] = rs))))) = vc E A12 Try.f12 S12 [(D.l x0 z0), (D.l x1 z1)] rs := by kernel_rfl
def A13 : Ann := { loop := fun i => bif Nat.beq i 2 then some [(0, (.sl true (.pair (.int .i64) (.pair (.int .i64) .unit)))), (1, (.int .i64)), (5, (.int .i64))] else none }
theorem r13 (x0 : List D) (z0 : Bool) (x1 : Int) (rs : List D) : (∃ (J2 : List D → Prop) (m2 : List D → Nat), (J2 [(D.l x0 z0), (D.i x1), (D.i (0 : Int))]) ∧ (∀ s0_4 : D, ∀ s1_5 : D, ∀ s5_6 : D, J2 [s0_4, s1_5, s5_6] → (sel (decide (s5_6.toI < (s0_4.toL.length : Int))) ((0 ≤ s5_6.toI ∧ s5_6.toI < (s0_4.toL.length : Int)) ∧ (((s5_6.toI).toNat < s0_4.toL.length) ∧ (True ∧ ((0 ≤ s5_6.toI ∧ s5_6.toI < ((s0_4.toL.set (s5_6.toI).toNat (D.p s1_5 (s0_4.toL.getD (s5_6.toI).toNat D.u).snd)).length : Int)) ∧ (((s5_6.toI).toNat < (s0_4.toL.set (s5_6.toI).toNat (D.p s1_5 (s0_4.toL.getD (s5_6.toI).toNat D.u).snd)).length) ∧ (True ∧ (True ∧ (J2 [(D.l ((s0_4.toL.set (s5_6.toI).toNat (D.p s1_5 (s0_4.toL.getD (s5_6.toI).toNat D.u).snd)).set (s5_6.toI).toNat (D.p ((s0_4.toL.set (s5_6.toI).toNat (D.p s1_5 (s0_4.toL.getD (s5_6.toI).toNat D.u).snd)).getD (s5_6.toI).toNat D.u).fst (D.p (D.i (IntKind.i64.wrap (s1_5.toI + (1 : Int)))) ((s0_4.toL.set (s5_6.toI).toNat (D.p s1_5 (s0_4.toL.getD (s5_6.toI).toNat D.u).snd)).getD (s5_6.toI).toNat D.u).snd.snd))) s0_4.toZ), (D.i (IntKind.i64.wrap ((IntKind.i64.wrap (s1_5.toI + (1 : Int))) + (1 : Int)))), (D.i (IntKind.i64.wrap (s5_6.toI + (1 : Int))))] ∧ m2 [(D.l ((s0_4.toL.set (s5_6.toI).toNat (D.p s1_5 (s0_4.toL.getD (s5_6.toI).toNat D.u).snd)).set (s5_6.toI).toNat (D.p ((s0_4.toL.set (s5_6.toI).toNat (D.p s1_5 (s0_4.toL.getD (s5_6.toI).toNat D.u).snd)).getD (s5_6.toI).toNat D.u).fst (D.p (D.i (IntKind.i64.wrap (s1_5.toI + (1 : Int)))) ((s0_4.toL.set (s5_6.toI).toNat (D.p s1_5 (s0_4.toL.getD (s5_6.toI).toNat D.u).snd)).getD (s5_6.toI).toNat D.u).snd.snd))) s0_4.toZ), (D.i (IntKind.i64.wrap ((IntKind.i64.wrap (s1_5.toI + (1 : Int))) + (1 : Int)))), (D.i (IntKind.i64.wrap (s5_6.toI + (1 : Int))))] < m2 [s0_4, s1_5, s5_6])))))))) ([s1_5, s0_4] = rs)))) = vc E A13 Try.f13 S13 [(D.l x0 z0), (D.i x1)] rs := by kernel_rfl
def A14 : Ann := { loop := fun i => bif Nat.beq i 2 then some [(0, (.sl false (.pair (.int .i64) (.pair (.int .i64) .unit)))), (1, (.int .i64)), (5, (.int .i64))] else none }
theorem r14 (x0 : List D) (z0 : Bool) (x1 : Int) (rs : List D) : (∃ (J2 : List D → Prop) (m2 : List D → Nat), (J2 [(D.l x0 z0), (D.i x1), (D.i (0 : Int))]) ∧ (∀ s0_4 : D, ∀ s1_5 : D, ∀ s5_6 : D, J2 [s0_4, s1_5, s5_6] → (sel (decide (s5_6.toI < (s0_4.toL.length : Int))) ((0 ≤ s5_6.toI ∧ s5_6.toI < (s0_4.toL.length : Int)) ∧ (sel ((s0_4.toL.getD (s5_6.toI).toNat D.u).fst.toI != s1_5.toI) ([(D.i (-1 : Int))] = rs) (True ∧ ((0 ≤ s5_6.toI ∧ s5_6.toI < (s0_4.toL.length : Int)) ∧ (sel ((s0_4.toL.getD (s5_6.toI).toNat D.u).snd.fst.toI != (IntKind.i64.wrap (s1_5.toI + (1 : Int)))) ([(D.i (-1 : Int))] = rs) (True ∧ (True ∧ (J2 [s0_4, (D.i (IntKind.i64.wrap ((IntKind.i64.wrap (s1_5.toI + (1 : Int))) + (1 : Int)))), (D.i (IntKind.i64.wrap (s5_6.toI + (1 : Int))))] ∧ m2 [s0_4, (D.i (IntKind.i64.wrap ((IntKind.i64.wrap (s1_5.toI + (1 : Int))) + (1 : Int)))), (D.i (IntKind.i64.wrap (s5_6.toI + (1 : Int))))] < m2 [s0_4, s1_5, s5_6])))))))) ([s1_5] = rs)))) = vc E A14 Try.f14 S14 [(D.l x0 z0), (D.i x1)] rs := by kernel_rfl
def A3 : Ann := { op := fun r n => bif Nat.beq r 5 && Nat.beq n 3 then 1 else bif Nat.beq r 7 && Nat.beq n 2 then 1 else bif Nat.beq r 24 && Nat.beq n 3 then 1 else 0 }
theorem r3 (x0 : List D) (z0 : Bool) (rs : List D) : (∃ r1 : D, E.sat 8 [] [(D.l x0 z0), (D.i (1048576 : Int))] [r1] ∧ (sel (decide (r1.toI < (0 : Int))) ([(D.b true)] = rs) (∃ r2 : D, E.sat 10 [] [(D.l x0 z0)] [r2] ∧ (∃ r3 : D, (∃ r4 : D, E.sat 9 [] [r2] [r3, r4] ∧ (∃ r5 : D, E.sat 10 [] [(D.l x0 z0)] [r5] ∧ (∃ r6 : D, (∃ r7 : D, E.sat 11 [] [r5] [r6, r7] ∧ (∃ r9 : D, E.sat 12 [] [r6, r3] [r9] ∧ (sel ((!r9.toB) == false) (sel (r7.toI != r4.toI) ([(D.b false)] = rs) (∃ r12 : D, E.sat 10 [] [(D.l x0 z0)] [r12] ∧ (∃ r13 : D, E.sat 12 [] [r5, r12] [r13] ∧ (sel (!r13.toB) ([(D.b false)] = rs) (∃ r14 : D, (∃ r15 : D, E.sat 13 [] [r5, (D.i (1 : Int))] [r14, r15] ∧ (sel ((decide (r14.toI < (0 : Int))) == false) (∃ r17 : D, E.sat 12 [] [r6, r3] [r17] ∧ (sel ((!r17.toB) == false) (sel (r7.toI != r4.toI) ([(D.b false)] = rs) (∃ r18 : D, (∃ r19 : D, E.sat 13 [] [r6, (D.i (1 : Int))] [r18, r19] ∧ (∃ r20 : D, E.sat 14 [] [r19, (D.i (1 : Int))] [r20] ∧ (sel (decide (r20.toI < (0 : Int))) ([(D.b false)] = rs) (sel (r20.toI != r18.toI) ([(D.b false)] = rs) (∃ r21 : D, E.sat 10 [] [(D.l x0 z0)] [r21] ∧ (∃ r22 : D, (∃ r23 : D, E.sat 11 [] [r21] [r22, r23] ∧ (∃ r25 : D, E.sat 12 [] [r22, r3] [r25] ∧ (sel ((!r25.toB) == false) (sel (r23.toI != r4.toI) ([(D.b false)] = rs) (∃ r26 : D, E.sat 14 [] [r19, (D.i (1 : Int))] [r26] ∧ (sel (decide (r26.toI < (0 : Int))) ([(D.b false)] = rs) (sel (r26.toI != r18.toI) ([(D.b false)] = rs) ([(D.b true)] = rs))))) ([(D.b false)] = rs)))))))))))) ([(D.b false)] = rs))) ([(D.b false)] = rs)))))))) ([(D.b false)] = rs))))))))))) = vc E A3 Try.f3 S3 [(D.l x0 z0)] rs := by kernel_rfl
theorem e8 {xs rs : List D} (h : Sat Try.prog S8 8 xs rs) : E.sat 8 [] xs rs := ⟨S8, by kernel_rfl, h⟩
theorem v8 {xs rs : List D} (h : vc E A8 Try.f8 S8 xs rs) : Sat Try.prog S8 8 xs rs := vc_sound eok kok Try.func8 h
theorem e37 {xs rs : List D} (h : Sat Try.prog S37 37 xs rs) : E.sat 37 [] xs rs := ⟨S37, by kernel_rfl, h⟩
theorem v37 {xs rs : List D} (h : vc E A37 Try.f37 S37 xs rs) : Sat Try.prog S37 37 xs rs := vc_sound eok kok Try.func37 h
theorem e10 {xs rs : List D} (h : Sat Try.prog S10 10 xs rs) : E.sat 10 [] xs rs := ⟨S10, by kernel_rfl, h⟩
theorem v10 {xs rs : List D} (h : vc E A10 Try.f10 S10 xs rs) : Sat Try.prog S10 10 xs rs := vc_sound eok kok Try.func10 h
theorem e80 {xs rs : List D} (h : Sat Try.prog S80 80 xs rs) : E.sat 80 [] xs rs := ⟨S80, by kernel_rfl, h⟩
theorem v80 {xs rs : List D} (h : vc E A80 Try.f80 S80 xs rs) : Sat Try.prog S80 80 xs rs := vc_sound eok kok Try.func80 h
theorem e58 {xs rs : List D} (h : Sat Try.prog S58 58 xs rs) : E.sat 58 [] xs rs := ⟨S58, by kernel_rfl, h⟩
theorem v58 {xs rs : List D} (h : vc E A58 Try.f58 S58 xs rs) : Sat Try.prog S58 58 xs rs := vc_sound eok kok Try.func58 h
theorem e122 {xs rs : List D} (h : Sat Try.prog S122 122 xs rs) : E.sat 122 [] xs rs := ⟨S122, by kernel_rfl, h⟩
theorem v122 {xs rs : List D} (h : vc E A122 Try.f122 S122 xs rs) : Sat Try.prog S122 122 xs rs := vc_sound eok kok Try.func122 h
theorem e57 {xs rs : List D} (h : Sat Try.prog S57 57 xs rs) : E.sat 57 [] xs rs := ⟨S57, by kernel_rfl, h⟩
theorem v57 {xs rs : List D} (h : vc E A57 Try.f57 S57 xs rs) : Sat Try.prog S57 57 xs rs := vc_sound eok kok Try.func57 h
theorem e34 {xs rs : List D} (h : Sat Try.prog S34 34 xs rs) : E.sat 34 [] xs rs := ⟨S34, by kernel_rfl, h⟩
theorem v34 {xs rs : List D} (h : vc E A34 Try.f34 S34 xs rs) : Sat Try.prog S34 34 xs rs := vc_sound eok kok Try.func34 h
theorem e35 {xs rs : List D} (h : Sat Try.prog S35 35 xs rs) : E.sat 35 [] xs rs := ⟨S35, by kernel_rfl, h⟩
theorem v35 {xs rs : List D} (h : vc E A35 Try.f35 S35 xs rs) : Sat Try.prog S35 35 xs rs := vc_sound eok kok Try.func35 h
theorem e59 {xs rs : List D} (h : Sat Try.prog S59 59 xs rs) : E.sat 59 [] xs rs := ⟨S59, by kernel_rfl, h⟩
theorem v59 {xs rs : List D} (h : vc E A59 Try.f59 S59 xs rs) : Sat Try.prog S59 59 xs rs := vc_sound eok kok Try.func59 h
theorem e65 {xs rs : List D} (h : Sat Try.prog S65 65 xs rs) : E.sat 65 [] xs rs := ⟨S65, by kernel_rfl, h⟩
theorem v65 {xs rs : List D} (h : vc E A65 Try.f65 S65 xs rs) : Sat Try.prog S65 65 xs rs := vc_sound eok kok Try.func65 h
theorem e66 {xs rs : List D} (h : Sat Try.prog S66 66 xs rs) : E.sat 66 [] xs rs := ⟨S66, by kernel_rfl, h⟩
theorem v66 {xs rs : List D} (h : vc E A66 Try.f66 S66 xs rs) : Sat Try.prog S66 66 xs rs := vc_sound eok kok Try.func66 h
theorem e123 {xs rs : List D} (h : Sat Try.prog S123 123 xs rs) : E.sat 123 [] xs rs := ⟨S123, by kernel_rfl, h⟩
theorem v123 {xs rs : List D} (h : vc E A123 Try.f123 S123 xs rs) : Sat Try.prog S123 123 xs rs := vc_sound eok kok Try.func123 h
theorem e61 {xs rs : List D} (h : Sat Try.prog S61 61 xs rs) : E.sat 61 [] xs rs := ⟨S61, by kernel_rfl, h⟩
theorem v61 {xs rs : List D} (h : vc E A61 Try.f61 S61 xs rs) : Sat Try.prog S61 61 xs rs := vc_sound eok kok Try.func61 h
theorem e60 {xs rs : List D} (h : Sat Try.prog S60 60 xs rs) : E.sat 60 [] xs rs := ⟨S60, by kernel_rfl, h⟩
theorem v60 {xs rs : List D} (h : vc E A60 Try.f60 S60 xs rs) : Sat Try.prog S60 60 xs rs := vc_sound eok kok Try.func60 h
theorem e62 {xs rs : List D} (h : Sat Try.prog S62 62 xs rs) : E.sat 62 [] xs rs := ⟨S62, by kernel_rfl, h⟩
theorem v62 {xs rs : List D} (h : vc E A62 Try.f62 S62 xs rs) : Sat Try.prog S62 62 xs rs := vc_sound eok kok Try.func62 h
theorem e63 {xs rs : List D} (h : Sat Try.prog S63 63 xs rs) : E.sat 63 [] xs rs := ⟨S63, by kernel_rfl, h⟩
theorem v63 {xs rs : List D} (h : vc E A63 Try.f63 S63 xs rs) : Sat Try.prog S63 63 xs rs := vc_sound eok kok Try.func63 h
theorem e64 {xs rs : List D} (h : Sat Try.prog S64 64 xs rs) : E.sat 64 [] xs rs := ⟨S64, by kernel_rfl, h⟩
theorem v64 {xs rs : List D} (h : vc E A64 Try.f64 S64 xs rs) : Sat Try.prog S64 64 xs rs := vc_sound eok kok Try.func64 h
theorem e36 {xs rs : List D} (h : Sat Try.prog S36 36 xs rs) : E.sat 36 [] xs rs := ⟨S36, by kernel_rfl, h⟩
theorem v36 {xs rs : List D} (h : vc E A36 Try.f36 S36 xs rs) : Sat Try.prog S36 36 xs rs := vc_sound eok kok Try.func36 h
theorem e9 {xs rs : List D} (h : Sat Try.prog S9 9 xs rs) : E.sat 9 [] xs rs := ⟨S9, by kernel_rfl, h⟩
theorem v9 {xs rs : List D} (h : vc E A9 Try.f9 S9 xs rs) : Sat Try.prog S9 9 xs rs := vc_sound eok kok Try.func9 h
theorem e109 {xs rs : List D} (h : Sat Try.prog S109 109 xs rs) : E.sat 109 [] xs rs := ⟨S109, by kernel_rfl, h⟩
theorem v109 {xs rs : List D} (h : vc E A109 Try.f109 S109 xs rs) : Sat Try.prog S109 109 xs rs := vc_sound eok kok Try.func109 h
theorem e84 {xs rs : List D} (h : Sat Try.prog S84 84 xs rs) : E.sat 84 [] xs rs := ⟨S84, by kernel_rfl, h⟩
theorem v84 {xs rs : List D} (h : vc E A84 Try.f84 S84 xs rs) : Sat Try.prog S84 84 xs rs := vc_sound eok kok Try.func84 h
theorem e99 {xs rs : List D} (h : Sat Try.prog S99 99 xs rs) : E.sat 99 [] xs rs := ⟨S99, by kernel_rfl, h⟩
theorem v99 {xs rs : List D} (h : vc E A99 Try.f99 S99 xs rs) : Sat Try.prog S99 99 xs rs := vc_sound eok kok Try.func99 h
theorem e98 {xs rs : List D} (h : Sat Try.prog S98 98 xs rs) : E.sat 98 [] xs rs := ⟨S98, by kernel_rfl, h⟩
theorem v98 {xs rs : List D} (h : vc E A98 Try.f98 S98 xs rs) : Sat Try.prog S98 98 xs rs := vc_sound eok kok Try.func98 h
theorem e140_98 {xs rs : List D} (h : Sat Try.prog S140_98 140 xs rs) : E.sat 140 [98] xs rs := ⟨S140_98, by kernel_rfl, h⟩
theorem v140_98 {xs rs : List D} (h : vc E A140_98 Try.f140 S140_98 xs rs) : Sat Try.prog S140_98 140 xs rs := vc_sound eok kok Try.func140 h
theorem e97_98 {xs rs : List D} (h : Sat Try.prog S97_98 97 xs rs) : E.sat 97 [98] xs rs := ⟨S97_98, by kernel_rfl, h⟩
theorem v97_98 {xs rs : List D} (h : vc E A97_98 Try.f97 S97_98 xs rs) : Sat Try.prog S97_98 97 xs rs := vc_sound eok kok Try.func97 h
theorem e71 {xs rs : List D} (h : Sat Try.prog S71 71 xs rs) : E.sat 71 [] xs rs := ⟨S71, by kernel_rfl, h⟩
theorem v71 {xs rs : List D} (h : vc E A71 Try.f71 S71 xs rs) : Sat Try.prog S71 71 xs rs := vc_sound eok kok Try.func71 h
theorem e100 {xs rs : List D} (h : Sat Try.prog S100 100 xs rs) : E.sat 100 [] xs rs := ⟨S100, by kernel_rfl, h⟩
theorem v100 {xs rs : List D} (h : vc E A100 Try.f100 S100 xs rs) : Sat Try.prog S100 100 xs rs := vc_sound eok kok Try.func100 h
theorem e45 {xs rs : List D} (h : Sat Try.prog S45 45 xs rs) : E.sat 45 [] xs rs := ⟨S45, by kernel_rfl, h⟩
theorem v45 {xs rs : List D} (h : vc E A45 Try.f45 S45 xs rs) : Sat Try.prog S45 45 xs rs := vc_sound eok kok Try.func45 h
theorem e124 {xs rs : List D} (h : Sat Try.prog S124 124 xs rs) : E.sat 124 [] xs rs := ⟨S124, by kernel_rfl, h⟩
theorem v124 {xs rs : List D} (h : vc E A124 Try.f124 S124 xs rs) : Sat Try.prog S124 124 xs rs := vc_sound eok kok Try.func124 h
theorem e125_124 {xs rs : List D} (h : Sat Try.prog S125_124 125 xs rs) : E.sat 125 [124] xs rs := ⟨S125_124, by kernel_rfl, h⟩
theorem v125_124 {xs rs : List D} (h : vc E A125_124 Try.f125 S125_124 xs rs) : Sat Try.prog S125_124 125 xs rs := vc_sound eok kok Try.func125 h
theorem e68_124 {xs rs : List D} (h : Sat Try.prog S68_124 68 xs rs) : E.sat 68 [124] xs rs := ⟨S68_124, by kernel_rfl, h⟩
theorem v68_124 {xs rs : List D} (h : vc E A68_124 Try.f68 S68_124 xs rs) : Sat Try.prog S68_124 68 xs rs := vc_sound eok kok Try.func68 h
theorem e67 {xs rs : List D} (h : Sat Try.prog S67 67 xs rs) : E.sat 67 [] xs rs := ⟨S67, by kernel_rfl, h⟩
theorem v67 {xs rs : List D} (h : vc E A67 Try.f67 S67 xs rs) : Sat Try.prog S67 67 xs rs := vc_sound eok kok Try.func67 h
theorem e127 {xs rs : List D} (h : Sat Try.prog S127 127 xs rs) : E.sat 127 [] xs rs := ⟨S127, by kernel_rfl, h⟩
theorem v127 {xs rs : List D} (h : vc E A127 Try.f127 S127 xs rs) : Sat Try.prog S127 127 xs rs := vc_sound eok kok Try.func127 h
theorem e126 {xs rs : List D} (h : Sat Try.prog S126 126 xs rs) : E.sat 126 [] xs rs := ⟨S126, by kernel_rfl, h⟩
theorem v126 {xs rs : List D} (h : vc E A126 Try.f126 S126 xs rs) : Sat Try.prog S126 126 xs rs := vc_sound eok kok Try.func126 h
theorem e140_126 {xs rs : List D} (h : Sat Try.prog S140_126 140 xs rs) : E.sat 140 [126] xs rs := ⟨S140_126, by kernel_rfl, h⟩
theorem v140_126 {xs rs : List D} (h : vc E A140_126 Try.f140 S140_126 xs rs) : Sat Try.prog S140_126 140 xs rs := vc_sound eok kok Try.func140 h
theorem e97_126 {xs rs : List D} (h : Sat Try.prog S97_126 97 xs rs) : E.sat 97 [126] xs rs := ⟨S97_126, by kernel_rfl, h⟩
theorem v97_126 {xs rs : List D} (h : vc E A97_126 Try.f97 S97_126 xs rs) : Sat Try.prog S97_126 97 xs rs := vc_sound eok kok Try.func97 h
theorem e70 {xs rs : List D} (h : Sat Try.prog S70 70 xs rs) : E.sat 70 [] xs rs := ⟨S70, by kernel_rfl, h⟩
theorem v70 {xs rs : List D} (h : vc E A70 Try.f70 S70 xs rs) : Sat Try.prog S70 70 xs rs := vc_sound eok kok Try.func70 h
theorem e69 {xs rs : List D} (h : Sat Try.prog S69 69 xs rs) : E.sat 69 [] xs rs := ⟨S69, by kernel_rfl, h⟩
theorem v69 {xs rs : List D} (h : vc E A69 Try.f69 S69 xs rs) : Sat Try.prog S69 69 xs rs := vc_sound eok kok Try.func69 h
theorem e125_69 {xs rs : List D} (h : Sat Try.prog S125_69 125 xs rs) : E.sat 125 [69] xs rs := ⟨S125_69, by kernel_rfl, h⟩
theorem v125_69 {xs rs : List D} (h : vc E A125_69 Try.f125 S125_69 xs rs) : Sat Try.prog S125_69 125 xs rs := vc_sound eok kok Try.func125 h
theorem e68_69 {xs rs : List D} (h : Sat Try.prog S68_69 68 xs rs) : E.sat 68 [69] xs rs := ⟨S68_69, by kernel_rfl, h⟩
theorem v68_69 {xs rs : List D} (h : vc E A68_69 Try.f68 S68_69 xs rs) : Sat Try.prog S68_69 68 xs rs := vc_sound eok kok Try.func68 h
theorem e38 {xs rs : List D} (h : Sat Try.prog S38 38 xs rs) : E.sat 38 [] xs rs := ⟨S38, by kernel_rfl, h⟩
theorem v38 {xs rs : List D} (h : vc E A38 Try.f38 S38 xs rs) : Sat Try.prog S38 38 xs rs := vc_sound eok kok Try.func38 h
theorem e128 {xs rs : List D} (h : Sat Try.prog S128 128 xs rs) : E.sat 128 [] xs rs := ⟨S128, by kernel_rfl, h⟩
theorem v128 {xs rs : List D} (h : vc E A128 Try.f128 S128 xs rs) : Sat Try.prog S128 128 xs rs := vc_sound eok kok Try.func128 h
theorem e72 {xs rs : List D} (h : Sat Try.prog S72 72 xs rs) : E.sat 72 [] xs rs := ⟨S72, by kernel_rfl, h⟩
theorem v72 {xs rs : List D} (h : vc E A72 Try.f72 S72 xs rs) : Sat Try.prog S72 72 xs rs := vc_sound eok kok Try.func72 h
theorem e129 {xs rs : List D} (h : Sat Try.prog S129 129 xs rs) : E.sat 129 [] xs rs := ⟨S129, by kernel_rfl, h⟩
theorem v129 {xs rs : List D} (h : vc E A129 Try.f129 S129 xs rs) : Sat Try.prog S129 129 xs rs := vc_sound eok kok Try.func129 h
theorem e73 {xs rs : List D} (h : Sat Try.prog S73 73 xs rs) : E.sat 73 [] xs rs := ⟨S73, by kernel_rfl, h⟩
theorem v73 {xs rs : List D} (h : vc E A73 Try.f73 S73 xs rs) : Sat Try.prog S73 73 xs rs := vc_sound eok kok Try.func73 h
theorem e74 {xs rs : List D} (h : Sat Try.prog S74 74 xs rs) : E.sat 74 [] xs rs := ⟨S74, by kernel_rfl, h⟩
theorem v74 {xs rs : List D} (h : vc E A74 Try.f74 S74 xs rs) : Sat Try.prog S74 74 xs rs := vc_sound eok kok Try.func74 h
theorem e130 {xs rs : List D} (h : Sat Try.prog S130 130 xs rs) : E.sat 130 [] xs rs := ⟨S130, by kernel_rfl, h⟩
theorem v130 {xs rs : List D} (h : vc E A130 Try.f130 S130 xs rs) : Sat Try.prog S130 130 xs rs := vc_sound eok kok Try.func130 h
theorem e76 {xs rs : List D} (h : Sat Try.prog S76 76 xs rs) : E.sat 76 [] xs rs := ⟨S76, by kernel_rfl, h⟩
theorem v76 {xs rs : List D} (h : vc E A76 Try.f76 S76 xs rs) : Sat Try.prog S76 76 xs rs := vc_sound eok kok Try.func76 h
theorem e77 {xs rs : List D} (h : Sat Try.prog S77 77 xs rs) : E.sat 77 [] xs rs := ⟨S77, by kernel_rfl, h⟩
theorem v77 {xs rs : List D} (h : vc E A77 Try.f77 S77 xs rs) : Sat Try.prog S77 77 xs rs := vc_sound eok kok Try.func77 h
theorem e75 {xs rs : List D} (h : Sat Try.prog S75 75 xs rs) : E.sat 75 [] xs rs := ⟨S75, by kernel_rfl, h⟩
theorem v75 {xs rs : List D} (h : vc E A75 Try.f75 S75 xs rs) : Sat Try.prog S75 75 xs rs := vc_sound eok kok Try.func75 h
theorem e78 {xs rs : List D} (h : Sat Try.prog S78 78 xs rs) : E.sat 78 [] xs rs := ⟨S78, by kernel_rfl, h⟩
theorem v78 {xs rs : List D} (h : vc E A78 Try.f78 S78 xs rs) : Sat Try.prog S78 78 xs rs := vc_sound eok kok Try.func78 h
theorem e161 {xs rs : List D} (h : Sat Try.prog S161 161 xs rs) : E.sat 161 [] xs rs := ⟨S161, by kernel_rfl, h⟩
theorem v161 {xs rs : List D} (h : vc E A161 Try.f161 S161 xs rs) : Sat Try.prog S161 161 xs rs := vc_sound eok kok Try.func161 h
theorem e131 {xs rs : List D} (h : Sat Try.prog S131 131 xs rs) : E.sat 131 [] xs rs := ⟨S131, by kernel_rfl, h⟩
theorem v131 {xs rs : List D} (h : vc E A131 Try.f131 S131 xs rs) : Sat Try.prog S131 131 xs rs := vc_sound eok kok Try.func131 h
theorem e79 {xs rs : List D} (h : Sat Try.prog S79 79 xs rs) : E.sat 79 [] xs rs := ⟨S79, by kernel_rfl, h⟩
theorem v79 {xs rs : List D} (h : vc E A79 Try.f79 S79 xs rs) : Sat Try.prog S79 79 xs rs := vc_sound eok kok Try.func79 h
theorem e39 {xs rs : List D} (h : Sat Try.prog S39 39 xs rs) : E.sat 39 [] xs rs := ⟨S39, by kernel_rfl, h⟩
theorem v39 {xs rs : List D} (h : vc E A39 Try.f39 S39 xs rs) : Sat Try.prog S39 39 xs rs := vc_sound eok kok Try.func39 h
theorem e11 {xs rs : List D} (h : Sat Try.prog S11 11 xs rs) : E.sat 11 [] xs rs := ⟨S11, by kernel_rfl, h⟩
theorem v11 {xs rs : List D} (h : vc E A11 Try.f11 S11 xs rs) : Sat Try.prog S11 11 xs rs := vc_sound eok kok Try.func11 h
theorem e40 {xs rs : List D} (h : Sat Try.prog S40 40 xs rs) : E.sat 40 [] xs rs := ⟨S40, by kernel_rfl, h⟩
theorem v40 {xs rs : List D} (h : vc E A40 Try.f40 S40 xs rs) : Sat Try.prog S40 40 xs rs := vc_sound eok kok Try.func40 h
theorem e12 {xs rs : List D} (h : Sat Try.prog S12 12 xs rs) : E.sat 12 [] xs rs := ⟨S12, by kernel_rfl, h⟩
theorem v12 {xs rs : List D} (h : vc E A12 Try.f12 S12 xs rs) : Sat Try.prog S12 12 xs rs := vc_sound eok kok Try.func12 h
theorem e13 {xs rs : List D} (h : Sat Try.prog S13 13 xs rs) : E.sat 13 [] xs rs := ⟨S13, by kernel_rfl, h⟩
theorem v13 {xs rs : List D} (h : vc E A13 Try.f13 S13 xs rs) : Sat Try.prog S13 13 xs rs := vc_sound eok kok Try.func13 h
theorem e14 {xs rs : List D} (h : Sat Try.prog S14 14 xs rs) : E.sat 14 [] xs rs := ⟨S14, by kernel_rfl, h⟩
theorem v14 {xs rs : List D} (h : vc E A14 Try.f14 S14 xs rs) : Sat Try.prog S14 14 xs rs := vc_sound eok kok Try.func14 h
theorem e3 {xs rs : List D} (h : Sat Try.prog S3 3 xs rs) : E.sat 3 [] xs rs := ⟨S3, by kernel_rfl, h⟩
theorem v3 {xs rs : List D} (h : vc E A3 Try.f3 S3 xs rs) : Sat Try.prog S3 3 xs rs := vc_sound eok kok Try.func3 h
end Go.Pi.TidyVc
