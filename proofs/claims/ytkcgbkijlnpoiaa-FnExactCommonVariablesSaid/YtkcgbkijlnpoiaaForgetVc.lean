/- A part of a walk: ForgetVc. -/
import Derived.Test.YtkcgbkijlnpoiaaProg
import Derived.Test.YtkcgbkijlnpoiaaPiTab
import Derived.Test.YtkcgbkijlnpoiaaTidyVc
namespace Go.Pi.ForgetVc
open Go Go.Pi Go.Proofs Go.Pi.TidyVc

def tab : List (Nat × TI) := [(2, .base (.int .i64)),
  (3, .base (.int .i64)),
  (4, .base .bool),
  (22, .slice 54 16 (.pair (.int .i64) (.pair (.int .i64) .unit))),
  (24, .slice 52 16 (.pair (.int .i64) (.pair (.int .i64) .unit))),
  (52, .struct [(0, 2), (1, 2)] (.pair (.int .i64) (.pair (.int .i64) .unit))),
  (54, .struct [(0, 2), (1, 2)] (.pair (.int .i64) (.pair (.int .i64) .unit))),
  (78, .slice 24 24 (.sl false (.pair (.int .i64) (.pair (.int .i64) .unit))))]
/-- spec.l02Var -/
def S162 : Sg := ⟨[(.bor, (.int .i64))], [(.sl true (.pair (.int .i64) (.pair (.int .i64) .unit)))]⟩
/-- spec.l03Self -/
def S132 : Sg := ⟨[], [(.sl true (.sl false (.pair (.int .i64) (.pair (.int .i64) .unit))))]⟩
/-- spec.l03Bind -/
def S82 : Sg := ⟨[(.bor, (.int .i64)), (.bor, (.sl false (.pair (.int .i64) (.pair (.int .i64) .unit))))], [(.sl true (.sl false (.pair (.int .i64) (.pair (.int .i64) .unit))))]⟩
/-- spec.l03Sub -/
def S81 : Sg := ⟨[(.bor, (.sl false (.pair (.int .i64) (.pair (.int .i64) .unit)))), (.bor, (.sl false (.sl false (.pair (.int .i64) (.pair (.int .i64) .unit)))))], [(.sl true (.pair (.int .i64) (.pair (.int .i64) .unit)))]⟩
/-- spec.l02Made -/
def S83 : Sg := ⟨[(.tak, (.sl true (.pair (.int .i64) (.pair (.int .i64) .unit))))], [(.sl true (.pair (.int .i64) (.pair (.int .i64) .unit))), (.int .i64)]⟩
/-- spec.l28Forget -/
def S41 : Sg := ⟨[(.bor, (.int .i64)), (.bor, (.sl false (.pair (.int .i64) (.pair (.int .i64) .unit)))), (.bor, (.int .i64))], [(.sl true (.pair (.int .i64) (.pair (.int .i64) .unit))), (.int .i64)]⟩
/-- spec.ForgetClassically -/
def S15 : Sg := ⟨[(.bor, (.sl false (.pair (.int .i64) (.pair (.int .i64) .unit)))), (.bor, (.int .i64))], [(.sl true (.pair (.int .i64) (.pair (.int .i64) .unit))), (.int .i64)]⟩
/-- impl.variable -/
def S173 : Sg := ⟨[(.bor, (.int .i64))], [(.sl true (.pair (.int .i64) (.pair (.int .i64) .unit)))]⟩
/-- impl.identity -/
def S164 : Sg := ⟨[], [(.sl true (.sl false (.pair (.int .i64) (.pair (.int .i64) .unit))))]⟩
/-- impl.binding -/
def S134 : Sg := ⟨[(.bor, (.int .i64)), (.bor, (.sl false (.pair (.int .i64) (.pair (.int .i64) .unit))))], [(.sl true (.sl false (.pair (.int .i64) (.pair (.int .i64) .unit))))]⟩
/-- impl.withImages -/
def S163 : Sg := ⟨[(.bor, (.sl false (.sl false (.pair (.int .i64) (.pair (.int .i64) .unit)))))], [(.clo 172 (.pair (.bx false (.sl false (.sl false (.pair (.int .i64) (.pair (.int .i64) .unit))))) .unit))]⟩
/-- impl.withImages$1 -/
def S172 : Sg := ⟨[(.bor, (.sl false (.pair (.int .i64) (.pair (.int .i64) .unit)))), (.bor, (.bx false (.sl false (.sl false (.pair (.int .i64) (.pair (.int .i64) .unit))))))], [(.sl true (.pair (.int .i64) (.pair (.int .i64) .unit)))]⟩
/-- impl.substitute -/
def S133 : Sg := ⟨[(.bor, (.sl false (.pair (.int .i64) (.pair (.int .i64) .unit)))), (.bor, (.sl false (.sl false (.pair (.int .i64) (.pair (.int .i64) .unit)))))], [(.sl true (.pair (.int .i64) (.pair (.int .i64) .unit)))]⟩
/-- impl.replaceVariable -/
def S86 : Sg := ⟨[(.bor, (.sl false (.pair (.int .i64) (.pair (.int .i64) .unit)))), (.bor, (.int .i64)), (.bor, (.sl false (.pair (.int .i64) (.pair (.int .i64) .unit))))], [(.sl true (.pair (.int .i64) (.pair (.int .i64) .unit)))]⟩
/-- impl.falsum -/
def S87 : Sg := ⟨[], [(.sl true (.pair (.int .i64) (.pair (.int .i64) .unit)))]⟩
/-- impl.limited -/
def S85 : Sg := ⟨[(.tak, (.sl true (.pair (.int .i64) (.pair (.int .i64) .unit))))], [(.sl true (.pair (.int .i64) (.pair (.int .i64) .unit))), (.int .i64)]⟩
/-- impl.withoutVariable -/
def S42 : Sg := ⟨[(.bor, (.sl false (.pair (.int .i64) (.pair (.int .i64) .unit)))), (.bor, (.int .i64)), (.bor, (.int .i64))], [(.sl true (.pair (.int .i64) (.pair (.int .i64) .unit))), (.int .i64)]⟩
/-- impl.ForgetClassically -/
def S16 : Sg := ⟨[(.bor, (.sl false (.pair (.int .i64) (.pair (.int .i64) .unit)))), (.bor, (.int .i64))], [(.sl true (.pair (.int .i64) (.pair (.int .i64) .unit))), (.int .i64)]⟩
/-- laws.FnExactForgetClassically -/
def S4 : Sg := ⟨[(.bor, (.sl false (.pair (.int .i64) (.pair (.int .i64) .unit)))), (.bor, (.int .i64))], [.bool]⟩
/-- spec.WeakenClassically -/
def S17 : Sg := ⟨[(.bor, (.sl false (.pair (.int .i64) (.pair (.int .i64) .unit)))), (.bor, (.int .i64))], [(.sl true (.pair (.int .i64) (.pair (.int .i64) .unit))), (.int .i64)]⟩
/-- impl.WeakenClassically -/
def S18 : Sg := ⟨[(.bor, (.sl false (.pair (.int .i64) (.pair (.int .i64) .unit)))), (.bor, (.int .i64))], [(.sl true (.pair (.int .i64) (.pair (.int .i64) .unit))), (.int .i64)]⟩
/-- laws.FnExactWeakenClassically -/
def S5 : Sg := ⟨[(.bor, (.sl false (.pair (.int .i64) (.pair (.int .i64) .unit)))), (.bor, (.int .i64))], [.bool]⟩
def sgs : List SgRow := [⟨8, [], S8⟩, ⟨37, [], S37⟩, ⟨10, [], S10⟩, ⟨80, [], S80⟩, ⟨58, [], S58⟩, ⟨122, [], S122⟩, ⟨57, [], S57⟩, ⟨34, [], S34⟩, ⟨35, [], S35⟩, ⟨65, [], S65⟩, ⟨66, [], S66⟩, ⟨123, [], S123⟩, ⟨61, [], S61⟩, ⟨162, [], S162⟩, ⟨132, [], S132⟩, ⟨62, [], S62⟩, ⟨82, [], S82⟩, ⟨81, [], S81⟩, ⟨59, [], S59⟩, ⟨60, [], S60⟩, ⟨63, [], S63⟩, ⟨64, [], S64⟩, ⟨36, [], S36⟩, ⟨83, [], S83⟩, ⟨41, [], S41⟩, ⟨15, [], S15⟩, ⟨109, [], S109⟩, ⟨84, [], S84⟩, ⟨99, [], S99⟩, ⟨98, [], S98⟩, ⟨140, [98], S140_98⟩, ⟨97, [98], S97_98⟩, ⟨71, [], S71⟩, ⟨100, [], S100⟩, ⟨45, [], S45⟩, ⟨124, [], S124⟩, ⟨125, [124], S125_124⟩, ⟨68, [124], S68_124⟩, ⟨67, [], S67⟩, ⟨127, [], S127⟩, ⟨126, [], S126⟩, ⟨140, [126], S140_126⟩, ⟨97, [126], S97_126⟩, ⟨70, [], S70⟩, ⟨69, [], S69⟩, ⟨125, [69], S125_69⟩, ⟨68, [69], S68_69⟩, ⟨38, [], S38⟩, ⟨77, [], S77⟩, ⟨173, [], S173⟩, ⟨164, [], S164⟩, ⟨134, [], S134⟩, ⟨163, [], S163⟩, ⟨172, [], S172⟩, ⟨133, [], S133⟩, ⟨86, [], S86⟩, ⟨87, [], S87⟩, ⟨161, [], S161⟩, ⟨131, [], S131⟩, ⟨79, [], S79⟩, ⟨128, [], S128⟩, ⟨72, [], S72⟩, ⟨129, [], S129⟩, ⟨73, [], S73⟩, ⟨74, [], S74⟩, ⟨130, [], S130⟩, ⟨76, [], S76⟩, ⟨75, [], S75⟩, ⟨78, [], S78⟩, ⟨39, [], S39⟩, ⟨85, [], S85⟩, ⟨42, [], S42⟩, ⟨16, [], S16⟩, ⟨40, [], S40⟩, ⟨12, [], S12⟩, ⟨13, [], S13⟩, ⟨14, [], S14⟩, ⟨4, [], S4⟩, ⟨17, [], S17⟩, ⟨18, [], S18⟩, ⟨5, [], S5⟩]
def E : Env := envOf Try.prog tab sgs
theorem tab_all : tab.all (fun p => tiB Try.prog p.1 p.2) = true := by kernel_rfl
theorem sgs_all : sgs.all (fun x => fnB Try.prog x.g) = true := by kernel_rfl
theorem mixed : Try.prog.follows .mixedOrders = true := by kernel_rfl
theorem eok : EnvOk Try.prog E := envOf_ok tab_all
theorem kok : Known Try.prog E := envOf_known mixed sgs_all
def A162 : Ann := {}
theorem r162 (x0 : Int) (rs : List D) : ([(D.l ([(D.p (D.i (0 : Int)) (D.p (D.i x0) D.u))] : List D) false)] = rs) = vc E A162 Try.f162 S162 [(D.i x0)] rs := by kernel_rfl
def A132 : Ann := { op := fun r n => bif Nat.beq r 6 && Nat.beq n 1 then 1 else 0, loop := fun i => bif Nat.beq i 3 then some [(1, (.sl true (.sl false (.pair (.int .i64) (.pair (.int .i64) .unit))))), (2, (.int .i64))] else none }
theorem r132  (rs : List D) : (∃ (J3 : List D → Prop) (m3 : List D → Nat), (J3 [(D.l ([] : List D) false), (D.i (0 : Int))]) ∧ (∀ s1_4 : D, ∀ s2_5 : D, J3 [s1_4, s2_5] → (sel (decide (s2_5.toI < (6 : Int))) (∃ r6 : D, E.sat 162 [] [s2_5] [r6] ∧ (((s1_4.toL.length + ([r6] : List D).length) * 24 ≤ 140737488355328 ∧ s1_4.toL.length + ([r6] : List D).length ≤ 140737488355328) ∧ (True ∧ (J3 [(D.l (s1_4.toL ++ ([r6] : List D)) (s1_4.toZ && ([r6] : List D).isEmpty)), (D.i (IntKind.i64.wrap (s2_5.toI + (1 : Int))))] ∧ m3 [(D.l (s1_4.toL ++ ([r6] : List D)) (s1_4.toZ && ([r6] : List D).isEmpty)), (D.i (IntKind.i64.wrap (s2_5.toI + (1 : Int))))] < m3 [s1_4, s2_5])))) ([s1_4] = rs)))) = vc E A132 Try.f132 S132 [] rs := by kernel_rfl
def A82 : Ann := { op := fun r n => bif Nat.beq r 2 && Nat.beq n 5 then 20 else bif Nat.beq r 3 && Nat.beq n 1 then 1 else 0 }
theorem r82 (x0 : Int) (x1 : List D) (z1 : Bool) (rs : List D) : (∃ r1 : D, E.sat 132 [] [] [r1] ∧ (∃ r2 : D, E.sat 62 [] [(D.l x1 z1)] [r2] ∧ ((0 ≤ x0 ∧ x0 < (r1.toL.length : Int)) ∧ (((x0).toNat < r1.toL.length) ∧ ([(D.l (r1.toL.set (x0).toNat r2) r1.toZ)] = rs))))) = vc E A82 Try.f82 S82 [(D.i x0), (D.l x1 z1)] rs := by kernel_rfl
def A81 : Ann := { op := fun r n => bif Nat.beq r 8 && Nat.beq n 1 then 1 else 0, loop := fun i => bif Nat.beq i 3 then some [(0, (.sl false (.pair (.int .i64) (.pair (.int .i64) .unit)))), (1, (.sl false (.sl false (.pair (.int .i64) (.pair (.int .i64) .unit))))), (5, (.sl true (.pair (.int .i64) (.pair (.int .i64) .unit)))), (6, (.int .i64))] else none }
theorem r81 (x0 : List D) (z0 : Bool) (x1 : List D) (z1 : Bool) (rs : List D) : (∃ (J3 : List D → Prop) (m3 : List D → Nat), (J3 [(D.l x0 z0), (D.l x1 z1), (D.l ([] : List D) false), (D.i (0 : Int))]) ∧ (∀ s0_5 : D, ∀ s1_6 : D, ∀ s5_7 : D, ∀ s6_8 : D, J3 [s0_5, s1_6, s5_7, s6_8] → (sel (decide (s6_8.toI < (s0_5.toL.length : Int))) ((0 ≤ s6_8.toI ∧ s6_8.toI < (s0_5.toL.length : Int)) ∧ (sel ((s0_5.toL.getD (s6_8.toI).toNat D.u).fst.toI == (0 : Int)) ((0 ≤ s6_8.toI ∧ s6_8.toI < (s0_5.toL.length : Int)) ∧ ((0 ≤ (s0_5.toL.getD (s6_8.toI).toNat D.u).snd.fst.toI ∧ (s0_5.toL.getD (s6_8.toI).toNat D.u).snd.fst.toI < (s1_6.toL.length : Int)) ∧ (((s5_7.toL.length + (s1_6.toL.getD ((s0_5.toL.getD (s6_8.toI).toNat D.u).snd.fst.toI).toNat D.u).toL.length) * 16 ≤ 140737488355328 ∧ s5_7.toL.length + (s1_6.toL.getD ((s0_5.toL.getD (s6_8.toI).toNat D.u).snd.fst.toI).toNat D.u).toL.length ≤ 140737488355328) ∧ (True ∧ (J3 [s0_5, s1_6, (D.l (s5_7.toL ++ (s1_6.toL.getD ((s0_5.toL.getD (s6_8.toI).toNat D.u).snd.fst.toI).toNat D.u).toL) (s5_7.toZ && (s1_6.toL.getD ((s0_5.toL.getD (s6_8.toI).toNat D.u).snd.fst.toI).toNat D.u).toL.isEmpty)), (D.i (IntKind.i64.wrap (s6_8.toI + (1 : Int))))] ∧ m3 [s0_5, s1_6, (D.l (s5_7.toL ++ (s1_6.toL.getD ((s0_5.toL.getD (s6_8.toI).toNat D.u).snd.fst.toI).toNat D.u).toL) (s5_7.toZ && (s1_6.toL.getD ((s0_5.toL.getD (s6_8.toI).toNat D.u).snd.fst.toI).toNat D.u).toL.isEmpty)), (D.i (IntKind.i64.wrap (s6_8.toI + (1 : Int))))] < m3 [s0_5, s1_6, s5_7, s6_8]))))) ((0 ≤ s6_8.toI ∧ s6_8.toI < (s0_5.toL.length : Int)) ∧ (((s5_7.toL.length + ([(s0_5.toL.getD (s6_8.toI).toNat D.u)] : List D).length) * 16 ≤ 140737488355328 ∧ s5_7.toL.length + ([(s0_5.toL.getD (s6_8.toI).toNat D.u)] : List D).length ≤ 140737488355328) ∧ (True ∧ (J3 [s0_5, s1_6, (D.l (s5_7.toL ++ ([(s0_5.toL.getD (s6_8.toI).toNat D.u)] : List D)) (s5_7.toZ && ([(s0_5.toL.getD (s6_8.toI).toNat D.u)] : List D).isEmpty)), (D.i (IntKind.i64.wrap (s6_8.toI + (1 : Int))))] ∧ m3 [s0_5, s1_6, (D.l (s5_7.toL ++ ([(s0_5.toL.getD (s6_8.toI).toNat D.u)] : List D)) (s5_7.toZ && ([(s0_5.toL.getD (s6_8.toI).toNat D.u)] : List D).isEmpty)), (D.i (IntKind.i64.wrap (s6_8.toI + (1 : Int))))] < m3 [s0_5, s1_6, s5_7, s6_8])))))) ([s5_7] = rs)))) = vc E A81 Try.f81 S81 [(D.l x0 z0), (D.l x1 z1)] rs := by kernel_rfl
def A83 : Ann := { op := fun r n => bif Nat.beq r 3 && Nat.beq n 1 then 1 else 0 }
theorem r83 (x0 : List D) (z0 : Bool) (rs : List D) : (sel (decide ((x0.length : Int) > (40 : Int))) ([(D.l ([] : List D) true), (D.i (3 : Int))] = rs) ([(D.l x0 z0), (D.i (0 : Int))] = rs)) = vc E A83 Try.f83 S83 [(D.l x0 z0)] rs := by kernel_rfl
def A41 : Ann := { op := fun r n => bif Nat.beq r 8 && Nat.beq n 6 then 1 else bif Nat.beq r 9 && Nat.beq n 2 then 1 else 0 }
theorem r41 (x0 : Int) (x1 : List D) (z1 : Bool) (x2 : Int) (rs : List D) : (∃ r4 : D, E.sat 34 [] [(D.l x1 z1)] [r4] ∧ (sel (!r4.toB) ([(D.l ([] : List D) true), (D.i (1 : Int))] = rs) (∃ r5 : D, E.sat 35 [] [(D.l x1 z1)] [r5] ∧ (sel (!r5.toB) ([(D.l ([] : List D) true), (D.i (5 : Int))] = rs) (∃ r6 : D, E.sat 80 [] [(D.i x2), (D.i (0 : Int)), (D.i (5 : Int))] [r6] ∧ (sel (!r6.toB) ([(D.l ([] : List D) true), (D.i (2 : Int))] = rs) (∃ r7 : D, E.sat 61 [] [] [r7] ∧ (∃ r8 : D, E.sat 82 [] [(D.i x2), r7] [r8] ∧ (∃ r9 : D, E.sat 81 [] [(D.l x1 z1), r8] [r9] ∧ (∃ r10 : D, E.sat 65 [] [] [r10] ∧ (∃ r11 : D, E.sat 82 [] [(D.i x2), r10] [r11] ∧ (∃ r12 : D, E.sat 81 [] [(D.l x1 z1), r11] [r12] ∧ (∃ r13 : D, E.sat 66 [] [(D.i x0), r9, r12] [r13] ∧ (∃ r14 : D, E.sat 36 [] [r13] [r14] ∧ (∃ r15 : D, (∃ r16 : D, E.sat 83 [] [r14] [r15, r16] ∧ ([r15, r16] = rs))))))))))))))))) = vc E A41 Try.f41 S41 [(D.i x0), (D.l x1 z1), (D.i x2)] rs := by kernel_rfl
def A15 : Ann := { op := fun r n => bif Nat.beq r 1 && Nat.beq n 3 then 1 else bif Nat.beq r 2 && Nat.beq n 2 then 1 else 0 }
theorem r15 (x0 : List D) (z0 : Bool) (x1 : Int) (rs : List D) : (∃ r1 : D, (∃ r2 : D, E.sat 41 [] [(D.i (3 : Int)), (D.l x0 z0), (D.i x1)] [r1, r2] ∧ ([r1, r2] = rs))) = vc E A15 Try.f15 S15 [(D.l x0 z0), (D.i x1)] rs := by kernel_rfl
def A173 : Ann := {}
theorem r173 (x0 : Int) (rs : List D) : ([(D.l ([(D.p (D.i (0 : Int)) (D.p (D.i x0) D.u))] : List D) false)] = rs) = vc E A173 Try.f173 S173 [(D.i x0)] rs := by kernel_rfl
def A164 : Ann := { op := fun r n => bif Nat.beq r 7 && Nat.beq n 1 then 1 else 0, loop := fun i => bif Nat.beq i 3 then some [(1, (.sl true (.sl false (.pair (.int .i64) (.pair (.int .i64) .unit))))), (3, (.int .i64))] else none }
theorem r164  (rs : List D) : (∃ (J3 : List D → Prop) (m3 : List D → Nat), (J3 [(D.l ([] : List D) true), (D.i (0 : Int))]) ∧ (∀ s1_4 : D, ∀ s3_5 : D, J3 [s1_4, s3_5] → (sel (decide (s3_5.toI < (6 : Int))) (∃ r6 : D, E.sat 173 [] [s3_5] [r6] ∧ (((s1_4.toL.length + ([r6] : List D).length) * 24 ≤ 140737488355328 ∧ s1_4.toL.length + ([r6] : List D).length ≤ 140737488355328) ∧ (True ∧ (J3 [(D.l (s1_4.toL ++ ([r6] : List D)) (s1_4.toZ && ([r6] : List D).isEmpty)), (D.i (IntKind.i64.wrap (s3_5.toI + (1 : Int))))] ∧ m3 [(D.l (s1_4.toL ++ ([r6] : List D)) (s1_4.toZ && ([r6] : List D).isEmpty)), (D.i (IntKind.i64.wrap (s3_5.toI + (1 : Int))))] < m3 [s1_4, s3_5])))) ([s1_4] = rs)))) = vc E A164 Try.f164 S164 [] rs := by kernel_rfl
def A134 : Ann := { op := fun r n => bif Nat.beq r 3 && Nat.beq n 1 then 1 else 0 }
theorem r134 (x0 : Int) (x1 : List D) (z1 : Bool) (rs : List D) : (∃ r1 : D, E.sat 164 [] [] [r1] ∧ ((0 ≤ x0 ∧ x0 < (r1.toL.length : Int)) ∧ (((x0).toNat < r1.toL.length) ∧ ([(D.l (r1.toL.set (x0).toNat (D.l x1 z1)) r1.toZ)] = rs)))) = vc E A134 Try.f134 S134 [(D.i x0), (D.l x1 z1)] rs := by kernel_rfl
def A163 : Ann := {}
theorem r163 (x0 : List D) (z0 : Bool) (rs : List D) : ([(D.p (D.l x0 z0) D.u)] = rs) = vc E A163 Try.f163 S163 [(D.l x0 z0)] rs := by kernel_rfl
def A172 : Ann := { op := fun r n => bif Nat.beq r 9 && Nat.beq n 1 then 1 else 0, loop := fun i => bif Nat.beq i 3 then some [(1, (.bx false (.sl false (.sl false (.pair (.int .i64) (.pair (.int .i64) .unit)))))), (4, (.sl true (.pair (.int .i64) (.pair (.int .i64) .unit)))), (7, (.sl false (.pair (.int .i64) (.pair (.int .i64) .unit)))), (8, (.int .i64)), (9, (.int .i64))] else none }
theorem r172 (x0 : List D) (z0 : Bool) (x1 : D) (rs : List D) : (∃ (J3 : List D → Prop) (m3 : List D → Nat), (J3 [x1, (D.l ([] : List D) true), (D.l x0 z0), (D.i (x0.length : Int)), (D.i (0 : Int))]) ∧ (∀ s1_6 : D, ∀ s4_7 : D, ∀ s7_8 : D, ∀ s8_9 : D, ∀ s9_10 : D, J3 [s1_6, s4_7, s7_8, s8_9, s9_10] → (sel (decide (s9_10.toI < s8_9.toI)) ((0 ≤ s9_10.toI ∧ s9_10.toI < (s7_8.toL.length : Int)) ∧ (True ∧ (sel ((s7_8.toL.getD (s9_10.toI).toNat D.u).fst.toI == (0 : Int)) ((0 ≤ (s7_8.toL.getD (s9_10.toI).toNat D.u).snd.fst.toI ∧ (s7_8.toL.getD (s9_10.toI).toNat D.u).snd.fst.toI < (s1_6.toL.length : Int)) ∧ (((s4_7.toL.length + (s1_6.toL.getD ((s7_8.toL.getD (s9_10.toI).toNat D.u).snd.fst.toI).toNat D.u).toL.length) * 16 ≤ 140737488355328 ∧ s4_7.toL.length + (s1_6.toL.getD ((s7_8.toL.getD (s9_10.toI).toNat D.u).snd.fst.toI).toNat D.u).toL.length ≤ 140737488355328) ∧ (True ∧ (J3 [s1_6, (D.l (s4_7.toL ++ (s1_6.toL.getD ((s7_8.toL.getD (s9_10.toI).toNat D.u).snd.fst.toI).toNat D.u).toL) (s4_7.toZ && (s1_6.toL.getD ((s7_8.toL.getD (s9_10.toI).toNat D.u).snd.fst.toI).toNat D.u).toL.isEmpty)), s7_8, s8_9, (D.i (IntKind.i64.wrap (s9_10.toI + (1 : Int))))] ∧ m3 [s1_6, (D.l (s4_7.toL ++ (s1_6.toL.getD ((s7_8.toL.getD (s9_10.toI).toNat D.u).snd.fst.toI).toNat D.u).toL) (s4_7.toZ && (s1_6.toL.getD ((s7_8.toL.getD (s9_10.toI).toNat D.u).snd.fst.toI).toNat D.u).toL.isEmpty)), s7_8, s8_9, (D.i (IntKind.i64.wrap (s9_10.toI + (1 : Int))))] < m3 [s1_6, s4_7, s7_8, s8_9, s9_10])))) (((s4_7.toL.length + ([(s7_8.toL.getD (s9_10.toI).toNat D.u)] : List D).length) * 16 ≤ 140737488355328 ∧ s4_7.toL.length + ([(s7_8.toL.getD (s9_10.toI).toNat D.u)] : List D).length ≤ 140737488355328) ∧ (True ∧ (J3 [s1_6, (D.l (s4_7.toL ++ ([(s7_8.toL.getD (s9_10.toI).toNat D.u)] : List D)) (s4_7.toZ && ([(s7_8.toL.getD (s9_10.toI).toNat D.u)] : List D).isEmpty)), s7_8, s8_9, (D.i (IntKind.i64.wrap (s9_10.toI + (1 : Int))))] ∧ m3 [s1_6, (D.l (s4_7.toL ++ ([(s7_8.toL.getD (s9_10.toI).toNat D.u)] : List D)) (s4_7.toZ && ([(s7_8.toL.getD (s9_10.toI).toNat D.u)] : List D).isEmpty)), s7_8, s8_9, (D.i (IntKind.i64.wrap (s9_10.toI + (1 : Int))))] < m3 [s1_6, s4_7, s7_8, s8_9, s9_10])))))) ([s4_7] = rs)))) = vc E A172 Try.f172 S172 [(D.l x0 z0), x1] rs := by kernel_rfl
def A133 : Ann := {}
theorem r133 (x0 : List D) (z0 : Bool) (x1 : List D) (z1 : Bool) (rs : List D) : (∃ r1 : D, E.sat 163 [] [(D.l x1 z1)] [r1] ∧ (∃ r2 : D, E.sat 172 [] [(D.l x0 z0), r1.fst] [r2] ∧ ([r2] = rs))) = vc E A133 Try.f133 S133 [(D.l x0 z0), (D.l x1 z1)] rs := by kernel_rfl
def A86 : Ann := {}
theorem r86 (x0 : List D) (z0 : Bool) (x1 : Int) (x2 : List D) (z2 : Bool) (rs : List D) : (∃ r1 : D, E.sat 134 [] [(D.i x1), (D.l x2 z2)] [r1] ∧ (∃ r2 : D, E.sat 133 [] [(D.l x0 z0), r1] [r2] ∧ ([r2] = rs))) = vc E A86 Try.f86 S86 [(D.l x0 z0), (D.i x1), (D.l x2 z2)] rs := by kernel_rfl
def A87 : Ann := {}
theorem r87  (rs : List D) : ([(D.l ([(D.p (D.i (1 : Int)) (D.p (D.i (0 : Int)) D.u))] : List D) false)] = rs) = vc E A87 Try.f87 S87 [] rs := by kernel_rfl
def A85 : Ann := { op := fun r n => bif Nat.beq r 3 && Nat.beq n 1 then 1 else 0 }
theorem r85 (x0 : List D) (z0 : Bool) (rs : List D) : (sel (decide ((x0.length : Int) > (40 : Int))) ([(D.l ([] : List D) true), (D.i (3 : Int))] = rs) ([(D.l x0 z0), (D.i (0 : Int))] = rs)) = vc E A85 Try.f85 S85 [(D.l x0 z0)] rs := by kernel_rfl
def A42 : Ann := {}
theorem r42 (x0 : List D) (z0 : Bool) (x1 : Int) (x2 : Int) (rs : List D) : (∃ r1 : D, E.sat 38 [] [(D.l ([(D.l x0 z0)] : List D) false)] [r1] ∧ (sel (r1.toI != (0 : Int)) ([(D.l ([] : List D) true), r1] = rs) (∃ r3 : D, E.sat 84 [] [(D.i x1)] [r3] ∧ (sel (!r3.toB) ([(D.l ([] : List D) true), (D.i (2 : Int))] = rs) (∃ r4 : D, E.sat 77 [] [] [r4] ∧ (∃ r5 : D, E.sat 86 [] [(D.l x0 z0), (D.i x1), r4] [r5] ∧ (∃ r6 : D, E.sat 87 [] [] [r6] ∧ (∃ r7 : D, E.sat 86 [] [(D.l x0 z0), (D.i x1), r6] [r7] ∧ (∃ r8 : D, E.sat 79 [] [(D.i x2), r5, r7] [r8] ∧ (∃ r9 : D, E.sat 39 [] [r8] [r9] ∧ (∃ r10 : D, (∃ r11 : D, E.sat 85 [] [r9] [r10, r11] ∧ ([r10, r11] = rs))))))))))))) = vc E A42 Try.f42 S42 [(D.l x0 z0), (D.i x1), (D.i x2)] rs := by kernel_rfl
def A16 : Ann := {}
theorem r16 (x0 : List D) (z0 : Bool) (x1 : Int) (rs : List D) : (∃ r1 : D, (∃ r2 : D, E.sat 42 [] [(D.l x0 z0), (D.i x1), (D.i (3 : Int))] [r1, r2] ∧ ([r1, r2] = rs))) = vc E A16 Try.f16 S16 [(D.l x0 z0), (D.i x1)] rs := by kernel_rfl
def A4 : Ann := { op := fun r n => bif Nat.beq r 5 && Nat.beq n 4 then 1 else bif Nat.beq r 7 && Nat.beq n 3 then 1 else bif Nat.beq r 24 && Nat.beq n 4 then 1 else 0 }
theorem r4 (x0 : List D) (z0 : Bool) (x1 : Int) (rs : List D) : (∃ r1 : D, E.sat 8 [] [(D.l x0 z0), (D.i (1048576 : Int))] [r1] ∧ (sel (decide (r1.toI < (0 : Int))) ([(D.b true)] = rs) (∃ r2 : D, E.sat 10 [] [(D.l x0 z0)] [r2] ∧ (∃ r3 : D, (∃ r4 : D, E.sat 15 [] [r2, (D.i x1)] [r3, r4] ∧ (∃ r5 : D, E.sat 10 [] [(D.l x0 z0)] [r5] ∧ (∃ r6 : D, (∃ r7 : D, E.sat 16 [] [r5, (D.i x1)] [r6, r7] ∧ (∃ r9 : D, E.sat 12 [] [r6, r3] [r9] ∧ (sel ((!r9.toB) == false) (sel (r7.toI != r4.toI) ([(D.b false)] = rs) (∃ r12 : D, E.sat 10 [] [(D.l x0 z0)] [r12] ∧ (∃ r13 : D, E.sat 12 [] [r5, r12] [r13] ∧ (sel (!r13.toB) ([(D.b false)] = rs) (∃ r14 : D, (∃ r15 : D, E.sat 13 [] [r5, (D.i (1 : Int))] [r14, r15] ∧ (sel ((decide (r14.toI < (0 : Int))) == false) (∃ r17 : D, E.sat 12 [] [r6, r3] [r17] ∧ (sel ((!r17.toB) == false) (sel (r7.toI != r4.toI) ([(D.b false)] = rs) (∃ r18 : D, (∃ r19 : D, E.sat 13 [] [r6, (D.i (1 : Int))] [r18, r19] ∧ (∃ r20 : D, E.sat 14 [] [r19, (D.i (1 : Int))] [r20] ∧ (sel (decide (r20.toI < (0 : Int))) ([(D.b false)] = rs) (sel (r20.toI != r18.toI) ([(D.b false)] = rs) (∃ r21 : D, E.sat 10 [] [(D.l x0 z0)] [r21] ∧ (∃ r22 : D, (∃ r23 : D, E.sat 16 [] [r21, (D.i x1)] [r22, r23] ∧ (∃ r25 : D, E.sat 12 [] [r22, r3] [r25] ∧ (sel ((!r25.toB) == false) (sel (r23.toI != r4.toI) ([(D.b false)] = rs) (∃ r26 : D, E.sat 14 [] [r19, (D.i (1 : Int))] [r26] ∧ (sel (decide (r26.toI < (0 : Int))) ([(D.b false)] = rs) (sel (r26.toI != r18.toI) ([(D.b false)] = rs) ([(D.b true)] = rs))))) ([(D.b false)] = rs)))))))))))) ([(D.b false)] = rs))) ([(D.b false)] = rs)))))))) ([(D.b false)] = rs))))))))))) = vc E A4 Try.f4 S4 [(D.l x0 z0), (D.i x1)] rs := by kernel_rfl
def A17 : Ann := { op := fun r n => bif Nat.beq r 1 && Nat.beq n 3 then 1 else bif Nat.beq r 2 && Nat.beq n 2 then 1 else 0 }
theorem r17 (x0 : List D) (z0 : Bool) (x1 : Int) (rs : List D) : (∃ r1 : D, (∃ r2 : D, E.sat 41 [] [(D.i (2 : Int)), (D.l x0 z0), (D.i x1)] [r1, r2] ∧ ([r1, r2] = rs))) = vc E A17 Try.f17 S17 [(D.l x0 z0), (D.i x1)] rs := by kernel_rfl
def A18 : Ann := {}
theorem r18 (x0 : List D) (z0 : Bool) (x1 : Int) (rs : List D) : (∃ r1 : D, (∃ r2 : D, E.sat 42 [] [(D.l x0 z0), (D.i x1), (D.i (2 : Int))] [r1, r2] ∧ ([r1, r2] = rs))) = vc E A18 Try.f18 S18 [(D.l x0 z0), (D.i x1)] rs := by kernel_rfl
def A5 : Ann := { op := fun r n => bif Nat.beq r 5 && Nat.beq n 4 then 1 else bif Nat.beq r 7 && Nat.beq n 3 then 1 else bif Nat.beq r 24 && Nat.beq n 4 then 1 else 0 }
theorem r5 (x0 : List D) (z0 : Bool) (x1 : Int) (rs : List D) : (∃ r1 : D, E.sat 8 [] [(D.l x0 z0), (D.i (1048576 : Int))] [r1] ∧ (sel (decide (r1.toI < (0 : Int))) ([(D.b true)] = rs) (∃ r2 : D, E.sat 10 [] [(D.l x0 z0)] [r2] ∧ (∃ r3 : D, (∃ r4 : D, E.sat 17 [] [r2, (D.i x1)] [r3, r4] ∧ (∃ r5 : D, E.sat 10 [] [(D.l x0 z0)] [r5] ∧ (∃ r6 : D, (∃ r7 : D, E.sat 18 [] [r5, (D.i x1)] [r6, r7] ∧ (∃ r9 : D, E.sat 12 [] [r6, r3] [r9] ∧ (sel ((!r9.toB) == false) (sel (r7.toI != r4.toI) ([(D.b false)] = rs) (∃ r12 : D, E.sat 10 [] [(D.l x0 z0)] [r12] ∧ (∃ r13 : D, E.sat 12 [] [r5, r12] [r13] ∧ (sel (!r13.toB) ([(D.b false)] = rs) (∃ r14 : D, (∃ r15 : D, E.sat 13 [] [r5, (D.i (1 : Int))] [r14, r15] ∧ (sel ((decide (r14.toI < (0 : Int))) == false) (∃ r17 : D, E.sat 12 [] [r6, r3] [r17] ∧ (sel ((!r17.toB) == false) (sel (r7.toI != r4.toI) ([(D.b false)] = rs) (∃ r18 : D, (∃ r19 : D, E.sat 13 [] [r6, (D.i (1 : Int))] [r18, r19] ∧ (∃ r20 : D, E.sat 14 [] [r19, (D.i (1 : Int))] [r20] ∧ (sel (decide (r20.toI < (0 : Int))) ([(D.b false)] = rs) (sel (r20.toI != r18.toI) ([(D.b false)] = rs) (∃ r21 : D, E.sat 10 [] [(D.l x0 z0)] [r21] ∧ (∃ r22 : D, (∃ r23 : D, E.sat 18 [] [r21, (D.i x1)] [r22, r23] ∧ (∃ r25 : D, E.sat 12 [] [r22, r3] [r25] ∧ (sel ((!r25.toB) == false) (sel (r23.toI != r4.toI) ([(D.b false)] = rs) (∃ r26 : D, E.sat 14 [] [r19, (D.i (1 : Int))] [r26] ∧ (sel (decide (r26.toI < (0 : Int))) ([(D.b false)] = rs) (sel (r26.toI != r18.toI) ([(D.b false)] = rs) ([(D.b true)] = rs))))) ([(D.b false)] = rs)))))))))))) ([(D.b false)] = rs))) ([(D.b false)] = rs)))))))) ([(D.b false)] = rs))))))))))) = vc E A5 Try.f5 S5 [(D.l x0 z0), (D.i x1)] rs := by kernel_rfl
theorem e8 {xs rs : List D} (h : Sat Try.prog S8 8 xs rs) : E.sat 8 [] xs rs := ⟨S8, by kernel_rfl, h⟩
theorem e37 {xs rs : List D} (h : Sat Try.prog S37 37 xs rs) : E.sat 37 [] xs rs := ⟨S37, by kernel_rfl, h⟩
theorem e10 {xs rs : List D} (h : Sat Try.prog S10 10 xs rs) : E.sat 10 [] xs rs := ⟨S10, by kernel_rfl, h⟩
theorem e80 {xs rs : List D} (h : Sat Try.prog S80 80 xs rs) : E.sat 80 [] xs rs := ⟨S80, by kernel_rfl, h⟩
theorem e58 {xs rs : List D} (h : Sat Try.prog S58 58 xs rs) : E.sat 58 [] xs rs := ⟨S58, by kernel_rfl, h⟩
theorem e122 {xs rs : List D} (h : Sat Try.prog S122 122 xs rs) : E.sat 122 [] xs rs := ⟨S122, by kernel_rfl, h⟩
theorem e57 {xs rs : List D} (h : Sat Try.prog S57 57 xs rs) : E.sat 57 [] xs rs := ⟨S57, by kernel_rfl, h⟩
theorem e34 {xs rs : List D} (h : Sat Try.prog S34 34 xs rs) : E.sat 34 [] xs rs := ⟨S34, by kernel_rfl, h⟩
theorem e35 {xs rs : List D} (h : Sat Try.prog S35 35 xs rs) : E.sat 35 [] xs rs := ⟨S35, by kernel_rfl, h⟩
theorem e65 {xs rs : List D} (h : Sat Try.prog S65 65 xs rs) : E.sat 65 [] xs rs := ⟨S65, by kernel_rfl, h⟩
theorem e66 {xs rs : List D} (h : Sat Try.prog S66 66 xs rs) : E.sat 66 [] xs rs := ⟨S66, by kernel_rfl, h⟩
theorem e123 {xs rs : List D} (h : Sat Try.prog S123 123 xs rs) : E.sat 123 [] xs rs := ⟨S123, by kernel_rfl, h⟩
theorem e61 {xs rs : List D} (h : Sat Try.prog S61 61 xs rs) : E.sat 61 [] xs rs := ⟨S61, by kernel_rfl, h⟩
theorem e162 {xs rs : List D} (h : Sat Try.prog S162 162 xs rs) : E.sat 162 [] xs rs := ⟨S162, by kernel_rfl, h⟩
theorem v162 {xs rs : List D} (h : vc E A162 Try.f162 S162 xs rs) : Sat Try.prog S162 162 xs rs := vc_sound eok kok Try.func162 h
theorem e132 {xs rs : List D} (h : Sat Try.prog S132 132 xs rs) : E.sat 132 [] xs rs := ⟨S132, by kernel_rfl, h⟩
theorem v132 {xs rs : List D} (h : vc E A132 Try.f132 S132 xs rs) : Sat Try.prog S132 132 xs rs := vc_sound eok kok Try.func132 h
theorem e62 {xs rs : List D} (h : Sat Try.prog S62 62 xs rs) : E.sat 62 [] xs rs := ⟨S62, by kernel_rfl, h⟩
theorem e82 {xs rs : List D} (h : Sat Try.prog S82 82 xs rs) : E.sat 82 [] xs rs := ⟨S82, by kernel_rfl, h⟩
theorem v82 {xs rs : List D} (h : vc E A82 Try.f82 S82 xs rs) : Sat Try.prog S82 82 xs rs := vc_sound eok kok Try.func82 h
theorem e81 {xs rs : List D} (h : Sat Try.prog S81 81 xs rs) : E.sat 81 [] xs rs := ⟨S81, by kernel_rfl, h⟩
theorem v81 {xs rs : List D} (h : vc E A81 Try.f81 S81 xs rs) : Sat Try.prog S81 81 xs rs := vc_sound eok kok Try.func81 h
theorem e59 {xs rs : List D} (h : Sat Try.prog S59 59 xs rs) : E.sat 59 [] xs rs := ⟨S59, by kernel_rfl, h⟩
theorem e60 {xs rs : List D} (h : Sat Try.prog S60 60 xs rs) : E.sat 60 [] xs rs := ⟨S60, by kernel_rfl, h⟩
theorem e63 {xs rs : List D} (h : Sat Try.prog S63 63 xs rs) : E.sat 63 [] xs rs := ⟨S63, by kernel_rfl, h⟩
theorem e64 {xs rs : List D} (h : Sat Try.prog S64 64 xs rs) : E.sat 64 [] xs rs := ⟨S64, by kernel_rfl, h⟩
theorem e36 {xs rs : List D} (h : Sat Try.prog S36 36 xs rs) : E.sat 36 [] xs rs := ⟨S36, by kernel_rfl, h⟩
theorem e83 {xs rs : List D} (h : Sat Try.prog S83 83 xs rs) : E.sat 83 [] xs rs := ⟨S83, by kernel_rfl, h⟩
theorem v83 {xs rs : List D} (h : vc E A83 Try.f83 S83 xs rs) : Sat Try.prog S83 83 xs rs := vc_sound eok kok Try.func83 h
theorem e41 {xs rs : List D} (h : Sat Try.prog S41 41 xs rs) : E.sat 41 [] xs rs := ⟨S41, by kernel_rfl, h⟩
theorem v41 {xs rs : List D} (h : vc E A41 Try.f41 S41 xs rs) : Sat Try.prog S41 41 xs rs := vc_sound eok kok Try.func41 h
theorem e15 {xs rs : List D} (h : Sat Try.prog S15 15 xs rs) : E.sat 15 [] xs rs := ⟨S15, by kernel_rfl, h⟩
theorem v15 {xs rs : List D} (h : vc E A15 Try.f15 S15 xs rs) : Sat Try.prog S15 15 xs rs := vc_sound eok kok Try.func15 h
theorem e109 {xs rs : List D} (h : Sat Try.prog S109 109 xs rs) : E.sat 109 [] xs rs := ⟨S109, by kernel_rfl, h⟩
theorem e84 {xs rs : List D} (h : Sat Try.prog S84 84 xs rs) : E.sat 84 [] xs rs := ⟨S84, by kernel_rfl, h⟩
theorem e99 {xs rs : List D} (h : Sat Try.prog S99 99 xs rs) : E.sat 99 [] xs rs := ⟨S99, by kernel_rfl, h⟩
theorem e98 {xs rs : List D} (h : Sat Try.prog S98 98 xs rs) : E.sat 98 [] xs rs := ⟨S98, by kernel_rfl, h⟩
theorem e140_98 {xs rs : List D} (h : Sat Try.prog S140_98 140 xs rs) : E.sat 140 [98] xs rs := ⟨S140_98, by kernel_rfl, h⟩
theorem e97_98 {xs rs : List D} (h : Sat Try.prog S97_98 97 xs rs) : E.sat 97 [98] xs rs := ⟨S97_98, by kernel_rfl, h⟩
theorem e71 {xs rs : List D} (h : Sat Try.prog S71 71 xs rs) : E.sat 71 [] xs rs := ⟨S71, by kernel_rfl, h⟩
theorem e100 {xs rs : List D} (h : Sat Try.prog S100 100 xs rs) : E.sat 100 [] xs rs := ⟨S100, by kernel_rfl, h⟩
theorem e45 {xs rs : List D} (h : Sat Try.prog S45 45 xs rs) : E.sat 45 [] xs rs := ⟨S45, by kernel_rfl, h⟩
theorem e124 {xs rs : List D} (h : Sat Try.prog S124 124 xs rs) : E.sat 124 [] xs rs := ⟨S124, by kernel_rfl, h⟩
theorem e125_124 {xs rs : List D} (h : Sat Try.prog S125_124 125 xs rs) : E.sat 125 [124] xs rs := ⟨S125_124, by kernel_rfl, h⟩
theorem e68_124 {xs rs : List D} (h : Sat Try.prog S68_124 68 xs rs) : E.sat 68 [124] xs rs := ⟨S68_124, by kernel_rfl, h⟩
theorem e67 {xs rs : List D} (h : Sat Try.prog S67 67 xs rs) : E.sat 67 [] xs rs := ⟨S67, by kernel_rfl, h⟩
theorem e127 {xs rs : List D} (h : Sat Try.prog S127 127 xs rs) : E.sat 127 [] xs rs := ⟨S127, by kernel_rfl, h⟩
theorem e126 {xs rs : List D} (h : Sat Try.prog S126 126 xs rs) : E.sat 126 [] xs rs := ⟨S126, by kernel_rfl, h⟩
theorem e140_126 {xs rs : List D} (h : Sat Try.prog S140_126 140 xs rs) : E.sat 140 [126] xs rs := ⟨S140_126, by kernel_rfl, h⟩
theorem e97_126 {xs rs : List D} (h : Sat Try.prog S97_126 97 xs rs) : E.sat 97 [126] xs rs := ⟨S97_126, by kernel_rfl, h⟩
theorem e70 {xs rs : List D} (h : Sat Try.prog S70 70 xs rs) : E.sat 70 [] xs rs := ⟨S70, by kernel_rfl, h⟩
theorem e69 {xs rs : List D} (h : Sat Try.prog S69 69 xs rs) : E.sat 69 [] xs rs := ⟨S69, by kernel_rfl, h⟩
theorem e125_69 {xs rs : List D} (h : Sat Try.prog S125_69 125 xs rs) : E.sat 125 [69] xs rs := ⟨S125_69, by kernel_rfl, h⟩
theorem e68_69 {xs rs : List D} (h : Sat Try.prog S68_69 68 xs rs) : E.sat 68 [69] xs rs := ⟨S68_69, by kernel_rfl, h⟩
theorem e38 {xs rs : List D} (h : Sat Try.prog S38 38 xs rs) : E.sat 38 [] xs rs := ⟨S38, by kernel_rfl, h⟩
theorem e77 {xs rs : List D} (h : Sat Try.prog S77 77 xs rs) : E.sat 77 [] xs rs := ⟨S77, by kernel_rfl, h⟩
theorem e173 {xs rs : List D} (h : Sat Try.prog S173 173 xs rs) : E.sat 173 [] xs rs := ⟨S173, by kernel_rfl, h⟩
theorem v173 {xs rs : List D} (h : vc E A173 Try.f173 S173 xs rs) : Sat Try.prog S173 173 xs rs := vc_sound eok kok Try.func173 h
theorem e164 {xs rs : List D} (h : Sat Try.prog S164 164 xs rs) : E.sat 164 [] xs rs := ⟨S164, by kernel_rfl, h⟩
theorem v164 {xs rs : List D} (h : vc E A164 Try.f164 S164 xs rs) : Sat Try.prog S164 164 xs rs := vc_sound eok kok Try.func164 h
theorem e134 {xs rs : List D} (h : Sat Try.prog S134 134 xs rs) : E.sat 134 [] xs rs := ⟨S134, by kernel_rfl, h⟩
theorem v134 {xs rs : List D} (h : vc E A134 Try.f134 S134 xs rs) : Sat Try.prog S134 134 xs rs := vc_sound eok kok Try.func134 h
theorem e163 {xs rs : List D} (h : Sat Try.prog S163 163 xs rs) : E.sat 163 [] xs rs := ⟨S163, by kernel_rfl, h⟩
theorem v163 {xs rs : List D} (h : vc E A163 Try.f163 S163 xs rs) : Sat Try.prog S163 163 xs rs := vc_sound eok kok Try.func163 h
theorem e172 {xs rs : List D} (h : Sat Try.prog S172 172 xs rs) : E.sat 172 [] xs rs := ⟨S172, by kernel_rfl, h⟩
theorem v172 {xs rs : List D} (h : vc E A172 Try.f172 S172 xs rs) : Sat Try.prog S172 172 xs rs := vc_sound eok kok Try.func172 h
theorem e133 {xs rs : List D} (h : Sat Try.prog S133 133 xs rs) : E.sat 133 [] xs rs := ⟨S133, by kernel_rfl, h⟩
theorem v133 {xs rs : List D} (h : vc E A133 Try.f133 S133 xs rs) : Sat Try.prog S133 133 xs rs := vc_sound eok kok Try.func133 h
theorem e86 {xs rs : List D} (h : Sat Try.prog S86 86 xs rs) : E.sat 86 [] xs rs := ⟨S86, by kernel_rfl, h⟩
theorem v86 {xs rs : List D} (h : vc E A86 Try.f86 S86 xs rs) : Sat Try.prog S86 86 xs rs := vc_sound eok kok Try.func86 h
theorem e87 {xs rs : List D} (h : Sat Try.prog S87 87 xs rs) : E.sat 87 [] xs rs := ⟨S87, by kernel_rfl, h⟩
theorem v87 {xs rs : List D} (h : vc E A87 Try.f87 S87 xs rs) : Sat Try.prog S87 87 xs rs := vc_sound eok kok Try.func87 h
theorem e161 {xs rs : List D} (h : Sat Try.prog S161 161 xs rs) : E.sat 161 [] xs rs := ⟨S161, by kernel_rfl, h⟩
theorem e131 {xs rs : List D} (h : Sat Try.prog S131 131 xs rs) : E.sat 131 [] xs rs := ⟨S131, by kernel_rfl, h⟩
theorem e79 {xs rs : List D} (h : Sat Try.prog S79 79 xs rs) : E.sat 79 [] xs rs := ⟨S79, by kernel_rfl, h⟩
theorem e128 {xs rs : List D} (h : Sat Try.prog S128 128 xs rs) : E.sat 128 [] xs rs := ⟨S128, by kernel_rfl, h⟩
theorem e72 {xs rs : List D} (h : Sat Try.prog S72 72 xs rs) : E.sat 72 [] xs rs := ⟨S72, by kernel_rfl, h⟩
theorem e129 {xs rs : List D} (h : Sat Try.prog S129 129 xs rs) : E.sat 129 [] xs rs := ⟨S129, by kernel_rfl, h⟩
theorem e73 {xs rs : List D} (h : Sat Try.prog S73 73 xs rs) : E.sat 73 [] xs rs := ⟨S73, by kernel_rfl, h⟩
theorem e74 {xs rs : List D} (h : Sat Try.prog S74 74 xs rs) : E.sat 74 [] xs rs := ⟨S74, by kernel_rfl, h⟩
theorem e130 {xs rs : List D} (h : Sat Try.prog S130 130 xs rs) : E.sat 130 [] xs rs := ⟨S130, by kernel_rfl, h⟩
theorem e76 {xs rs : List D} (h : Sat Try.prog S76 76 xs rs) : E.sat 76 [] xs rs := ⟨S76, by kernel_rfl, h⟩
theorem e75 {xs rs : List D} (h : Sat Try.prog S75 75 xs rs) : E.sat 75 [] xs rs := ⟨S75, by kernel_rfl, h⟩
theorem e78 {xs rs : List D} (h : Sat Try.prog S78 78 xs rs) : E.sat 78 [] xs rs := ⟨S78, by kernel_rfl, h⟩
theorem e39 {xs rs : List D} (h : Sat Try.prog S39 39 xs rs) : E.sat 39 [] xs rs := ⟨S39, by kernel_rfl, h⟩
theorem e85 {xs rs : List D} (h : Sat Try.prog S85 85 xs rs) : E.sat 85 [] xs rs := ⟨S85, by kernel_rfl, h⟩
theorem v85 {xs rs : List D} (h : vc E A85 Try.f85 S85 xs rs) : Sat Try.prog S85 85 xs rs := vc_sound eok kok Try.func85 h
theorem e42 {xs rs : List D} (h : Sat Try.prog S42 42 xs rs) : E.sat 42 [] xs rs := ⟨S42, by kernel_rfl, h⟩
theorem v42 {xs rs : List D} (h : vc E A42 Try.f42 S42 xs rs) : Sat Try.prog S42 42 xs rs := vc_sound eok kok Try.func42 h
theorem e16 {xs rs : List D} (h : Sat Try.prog S16 16 xs rs) : E.sat 16 [] xs rs := ⟨S16, by kernel_rfl, h⟩
theorem v16 {xs rs : List D} (h : vc E A16 Try.f16 S16 xs rs) : Sat Try.prog S16 16 xs rs := vc_sound eok kok Try.func16 h
theorem e40 {xs rs : List D} (h : Sat Try.prog S40 40 xs rs) : E.sat 40 [] xs rs := ⟨S40, by kernel_rfl, h⟩
theorem e12 {xs rs : List D} (h : Sat Try.prog S12 12 xs rs) : E.sat 12 [] xs rs := ⟨S12, by kernel_rfl, h⟩
theorem e13 {xs rs : List D} (h : Sat Try.prog S13 13 xs rs) : E.sat 13 [] xs rs := ⟨S13, by kernel_rfl, h⟩
theorem e14 {xs rs : List D} (h : Sat Try.prog S14 14 xs rs) : E.sat 14 [] xs rs := ⟨S14, by kernel_rfl, h⟩
theorem e4 {xs rs : List D} (h : Sat Try.prog S4 4 xs rs) : E.sat 4 [] xs rs := ⟨S4, by kernel_rfl, h⟩
theorem v4 {xs rs : List D} (h : vc E A4 Try.f4 S4 xs rs) : Sat Try.prog S4 4 xs rs := vc_sound eok kok Try.func4 h
theorem e17 {xs rs : List D} (h : Sat Try.prog S17 17 xs rs) : E.sat 17 [] xs rs := ⟨S17, by kernel_rfl, h⟩
theorem v17 {xs rs : List D} (h : vc E A17 Try.f17 S17 xs rs) : Sat Try.prog S17 17 xs rs := vc_sound eok kok Try.func17 h
theorem e18 {xs rs : List D} (h : Sat Try.prog S18 18 xs rs) : E.sat 18 [] xs rs := ⟨S18, by kernel_rfl, h⟩
theorem v18 {xs rs : List D} (h : vc E A18 Try.f18 S18 xs rs) : Sat Try.prog S18 18 xs rs := vc_sound eok kok Try.func18 h
theorem e5 {xs rs : List D} (h : Sat Try.prog S5 5 xs rs) : E.sat 5 [] xs rs := ⟨S5, by kernel_rfl, h⟩
theorem v5 {xs rs : List D} (h : vc E A5 Try.f5 S5 xs rs) : Sat Try.prog S5 5 xs rs := vc_sound eok kok Try.func5 h
end Go.Pi.ForgetVc
