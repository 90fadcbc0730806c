import Derived.Test.YtppolfmipkjdhaaLu
import Derived.Test.YtppolfmipkjdhaaProg
/-! The types of the program, told. Printed by wip/gen/tys.py. -/
set_option linter.all false
set_option maxRecDepth 100000
namespace Go.L1.Try
open Go.RowKit Go.Proofs

def tys : Nat → TI
  | 2 => ⟨.int .i64, 1, 8, [.i .i64 0]⟩
  | 3 => ⟨.int .i64, 1, 8, [.i .i64 0]⟩
  | 4 => ⟨.bool, 1, 1, [.b false]⟩
  | 5 => ⟨.int .u8, 1, 1, [.i .u8 0]⟩
  | 6 => ⟨.int .u8, 1, 1, [.i .u8 0]⟩
  | 7 => ⟨.struct [(2, 0), (3, 1), (4, 2), (6, 3)], 4, 24, [.i .i64 0, .i .i64 0, .b false, .i .u8 0]⟩
  | 8 => ⟨.struct [(2, 0), (3, 1), (4, 2), (6, 3)], 4, 24, [.i .i64 0, .i .i64 0, .b false, .i .u8 0]⟩
  | 9 => ⟨.str, 1, 16, [.s ⟨#[]⟩]⟩
  | 10 => ⟨.str, 1, 16, [.s ⟨#[]⟩]⟩
  | 11 => ⟨.str, 1, 16, [.s ⟨#[]⟩]⟩
  | 12 => ⟨.int .u64, 1, 8, [.i .u64 0]⟩
  | 15 => ⟨.ptr, 1, 8, [.nilP]⟩
  | 16 => ⟨.ptr, 1, 8, [.nilP]⟩
  | 17 => ⟨.ptr, 1, 8, [.nilP]⟩
  | 21 => ⟨.int .i32, 1, 4, [.i .i32 0]⟩
  | 22 => ⟨.slice 50, 1, 24, [.nilS]⟩
  | 23 => ⟨.slice 37, 1, 24, [.nilS]⟩
  | 24 => ⟨.slice 3, 1, 24, [.nilS]⟩
  | 25 => ⟨.struct [(22, 0), (23, 1), (24, 2)], 3, 72, [.nilS, .nilS, .nilS]⟩
  | 26 => ⟨.struct [(22, 0), (23, 1), (24, 2)], 3, 72, [.nilS, .nilS, .nilS]⟩
  | 28 => ⟨.int .i64, 1, 8, [.i .i64 0]⟩
  | 31 => ⟨.slice 33, 1, 24, [.nilS]⟩
  | 32 => ⟨.struct [(3, 0), (9, 1), (3, 2), (31, 3)], 4, 56, [.i .i64 0, .s ⟨#[]⟩, .i .i64 0, .nilS]⟩
  | 33 => ⟨.struct [(3, 0), (9, 1), (3, 2), (31, 3)], 4, 56, [.i .i64 0, .s ⟨#[]⟩, .i .i64 0, .nilS]⟩
  | 34 => ⟨.struct [(3, 0), (3, 1)], 2, 16, [.i .i64 0, .i .i64 0]⟩
  | 35 => ⟨.struct [(3, 0), (3, 1)], 2, 16, [.i .i64 0, .i .i64 0]⟩
  | 36 => ⟨.struct [(33, 0), (35, 4)], 6, 72, [.i .i64 0, .s ⟨#[]⟩, .i .i64 0, .nilS, .i .i64 0, .i .i64 0]⟩
  | 37 => ⟨.struct [(33, 0), (35, 4)], 6, 72, [.i .i64 0, .s ⟨#[]⟩, .i .i64 0, .nilS, .i .i64 0, .i .i64 0]⟩
  | 49 => ⟨.struct [(3, 0), (37, 1)], 7, 80, [.i .i64 0, .i .i64 0, .s ⟨#[]⟩, .i .i64 0, .nilS, .i .i64 0, .i .i64 0]⟩
  | 50 => ⟨.struct [(3, 0), (37, 1)], 7, 80, [.i .i64 0, .i .i64 0, .s ⟨#[]⟩, .i .i64 0, .nilS, .i .i64 0, .i .i64 0]⟩
  | 56 => ⟨.map 58 4, 1, 8, [.nilM]⟩
  | 57 => ⟨.struct [(9, 0), (35, 1)], 3, 32, [.s ⟨#[]⟩, .i .i64 0, .i .i64 0]⟩
  | 58 => ⟨.struct [(9, 0), (35, 1)], 3, 32, [.s ⟨#[]⟩, .i .i64 0, .i .i64 0]⟩
  | 67 => ⟨.int .u64, 1, 8, [.i .u64 0]⟩
  | 73 => ⟨.ptr, 1, 8, [.nilP]⟩
  | 74 => ⟨.slice 9, 1, 24, [.nilS]⟩
  | 79 => ⟨.int .i64, 1, 8, [.i .i64 0]⟩
  | 87 => ⟨.int .u32, 1, 4, [.i .u32 0]⟩
  | 89 => ⟨.int .u64, 1, 8, [.i .u64 0]⟩
  | 93 => ⟨.slice 5, 1, 24, [.nilS]⟩
  | 96 => ⟨.map 9 4, 1, 8, [.nilM]⟩
  | 102 => ⟨.int .u64, 1, 8, [.i .u64 0]⟩
  | 111 => ⟨.ptr, 1, 8, [.nilP]⟩
  | 132 => ⟨.int .u8, 1, 1, [.i .u8 0]⟩
  | 133 => ⟨.int .u8, 1, 1, [.i .u8 0]⟩
  | 135 => ⟨.ptr, 1, 8, [.nilP]⟩
  | 136 => ⟨.int .i32, 1, 4, [.i .i32 0]⟩
  | 137 => ⟨.int .i32, 1, 4, [.i .i32 0]⟩
  | _ => ⟨.other, 0, 0, []⟩

theorem ty2 : tys 2 = ⟨.int .i64, 1, 8, [.i .i64 0]⟩ := rfl
theorem ok2 : TyOk Try.prog 2 (tys 2) := ⟨⟨Try.t2, Try.type2, rfl, rfl, _, rfl, rfl, fun fs h => by simp [ty2] at h, fun _ => by trivial, by decide⟩, ⟨_, Try.underlying2, by decide⟩, fun fields h => by rw [Try.underlying2] at h; simp at h⟩
theorem ty3 : tys 3 = ⟨.int .i64, 1, 8, [.i .i64 0]⟩ := rfl
theorem ok3 : TyOk Try.prog 3 (tys 3) := ⟨⟨Try.t3, Try.type3, rfl, rfl, _, rfl, rfl, fun fs h => by simp [ty3] at h, fun _ => by trivial, by decide⟩, ⟨_, Try.underlying3, by decide⟩, fun fields h => by rw [Try.underlying3] at h; simp at h⟩
theorem ty4 : tys 4 = ⟨.bool, 1, 1, [.b false]⟩ := rfl
theorem ok4 : TyOk Try.prog 4 (tys 4) := ⟨⟨Try.t4, Try.type4, rfl, rfl, _, rfl, rfl, fun fs h => by simp [ty4] at h, fun _ => by trivial, by decide⟩, ⟨_, Try.underlying4, by decide⟩, fun fields h => by rw [Try.underlying4] at h; simp at h⟩
theorem ty5 : tys 5 = ⟨.int .u8, 1, 1, [.i .u8 0]⟩ := rfl
theorem ok5 : TyOk Try.prog 5 (tys 5) := ⟨⟨Try.t5, Try.type5, rfl, rfl, _, rfl, rfl, fun fs h => by simp [ty5] at h, fun _ => by trivial, by decide⟩, ⟨_, Try.underlying5, by decide⟩, fun fields h => by rw [Try.underlying5] at h; simp at h⟩
theorem ty6 : tys 6 = ⟨.int .u8, 1, 1, [.i .u8 0]⟩ := rfl
theorem ok6 : TyOk Try.prog 6 (tys 6) := ⟨⟨Try.t6, Try.type6, rfl, rfl, _, rfl, rfl, fun fs h => by simp [ty6] at h, fun _ => by trivial, by decide⟩, ⟨_, Try.underlying6, by decide⟩, fun fields h => by rw [Try.underlying6] at h; simp at h⟩
theorem ty7 : tys 7 = ⟨.struct [(2, 0), (3, 1), (4, 2), (6, 3)], 4, 24, [.i .i64 0, .i .i64 0, .b false, .i .u8 0]⟩ := rfl
theorem ok7 : TyOk Try.prog 7 (tys 7) := ⟨⟨Try.t7, Try.type7, rfl, rfl, _, rfl, rfl, fun fs _ => ⟨_, rfl⟩, fun h => by exfalso; exact h _ rfl, by decide⟩, ⟨_, Try.underlying7, by decide⟩, fun fields h => by rw [Try.underlying7] at h; simp only [Option.some.injEq, TypeDesc.struct.injEq] at h; subst h; exact ⟨by decide, Try.stoodInHeld7, Try.eqGuardType7⟩⟩
theorem ty8 : tys 8 = ⟨.struct [(2, 0), (3, 1), (4, 2), (6, 3)], 4, 24, [.i .i64 0, .i .i64 0, .b false, .i .u8 0]⟩ := rfl
theorem ok8 : TyOk Try.prog 8 (tys 8) := ⟨⟨Try.t8, Try.type8, rfl, rfl, _, rfl, rfl, fun fs _ => ⟨_, rfl⟩, fun h => by exfalso; exact h _ rfl, by decide⟩, ⟨_, Try.underlying8, by decide⟩, fun fields h => by rw [Try.underlying8] at h; simp only [Option.some.injEq, TypeDesc.struct.injEq] at h; subst h; exact ⟨by decide, Try.stoodInHeld8, Try.eqGuardType8⟩⟩
theorem ty9 : tys 9 = ⟨.str, 1, 16, [.s ⟨#[]⟩]⟩ := rfl
theorem ok9 : TyOk Try.prog 9 (tys 9) := ⟨⟨Try.t9, Try.type9, rfl, rfl, _, rfl, rfl, fun fs h => by simp [ty9] at h, fun _ => by trivial, by decide⟩, ⟨_, Try.underlying9, by decide⟩, fun fields h => by rw [Try.underlying9] at h; simp at h⟩
theorem ty10 : tys 10 = ⟨.str, 1, 16, [.s ⟨#[]⟩]⟩ := rfl
theorem ok10 : TyOk Try.prog 10 (tys 10) := ⟨⟨Try.t10, Try.type10, rfl, rfl, _, rfl, rfl, fun fs h => by simp [ty10] at h, fun _ => by trivial, by decide⟩, ⟨_, Try.underlying10, by decide⟩, fun fields h => by rw [Try.underlying10] at h; simp at h⟩
theorem ty11 : tys 11 = ⟨.str, 1, 16, [.s ⟨#[]⟩]⟩ := rfl
theorem ok11 : TyOk Try.prog 11 (tys 11) := ⟨⟨Try.t11, Try.type11, rfl, rfl, _, rfl, rfl, fun fs h => by simp [ty11] at h, fun _ => by trivial, by decide⟩, ⟨_, Try.underlying11, by decide⟩, fun fields h => by rw [Try.underlying11] at h; simp at h⟩
theorem ty12 : tys 12 = ⟨.int .u64, 1, 8, [.i .u64 0]⟩ := rfl
theorem ok12 : TyOk Try.prog 12 (tys 12) := ⟨⟨Try.t12, Try.type12, rfl, rfl, _, rfl, rfl, fun fs h => by simp [ty12] at h, fun _ => by trivial, by decide⟩, ⟨_, Try.underlying12, by decide⟩, fun fields h => by rw [Try.underlying12] at h; simp at h⟩
theorem ty15 : tys 15 = ⟨.ptr, 1, 8, [.nilP]⟩ := rfl
theorem ok15 : TyOk Try.prog 15 (tys 15) := ⟨⟨Try.t15, Try.type15, rfl, rfl, _, rfl, rfl, fun fs h => by simp [ty15] at h, fun _ => by trivial, by decide⟩, ⟨_, Try.underlying15, by decide⟩, fun fields h => by rw [Try.underlying15] at h; simp at h⟩
theorem ty16 : tys 16 = ⟨.ptr, 1, 8, [.nilP]⟩ := rfl
theorem ok16 : TyOk Try.prog 16 (tys 16) := ⟨⟨Try.t16, Try.type16, rfl, rfl, _, rfl, rfl, fun fs h => by simp [ty16] at h, fun _ => by trivial, by decide⟩, ⟨_, Try.underlying16, by decide⟩, fun fields h => by rw [Try.underlying16] at h; simp at h⟩
theorem ty17 : tys 17 = ⟨.ptr, 1, 8, [.nilP]⟩ := rfl
theorem ok17 : TyOk Try.prog 17 (tys 17) := ⟨⟨Try.t17, Try.type17, rfl, rfl, _, rfl, rfl, fun fs h => by simp [ty17] at h, fun _ => by trivial, by decide⟩, ⟨_, Try.underlying17, by decide⟩, fun fields h => by rw [Try.underlying17] at h; simp at h⟩
theorem ty21 : tys 21 = ⟨.int .i32, 1, 4, [.i .i32 0]⟩ := rfl
theorem ok21 : TyOk Try.prog 21 (tys 21) := ⟨⟨Try.t21, Try.type21, rfl, rfl, _, rfl, rfl, fun fs h => by simp [ty21] at h, fun _ => by trivial, by decide⟩, ⟨_, Try.underlying21, by decide⟩, fun fields h => by rw [Try.underlying21] at h; simp at h⟩
theorem ty22 : tys 22 = ⟨.slice 50, 1, 24, [.nilS]⟩ := rfl
theorem ok22 : TyOk Try.prog 22 (tys 22) := ⟨⟨Try.t22, Try.type22, rfl, rfl, _, rfl, rfl, fun fs h => by simp [ty22] at h, fun _ => by trivial, by decide⟩, ⟨_, Try.underlying22, by decide⟩, fun fields h => by rw [Try.underlying22] at h; simp at h⟩
theorem ty23 : tys 23 = ⟨.slice 37, 1, 24, [.nilS]⟩ := rfl
theorem ok23 : TyOk Try.prog 23 (tys 23) := ⟨⟨Try.t23, Try.type23, rfl, rfl, _, rfl, rfl, fun fs h => by simp [ty23] at h, fun _ => by trivial, by decide⟩, ⟨_, Try.underlying23, by decide⟩, fun fields h => by rw [Try.underlying23] at h; simp at h⟩
theorem ty24 : tys 24 = ⟨.slice 3, 1, 24, [.nilS]⟩ := rfl
theorem ok24 : TyOk Try.prog 24 (tys 24) := ⟨⟨Try.t24, Try.type24, rfl, rfl, _, rfl, rfl, fun fs h => by simp [ty24] at h, fun _ => by trivial, by decide⟩, ⟨_, Try.underlying24, by decide⟩, fun fields h => by rw [Try.underlying24] at h; simp at h⟩
theorem ty25 : tys 25 = ⟨.struct [(22, 0), (23, 1), (24, 2)], 3, 72, [.nilS, .nilS, .nilS]⟩ := rfl
theorem ok25 : TyOk Try.prog 25 (tys 25) := ⟨⟨Try.t25, Try.type25, rfl, rfl, _, rfl, rfl, fun fs _ => ⟨_, rfl⟩, fun h => by exfalso; exact h _ rfl, by decide⟩, ⟨_, Try.underlying25, by decide⟩, fun fields h => by rw [Try.underlying25] at h; simp only [Option.some.injEq, TypeDesc.struct.injEq] at h; subst h; exact ⟨by decide, Try.stoodInHeld25, Try.eqGuardType25⟩⟩
theorem ty26 : tys 26 = ⟨.struct [(22, 0), (23, 1), (24, 2)], 3, 72, [.nilS, .nilS, .nilS]⟩ := rfl
theorem ok26 : TyOk Try.prog 26 (tys 26) := ⟨⟨Try.t26, Try.type26, rfl, rfl, _, rfl, rfl, fun fs _ => ⟨_, rfl⟩, fun h => by exfalso; exact h _ rfl, by decide⟩, ⟨_, Try.underlying26, by decide⟩, fun fields h => by rw [Try.underlying26] at h; simp only [Option.some.injEq, TypeDesc.struct.injEq] at h; subst h; exact ⟨by decide, Try.stoodInHeld26, Try.eqGuardType26⟩⟩
theorem ty28 : tys 28 = ⟨.int .i64, 1, 8, [.i .i64 0]⟩ := rfl
theorem ok28 : TyOk Try.prog 28 (tys 28) := ⟨⟨Try.t28, Try.type28, rfl, rfl, _, rfl, rfl, fun fs h => by simp [ty28] at h, fun _ => by trivial, by decide⟩, ⟨_, Try.underlying28, by decide⟩, fun fields h => by rw [Try.underlying28] at h; simp at h⟩
theorem ty31 : tys 31 = ⟨.slice 33, 1, 24, [.nilS]⟩ := rfl
theorem ok31 : TyOk Try.prog 31 (tys 31) := ⟨⟨Try.t31, Try.type31, rfl, rfl, _, rfl, rfl, fun fs h => by simp [ty31] at h, fun _ => by trivial, by decide⟩, ⟨_, Try.underlying31, by decide⟩, fun fields h => by rw [Try.underlying31] at h; simp at h⟩
theorem ty32 : tys 32 = ⟨.struct [(3, 0), (9, 1), (3, 2), (31, 3)], 4, 56, [.i .i64 0, .s ⟨#[]⟩, .i .i64 0, .nilS]⟩ := rfl
theorem ok32 : TyOk Try.prog 32 (tys 32) := ⟨⟨Try.t32, Try.type32, rfl, rfl, _, rfl, rfl, fun fs _ => ⟨_, rfl⟩, fun h => by exfalso; exact h _ rfl, by decide⟩, ⟨_, Try.underlying32, by decide⟩, fun fields h => by rw [Try.underlying32] at h; simp only [Option.some.injEq, TypeDesc.struct.injEq] at h; subst h; exact ⟨by decide, Try.stoodInHeld32, Try.eqGuardType32⟩⟩
theorem ty33 : tys 33 = ⟨.struct [(3, 0), (9, 1), (3, 2), (31, 3)], 4, 56, [.i .i64 0, .s ⟨#[]⟩, .i .i64 0, .nilS]⟩ := rfl
theorem ok33 : TyOk Try.prog 33 (tys 33) := ⟨⟨Try.t33, Try.type33, rfl, rfl, _, rfl, rfl, fun fs _ => ⟨_, rfl⟩, fun h => by exfalso; exact h _ rfl, by decide⟩, ⟨_, Try.underlying33, by decide⟩, fun fields h => by rw [Try.underlying33] at h; simp only [Option.some.injEq, TypeDesc.struct.injEq] at h; subst h; exact ⟨by decide, Try.stoodInHeld33, Try.eqGuardType33⟩⟩
theorem ty34 : tys 34 = ⟨.struct [(3, 0), (3, 1)], 2, 16, [.i .i64 0, .i .i64 0]⟩ := rfl
theorem ok34 : TyOk Try.prog 34 (tys 34) := ⟨⟨Try.t34, Try.type34, rfl, rfl, _, rfl, rfl, fun fs _ => ⟨_, rfl⟩, fun h => by exfalso; exact h _ rfl, by decide⟩, ⟨_, Try.underlying34, by decide⟩, fun fields h => by rw [Try.underlying34] at h; simp only [Option.some.injEq, TypeDesc.struct.injEq] at h; subst h; exact ⟨by decide, Try.stoodInHeld34, Try.eqGuardType34⟩⟩
theorem ty35 : tys 35 = ⟨.struct [(3, 0), (3, 1)], 2, 16, [.i .i64 0, .i .i64 0]⟩ := rfl
theorem ok35 : TyOk Try.prog 35 (tys 35) := ⟨⟨Try.t35, Try.type35, rfl, rfl, _, rfl, rfl, fun fs _ => ⟨_, rfl⟩, fun h => by exfalso; exact h _ rfl, by decide⟩, ⟨_, Try.underlying35, by decide⟩, fun fields h => by rw [Try.underlying35] at h; simp only [Option.some.injEq, TypeDesc.struct.injEq] at h; subst h; exact ⟨by decide, Try.stoodInHeld35, Try.eqGuardType35⟩⟩
theorem ty36 : tys 36 = ⟨.struct [(33, 0), (35, 4)], 6, 72, [.i .i64 0, .s ⟨#[]⟩, .i .i64 0, .nilS, .i .i64 0, .i .i64 0]⟩ := rfl
theorem ok36 : TyOk Try.prog 36 (tys 36) := ⟨⟨Try.t36, Try.type36, rfl, rfl, _, rfl, rfl, fun fs _ => ⟨_, rfl⟩, fun h => by exfalso; exact h _ rfl, by decide⟩, ⟨_, Try.underlying36, by decide⟩, fun fields h => by rw [Try.underlying36] at h; simp only [Option.some.injEq, TypeDesc.struct.injEq] at h; subst h; exact ⟨by decide, Try.stoodInHeld36, Try.eqGuardType36⟩⟩
theorem ty37 : tys 37 = ⟨.struct [(33, 0), (35, 4)], 6, 72, [.i .i64 0, .s ⟨#[]⟩, .i .i64 0, .nilS, .i .i64 0, .i .i64 0]⟩ := rfl
theorem ok37 : TyOk Try.prog 37 (tys 37) := ⟨⟨Try.t37, Try.type37, rfl, rfl, _, rfl, rfl, fun fs _ => ⟨_, rfl⟩, fun h => by exfalso; exact h _ rfl, by decide⟩, ⟨_, Try.underlying37, by decide⟩, fun fields h => by rw [Try.underlying37] at h; simp only [Option.some.injEq, TypeDesc.struct.injEq] at h; subst h; exact ⟨by decide, Try.stoodInHeld37, Try.eqGuardType37⟩⟩
theorem ty49 : tys 49 = ⟨.struct [(3, 0), (37, 1)], 7, 80, [.i .i64 0, .i .i64 0, .s ⟨#[]⟩, .i .i64 0, .nilS, .i .i64 0, .i .i64 0]⟩ := rfl
theorem ok49 : TyOk Try.prog 49 (tys 49) := ⟨⟨Try.t49, Try.type49, rfl, rfl, _, rfl, rfl, fun fs _ => ⟨_, rfl⟩, fun h => by exfalso; exact h _ rfl, by decide⟩, ⟨_, Try.underlying49, by decide⟩, fun fields h => by rw [Try.underlying49] at h; simp only [Option.some.injEq, TypeDesc.struct.injEq] at h; subst h; exact ⟨by decide, Try.stoodInHeld49, Try.eqGuardType49⟩⟩
theorem ty50 : tys 50 = ⟨.struct [(3, 0), (37, 1)], 7, 80, [.i .i64 0, .i .i64 0, .s ⟨#[]⟩, .i .i64 0, .nilS, .i .i64 0, .i .i64 0]⟩ := rfl
theorem ok50 : TyOk Try.prog 50 (tys 50) := ⟨⟨Try.t50, Try.type50, rfl, rfl, _, rfl, rfl, fun fs _ => ⟨_, rfl⟩, fun h => by exfalso; exact h _ rfl, by decide⟩, ⟨_, Try.underlying50, by decide⟩, fun fields h => by rw [Try.underlying50] at h; simp only [Option.some.injEq, TypeDesc.struct.injEq] at h; subst h; exact ⟨by decide, Try.stoodInHeld50, Try.eqGuardType50⟩⟩
theorem ty56 : tys 56 = ⟨.map 58 4, 1, 8, [.nilM]⟩ := rfl
theorem ok56 : TyOk Try.prog 56 (tys 56) := ⟨⟨Try.t56, Try.type56, rfl, rfl, _, rfl, rfl, fun fs h => by simp [ty56] at h, fun _ => by trivial, by decide⟩, ⟨_, Try.underlying56, by decide⟩, fun fields h => by rw [Try.underlying56] at h; simp at h⟩
theorem ty57 : tys 57 = ⟨.struct [(9, 0), (35, 1)], 3, 32, [.s ⟨#[]⟩, .i .i64 0, .i .i64 0]⟩ := rfl
theorem ok57 : TyOk Try.prog 57 (tys 57) := ⟨⟨Try.t57, Try.type57, rfl, rfl, _, rfl, rfl, fun fs _ => ⟨_, rfl⟩, fun h => by exfalso; exact h _ rfl, by decide⟩, ⟨_, Try.underlying57, by decide⟩, fun fields h => by rw [Try.underlying57] at h; simp only [Option.some.injEq, TypeDesc.struct.injEq] at h; subst h; exact ⟨by decide, Try.stoodInHeld57, Try.eqGuardType57⟩⟩
theorem ty58 : tys 58 = ⟨.struct [(9, 0), (35, 1)], 3, 32, [.s ⟨#[]⟩, .i .i64 0, .i .i64 0]⟩ := rfl
theorem ok58 : TyOk Try.prog 58 (tys 58) := ⟨⟨Try.t58, Try.type58, rfl, rfl, _, rfl, rfl, fun fs _ => ⟨_, rfl⟩, fun h => by exfalso; exact h _ rfl, by decide⟩, ⟨_, Try.underlying58, by decide⟩, fun fields h => by rw [Try.underlying58] at h; simp only [Option.some.injEq, TypeDesc.struct.injEq] at h; subst h; exact ⟨by decide, Try.stoodInHeld58, Try.eqGuardType58⟩⟩
theorem ty67 : tys 67 = ⟨.int .u64, 1, 8, [.i .u64 0]⟩ := rfl
theorem ok67 : TyOk Try.prog 67 (tys 67) := ⟨⟨Try.t67, Try.type67, rfl, rfl, _, rfl, rfl, fun fs h => by simp [ty67] at h, fun _ => by trivial, by decide⟩, ⟨_, Try.underlying67, by decide⟩, fun fields h => by rw [Try.underlying67] at h; simp at h⟩
theorem ty73 : tys 73 = ⟨.ptr, 1, 8, [.nilP]⟩ := rfl
theorem ok73 : TyOk Try.prog 73 (tys 73) := ⟨⟨Try.t73, Try.type73, rfl, rfl, _, rfl, rfl, fun fs h => by simp [ty73] at h, fun _ => by trivial, by decide⟩, ⟨_, Try.underlying73, by decide⟩, fun fields h => by rw [Try.underlying73] at h; simp at h⟩
theorem ty74 : tys 74 = ⟨.slice 9, 1, 24, [.nilS]⟩ := rfl
theorem ok74 : TyOk Try.prog 74 (tys 74) := ⟨⟨Try.t74, Try.type74, rfl, rfl, _, rfl, rfl, fun fs h => by simp [ty74] at h, fun _ => by trivial, by decide⟩, ⟨_, Try.underlying74, by decide⟩, fun fields h => by rw [Try.underlying74] at h; simp at h⟩
theorem ty79 : tys 79 = ⟨.int .i64, 1, 8, [.i .i64 0]⟩ := rfl
theorem ok79 : TyOk Try.prog 79 (tys 79) := ⟨⟨Try.t79, Try.type79, rfl, rfl, _, rfl, rfl, fun fs h => by simp [ty79] at h, fun _ => by trivial, by decide⟩, ⟨_, Try.underlying79, by decide⟩, fun fields h => by rw [Try.underlying79] at h; simp at h⟩
theorem ty87 : tys 87 = ⟨.int .u32, 1, 4, [.i .u32 0]⟩ := rfl
theorem ok87 : TyOk Try.prog 87 (tys 87) := ⟨⟨Try.t87, Try.type87, rfl, rfl, _, rfl, rfl, fun fs h => by simp [ty87] at h, fun _ => by trivial, by decide⟩, ⟨_, Try.underlying87, by decide⟩, fun fields h => by rw [Try.underlying87] at h; simp at h⟩
theorem ty89 : tys 89 = ⟨.int .u64, 1, 8, [.i .u64 0]⟩ := rfl
theorem ok89 : TyOk Try.prog 89 (tys 89) := ⟨⟨Try.t89, Try.type89, rfl, rfl, _, rfl, rfl, fun fs h => by simp [ty89] at h, fun _ => by trivial, by decide⟩, ⟨_, Try.underlying89, by decide⟩, fun fields h => by rw [Try.underlying89] at h; simp at h⟩
theorem ty93 : tys 93 = ⟨.slice 5, 1, 24, [.nilS]⟩ := rfl
theorem ok93 : TyOk Try.prog 93 (tys 93) := ⟨⟨Try.t93, Try.type93, rfl, rfl, _, rfl, rfl, fun fs h => by simp [ty93] at h, fun _ => by trivial, by decide⟩, ⟨_, Try.underlying93, by decide⟩, fun fields h => by rw [Try.underlying93] at h; simp at h⟩
theorem ty96 : tys 96 = ⟨.map 9 4, 1, 8, [.nilM]⟩ := rfl
theorem ok96 : TyOk Try.prog 96 (tys 96) := ⟨⟨Try.t96, Try.type96, rfl, rfl, _, rfl, rfl, fun fs h => by simp [ty96] at h, fun _ => by trivial, by decide⟩, ⟨_, Try.underlying96, by decide⟩, fun fields h => by rw [Try.underlying96] at h; simp at h⟩
theorem ty102 : tys 102 = ⟨.int .u64, 1, 8, [.i .u64 0]⟩ := rfl
theorem ok102 : TyOk Try.prog 102 (tys 102) := ⟨⟨Try.t102, Try.type102, rfl, rfl, _, rfl, rfl, fun fs h => by simp [ty102] at h, fun _ => by trivial, by decide⟩, ⟨_, Try.underlying102, by decide⟩, fun fields h => by rw [Try.underlying102] at h; simp at h⟩
theorem ty111 : tys 111 = ⟨.ptr, 1, 8, [.nilP]⟩ := rfl
theorem ok111 : TyOk Try.prog 111 (tys 111) := ⟨⟨Try.t111, Try.type111, rfl, rfl, _, rfl, rfl, fun fs h => by simp [ty111] at h, fun _ => by trivial, by decide⟩, ⟨_, Try.underlying111, by decide⟩, fun fields h => by rw [Try.underlying111] at h; simp at h⟩
theorem ty132 : tys 132 = ⟨.int .u8, 1, 1, [.i .u8 0]⟩ := rfl
theorem ok132 : TyOk Try.prog 132 (tys 132) := ⟨⟨Try.t132, Try.type132, rfl, rfl, _, rfl, rfl, fun fs h => by simp [ty132] at h, fun _ => by trivial, by decide⟩, ⟨_, Try.underlying132, by decide⟩, fun fields h => by rw [Try.underlying132] at h; simp at h⟩
theorem ty133 : tys 133 = ⟨.int .u8, 1, 1, [.i .u8 0]⟩ := rfl
theorem ok133 : TyOk Try.prog 133 (tys 133) := ⟨⟨Try.t133, Try.type133, rfl, rfl, _, rfl, rfl, fun fs h => by simp [ty133] at h, fun _ => by trivial, by decide⟩, ⟨_, Try.underlying133, by decide⟩, fun fields h => by rw [Try.underlying133] at h; simp at h⟩
theorem ty135 : tys 135 = ⟨.ptr, 1, 8, [.nilP]⟩ := rfl
theorem ok135 : TyOk Try.prog 135 (tys 135) := ⟨⟨Try.t135, Try.type135, rfl, rfl, _, rfl, rfl, fun fs h => by simp [ty135] at h, fun _ => by trivial, by decide⟩, ⟨_, Try.underlying135, by decide⟩, fun fields h => by rw [Try.underlying135] at h; simp at h⟩
theorem ty136 : tys 136 = ⟨.int .i32, 1, 4, [.i .i32 0]⟩ := rfl
theorem ok136 : TyOk Try.prog 136 (tys 136) := ⟨⟨Try.t136, Try.type136, rfl, rfl, _, rfl, rfl, fun fs h => by simp [ty136] at h, fun _ => by trivial, by decide⟩, ⟨_, Try.underlying136, by decide⟩, fun fields h => by rw [Try.underlying136] at h; simp at h⟩
theorem ty137 : tys 137 = ⟨.int .i32, 1, 4, [.i .i32 0]⟩ := rfl
theorem ok137 : TyOk Try.prog 137 (tys 137) := ⟨⟨Try.t137, Try.type137, rfl, rfl, _, rfl, rfl, fun fs h => by simp [ty137] at h, fun _ => by trivial, by decide⟩, ⟨_, Try.underlying137, by decide⟩, fun fields h => by rw [Try.underlying137] at h; simp at h⟩

theorem sig : Sig Try.prog tys := by
  intro t h
  unfold tys at h
  split at h
  · exact ok2
  · exact ok3
  · exact ok4
  · exact ok5
  · exact ok6
  · exact ok7
  · exact ok8
  · exact ok9
  · exact ok10
  · exact ok11
  · exact ok12
  · exact ok15
  · exact ok16
  · exact ok17
  · exact ok21
  · exact ok22
  · exact ok23
  · exact ok24
  · exact ok25
  · exact ok26
  · exact ok28
  · exact ok31
  · exact ok32
  · exact ok33
  · exact ok34
  · exact ok35
  · exact ok36
  · exact ok37
  · exact ok49
  · exact ok50
  · exact ok56
  · exact ok57
  · exact ok58
  · exact ok67
  · exact ok73
  · exact ok74
  · exact ok79
  · exact ok87
  · exact ok89
  · exact ok93
  · exact ok96
  · exact ok102
  · exact ok111
  · exact ok132
  · exact ok133
  · exact ok135
  · exact ok136
  · exact ok137
  · exact absurd rfl h

end Go.L1.Try
