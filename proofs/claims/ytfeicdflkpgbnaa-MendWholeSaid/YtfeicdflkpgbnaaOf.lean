/-
  Proved: which functions the three methods Len, Less and Swap of the queue are, and what Len tells. Conditions: those that each theorem lists ahead of its colon, and no others.
-/
import Derived.Test.YtfeicdflkpgbnaaOe
import Derived.Stop.Asserts
import Derived.Laws.Cover3
namespace Go.Proofs.Ytfeicdflkpgbnaa
open Go.RowKit

@[go_sem] theorem mkI81 (x : Value) (w : World) : (Instr.makeInterface 81 x).run Try.prog w = .ok (.iface 81 x) w := run_makeInterface w 81 x (by kernel_rfl)
@[go_sem] theorem mkI45 (x : Value) (w : World) : (Instr.makeInterface 45 x).run Try.prog w = .ok (.iface 45 x) w := run_makeInterface w 45 x (by kernel_rfl)
@[go_sem] theorem as45 (v : Value) (w : World) : (Instr.typeAssert (.iface 45 v) 20 45 false).run Try.prog w = .ok v w := by kernel_rfl
@[go_sem] theorem as45ok (v : Value) (w : World) : (Instr.typeAssert (.iface 45 v) 20 45 true).run Try.prog w = .ok (.tuple #[v, .bool true]) w := by kernel_rfl
theorem methLen (a : Addr) (w : World) : (method 267 81 (.pointer (some a)) "Len").run Try.prog w = (loadVar 82 a >>= fun v => pure (33, v)).run Try.prog w := by kernel_rfl
theorem methLess (a : Addr) (w : World) : (method 267 81 (.pointer (some a)) "Less").run Try.prog w = (loadVar 82 a >>= fun v => pure (97, v)).run Try.prog w := by kernel_rfl
theorem methSwap (a : Addr) (w : World) : (method 267 81 (.pointer (some a)) "Swap").run Try.prog w = (loadVar 82 a >>= fun v => pure (100, v)).run Try.prog w := by kernel_rfl
@[go_sem] theorem methPush (a : Addr) (w : World) : (method 267 81 (.pointer (some a)) "Push").run Try.prog w = .ok (99, .pointer (some a)) w := by kernel_rfl
@[go_sem] theorem methPop (a : Addr) (w : World) : (method 267 81 (.pointer (some a)) "Pop").run Try.prog w = .ok (98, .pointer (some a)) w := by kernel_rfl
theorem mLen {a : Addr} {v : Value} {w : World} (h : w.cell? a = some v) : (method 267 81 (.pointer (some a)) "Len").run Try.prog w = .ok (33, v) w := by
  rw [methLen]
  go_simp
theorem mLess {a : Addr} {v : Value} {w : World} (h : w.cell? a = some v) : (method 267 81 (.pointer (some a)) "Less").run Try.prog w = .ok (97, v) w := by
  rw [methLess]
  go_simp
theorem mSwap {a : Addr} {v : Value} {w : World} (h : w.cell? a = some v) : (method 267 81 (.pointer (some a)) "Swap").run Try.prog w = .ok (100, v) w := by
  rw [methSwap]
  go_simp
theorem len33 (A : Option Addr) (n c : Nat) (w : World) : Calls Try.prog 33 #[.slice A n c] w fun e w' => e = .returned (.int .i64 n) ∧ w = w' := by
  go_enter Try.func33, Try.ntmps33
  go_wp2_with fail
  go_ret
  exact ⟨rfl, rfl⟩
end Go.Proofs.Ytfeicdflkpgbnaa
