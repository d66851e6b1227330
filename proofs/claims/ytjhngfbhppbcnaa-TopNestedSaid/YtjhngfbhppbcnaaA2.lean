/- The contracts of the program's area, more of them; registers that are compared. -/
import Derived.Test.YtjhngfbhppbcnaaA1
namespace Go.Proofs.Ytjhngfbhppbcnaa
open Go.RowKit
set_option maxRecDepth 100000

theorem run_equalIn_arr (w : World) (a0 a1 a2 a3 a4 a5 a6 a7 b0 b1 b2 b3 b4 b5 b6 b7 : Int) (d : Nat) :
   (Op.equalIn (d + 2) 33 (.agg #[.int .u16 a0, .int .u16 a1, .int .u16 a2, .int .u16 a3, .int .u16 a4, .int .u16 a5, .int .u16 a6, .int .u16 a7]) (.agg #[.int .u16 b0, .int .u16 b1, .int .u16 b2, .int .u16 b3, .int .u16 b4, .int .u16 b5, .int .u16 b6, .int .u16 b7])).run Try.prog w =
     .ok (a0 == b0 && (a1 == b1 && (a2 == b2 && (a3 == b3 && (a4 == b4 && (a5 == b5 && (a6 == b6 && (a7 == b7)))))))) w := by
  rw [Op.equalIn]
  simp [run_underlying Try.underlying33, go_sem, List.range'_succ]
  by_cases h0 : a0 = b0 <;> by_cases h1 : a1 = b1 <;> by_cases h2 : a2 = b2 <;> by_cases h3 : a3 = b3 <;> simp [h0, h1, h2, h3]
  by_cases h4 : a4 = b4 <;> by_cases h5 : a5 = b5 <;> by_cases h6 : a6 = b6 <;> by_cases h7 : a7 = b7 <;> simp [h4, h5, h6, h7]
theorem ite_ok (c : Bool) (w : World) : (if c = false then Result.ok (Value.bool false) w else Result.ok (Value.bool true) w) = .ok (.bool c) w := by cases c <;> rfl
theorem ite_not (c : Bool) (w : World) : (if c = false then Result.ok (Value.bool true) w else Result.ok (Value.bool false) w) = .ok (.bool (!c)) w := by cases c <;> rfl
theorem run_eql_regs (w : World) (a0 a1 a2 a3 a4 a5 a6 a7 a8 b0 b1 b2 b3 b4 b5 b6 b7 b8 : Int) :
   (binOp .eql 35 (.agg #[.int .u16 a0, .int .u16 a1, .int .u16 a2, .int .u16 a3, .int .u16 a4, .int .u16 a5, .int .u16 a6, .int .u16 a7, .int .u16 a8]) (.agg #[.int .u16 b0, .int .u16 b1, .int .u16 b2, .int .u16 b3, .int .u16 b4, .int .u16 b5, .int .u16 b6, .int .u16 b7, .int .u16 b8])).run Try.prog w =
     .ok (.bool (a0 == b0 && (a1 == b1 && (a2 == b2 && (a3 == b3 && (a4 == b4 && (a5 == b5 && (a6 == b6 && (a7 == b7 && a8 == b8))))))))) w := by
  simp [go_sem, run_equalIn_arr]
  by_cases h0 : a0 = b0
  · subst h0
    simp only [beq_self_eq_true, Bool.true_and, if_true]
    exact ite_ok _ _
  · simp [h0]
theorem run_neq_regs (w : World) (a0 a1 a2 a3 a4 a5 a6 a7 a8 b0 b1 b2 b3 b4 b5 b6 b7 b8 : Int) :
   (binOp .neq 35 (.agg #[.int .u16 a0, .int .u16 a1, .int .u16 a2, .int .u16 a3, .int .u16 a4, .int .u16 a5, .int .u16 a6, .int .u16 a7, .int .u16 a8]) (.agg #[.int .u16 b0, .int .u16 b1, .int .u16 b2, .int .u16 b3, .int .u16 b4, .int .u16 b5, .int .u16 b6, .int .u16 b7, .int .u16 b8])).run Try.prog w =
     .ok (.bool (!(a0 == b0 && (a1 == b1 && (a2 == b2 && (a3 == b3 && (a4 == b4 && (a5 == b5 && (a6 == b6 && (a7 == b7 && a8 == b8)))))))))) w := by
  generalize hc : (a0 == b0 && (a1 == b1 && (a2 == b2 && (a3 == b3 && (a4 == b4 && (a5 == b5 && (a6 == b6 && (a7 == b7 && a8 == b8)))))))) = c
  simp [go_sem, run_equalIn_arr]
  subst hc
  by_cases h0 : a0 = b0
  · subst h0
    simp only [beq_self_eq_true, Bool.true_and, if_true]
    exact ite_not _ _
  · simp [h0]

def upd {α : Type} (f : Nat → α) (k : Nat) (v : α) : Nat → α := fun i => if i = k then v else f i
def killSt (S : St) : St := { S with rg := fun _ => 0, kept := [], dead := true }
def entrySt (S : St) (k : Nat) (at_ : Int) : St := { S with to := upd S.to k at_, has := upd S.has k true }

theorem Try.size102 : (Try.prog.info? 102).map (·.size) = some 21 := by kernel_rfl

set_option maxHeartbeats 1000000 in
theorem entry_ok (w : World) (g : Nat) (S : St) (h : IsA w g S) (k x : Int) (h0 : 0 ≤ k) (h1 : k < 5) :
   Calls Try.prog 14 #[.pointer (some ⟨g, 0, none⟩), .int .u8 k, .int .u16 x] w fun e w' => e = .returned (.int .i64 0) ∧ IsA w' g (entrySt S k.toNat x) ∧ Kept (OneBlk g) w w' := by
  obtain ⟨v, hB, hR, hl⟩ := h
  obtain ⟨rg, kept, to, has, dead⟩ := S
  have hc := hB.cell
  have hf := hB.frozen
  have HB := Lib.hid hB
  have HR := Lib.hid hR
  simp only [arrA] at hc
  clear hB hR
  have hk : k = 0 ∨ k = 1 ∨ k = 2 ∨ k = 3 ∨ k = 4 := by omega
  clear h0 h1
  rcases hk with rfl | rfl | rfl | rfl | rfl
  all_goals
    go_enter Try.func14, Try.ntmps14
    go_wp2
    go_ret
    refine ⟨rfl, ⟨v, Blk.cast (by repeat (with_reducible first | exact HB.out | apply Blk.drew | apply Blk.set_)) (by simp [arrA, entrySt, upd]), HR.out.kept (G := OneBlk g) ?_ (fun b' cs hb' e => (HB.out.ne_ hb' (by decide)) e.symm), hl⟩, ?_⟩
    all_goals repeat (with_reducible first | exact Kept.refl _ _ | apply Kept.drew | apply Kept.alloc | exact oneHit | apply Kept.setCell)

end Go.Proofs.Ytjhngfbhppbcnaa
