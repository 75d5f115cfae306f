/-
  AccrualNames: the walk of the law.
-/
import Derived.Test.YtmlgaikabnbghaaAccD
namespace Go.Proofs.Ytmlgaikabnbghaa
open Go.RowKit

theorem bel_alloc {w0 w : World} {o : Obj} (h : Below w0.heap.size w0 w) : Below w0.heap.size w0 (w.alloc o) := h.alloc h.size o
theorem begin_nil (now : Int) (w : World) : Calls Try.prog 16 #[.pointer none, .int .i64 now] w fun e w' => e = .returned (.tuple #[]) ∧ w = w' := by
  go_enter Try.func16, Try.ntmps16
  go_wp2
  go_end0
  exact ⟨rfl, rfl⟩
theorem heard_nil (now : Int) (w : World) : Calls Try.prog 13 #[.pointer none, .int .i64 now] w fun e w' => e = .returned (.tuple #[]) ∧ w = w' := by
  go_enter Try.func13, Try.ntmps13
  go_wp2
  exact bodyPost_ret (v := .tuple #[]) (by simp [results, Try.results13, go_sem]) rfl ⟨rfl, rfl⟩
theorem limit_nil (w : World) : Calls Try.prog 12 #[.pointer none] w fun e w' => e = .returned (.int .i64 0) ∧ w = w' := by
  go_enter Try.func12, Try.ntmps12
  go_wp2
  go_ret
  exact ⟨rfl, rfl⟩
theorem copy_nil (w : World) : Calls Try.prog 17 #[.pointer none] w fun e w' => e = .returned (.pointer none) ∧ w = w' := by
  go_enter Try.func17, Try.ntmps17
  go_wp2
  go_ret
  exact ⟨rfl, rfl⟩
theorem late_nil (now : Int) (w : World) : Calls Try.prog 14 #[.pointer none, .int .i64 now] w (Tells (.bool false) w) := by
  go_enter Try.func14, Try.ntmps14
  go_wp2
  go_quiet (fail)
  go_wp2
  go_ret
  exact ⟨ret_bool rfl, _, rfl⟩
theorem late_nil_below (now : Int) (w0 w : World) (h : Below w0.heap.size w0 w) : Calls Try.prog 14 #[.pointer none, .int .i64 now] w fun e w' => e = .returned (.bool false) ∧ Below w0.heap.size w0 w' :=
  (late_nil now w).mono fun e w' ⟨he, k, hk⟩ => ⟨he, by subst hk; exact h.trans (Keep.below ((Keep.refl (fun _ => False) w).drewN k) h.size (fun _ h => h.elim))⟩

set_option maxRecDepth 100000 in
set_option maxHeartbeats 2000000 in
theorem names_walk (w : World) : Calls Try.prog 7 #[] w fun e w' => e = .returned (.bool true) ∧ Below w.heap.size w w' := by
  go_enter Try.func7, Try.ntmps7
  go_wp2_with fail
  refine (begin_nil _ _).mono ?_
  rintro e w1 ⟨rfl, rfl⟩
  go_wp2_with fail
  refine (heard_nil _ _).mono ?_
  rintro e w1 ⟨rfl, rfl⟩
  go_wp2_with fail
  refine (works_any w).mono ?_
  rintro e w1 ⟨rfl, h1⟩
  go_wp2_with fail
  refine (limit_nil _).mono ?_
  rintro e w2 ⟨rfl, rfl⟩
  go_wp2_with fail
  refine (late_nil_below _ _ _ h1).mono ?_
  clear h1
  rintro e w2 ⟨rfl, h2⟩
  go_wp2_with fail
  refine (copy_nil _).mono ?_
  rintro e w3 ⟨rfl, rfl⟩
  go_wp2
  refine wp_loop_rounds 7 ?_
  rw [rounds_succ]
  go_wp2_with fail
  refine (new_bad _ _ _ _ (by decide)).mono ?_; rintro e w3 ⟨rfl, rfl⟩
  go_wp2_with fail
  rw [rounds_succ]
  go_wp2_with fail
  refine (new_bad _ _ _ _ (by decide)).mono ?_; rintro e w3 ⟨rfl, rfl⟩
  go_wp2_with fail
  rw [rounds_succ]
  go_wp2_with fail
  refine (new_bad _ _ _ _ (by decide)).mono ?_; rintro e w3 ⟨rfl, rfl⟩
  go_wp2_with fail
  rw [rounds_succ]
  go_wp2_with fail
  refine (new_bad _ _ _ _ (by decide)).mono ?_; rintro e w3 ⟨rfl, rfl⟩
  go_wp2_with fail
  rw [rounds_succ]
  go_wp2_with fail
  refine (new_bad _ _ _ _ (by decide)).mono ?_; rintro e w3 ⟨rfl, rfl⟩
  go_wp2_with fail
  rw [rounds_succ]
  go_wp2_with fail
  refine (new_bad _ _ _ _ (by decide)).mono ?_; rintro e w3 ⟨rfl, rfl⟩
  go_wp2_with fail
  rw [rounds_succ]
  go_wp2_with fail
  refine (now_new (w0 := w) ?hB 1 4096 4096 (by unfold MayNew; decide)).mono ?_
  case hB => exact bel_alloc (bel_alloc (bel_alloc (bel_alloc (bel_alloc (bel_alloc (bel_alloc h2))))))
  rintro e w3 ⟨rfl, h3⟩
  simp only [World.size_alloc] at h3
  go_wp2_with fail
  refine (now_heard h3 _).mono ?_
  clear h3
  rintro e w4 ⟨rfl, h4⟩
  go_wp2_with fail
  refine (now_late h4 _ false (by decide)).mono ?_
  clear h4
  rintro e w5 ⟨rfl, h5⟩
  go_wp2_with fail
  refine (now_late h5 _ true (by decide)).mono ?_
  clear h5
  rintro e w4 ⟨rfl, h4⟩
  go_wp2_with fail
  refine (now_begin h4 _).mono ?_
  clear h4
  rintro e w5 ⟨rfl, h5⟩
  go_wp2_with fail
  refine (now_heard h5 _).mono ?_
  clear h5
  rintro e w4 ⟨rfl, h4⟩
  go_wp2_with fail
  refine (now_heard h4 _).mono ?_
  clear h4
  rintro e w5 ⟨rfl, h5⟩
  go_wp2_with fail
  refine (now_limit h5 7 (by decide)).mono ?_
  clear h5
  rintro e w4 ⟨rfl, h4⟩
  go_wp2_with fail
  refine (now_late h4 _ false (by decide)).mono ?_
  clear h4
  rintro e w5 ⟨rfl, h5⟩
  go_wp2_with fail
  refine (now_late h5 _ true (by decide)).mono ?_
  clear h5
  rintro e w4 ⟨rfl, h4⟩
  go_wp2_with fail
  refine (now_late h4 _ false (by decide)).mono ?_
  clear h4
  rintro e w5 ⟨rfl, h5⟩
  go_wp2_with fail
  refine (now_heard h5 _).mono ?_
  clear h5
  rintro e w4 ⟨rfl, h4⟩
  go_wp2_with fail
  refine (now_limit h4 4096 (by decide)).mono ?_
  clear h4
  rintro e w5 ⟨rfl, h5⟩
  go_wp2_with fail
  refine (now_late h5 _ false (by decide)).mono ?_
  clear h5
  rintro e w4 ⟨rfl, h4⟩
  go_wp2
  go_ret
  exact ⟨rfl, h4.old⟩

theorem walkAccrualNames {w : World} : Calls Try.prog 7 #[] w fun e w' => e = .returned (.bool true) ∧ Below w.heap.size w w' := names_walk w
end Go.Proofs.Ytmlgaikabnbghaa
