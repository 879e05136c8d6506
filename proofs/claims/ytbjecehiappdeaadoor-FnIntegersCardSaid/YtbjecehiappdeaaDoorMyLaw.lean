/- The walk of the law FnExactParseInt, over what its two callees answer. -/
import Derived.Test.YtbjecehiappdeaaDoorMyWalk
namespace Go.Proofs.YtbjecehiappdeaaDoor.MyLaw
open Go.RowKit Go.Lib Go.Proofs.YtbjecehiappdeaaDoorW.PrintWords Go.Proofs.YtbjecehiappdeaaDoorW.PrintLast Go.Proofs.YtbjecehiappdeaaDoorW.PrintMore
open Go.Proofs.YtbjecehiappdeaaDoor.MySpec
set_option maxHeartbeats 8000000
set_option maxRecDepth 100000 in
theorem law_big (s : ByteArray) (h : 1048576 < s.size) (w : World) : Calls Tryd.prog 3 #[.string s] w fun e w' => e = .returned (.bool true) ∧ Below w.heap.size w w' := by
  have c1 : decide ((1048576 : Int) < (s.size : Int)) = true := decide_eq_true (by omega)
  have c2 : ((1048576 : Int) < (s.size : Int)) = True := eq_true (by omega)
  have c3 : (1048576 < s.size) = True := eq_true h
  go_enter Tryd.func3, Tryd.ntmps3
  go_wp2
  go_ret
  exact ⟨by first | rfl | simp, by repeat (first | exact Below.refl _ _ | apply below_drew1)⟩
set_option maxRecDepth 100000 in
theorem law_walk (s : ByteArray) (h : s.size ≤ 1048576) (k : Nat) (m : Int) (b : Bool) (hs : spec_ParseInt.f k s = some (m, b)) (w : World)
    (hi : ∀ w1, Below w.heap.size w w1 → Calls Tryd.prog 6 #[.string s] w1 fun e w' => e = .returned (.tuple #[.int .i64 m, .bool b]) ∧ Below w1.heap.size w1 w') :
    Calls Tryd.prog 3 #[.string s] w fun e w' => e = .returned (.bool true) ∧ Below w.heap.size w w' := by
  have c1 : decide ((1048576 : Int) < (s.size : Int)) = false := decide_eq_false (by omega)
  have c2 : ((1048576 : Int) < (s.size : Int)) = False := eq_false (by omega)
  have c3 : (1048576 < s.size) = False := eq_false (by omega)
  have HS := Aside0.mk hs
  have HI := Aside0.mk hi
  clear hs hi
  go_enter Tryd.func3, Tryd.ntmps3
  go_wp2_with (first | (go_at_call 5; refine (spec_ParseInt.calls k s m b _ HS.out).mono ?_; rintro e w1 ⟨rfl, hb⟩; have HB := Aside0.mk hb; clear hb) | (go_at_call 6; refine (HI.out _ (by repeat (first | exact HB.out | apply pw_below_drewN | apply below_drew1))).mono ?_; rintro e w2 ⟨rfl, hb⟩; have n_ := Aside0.mk (below_step (by repeat (first | exact HB.out | apply pw_below_drewN | apply below_drew1)) hb); clear HB hb; have HB := n_; clear n_))
  repeat (go_quiet (fail); try go_wp2)
  go_ret
  exact ⟨by first | rfl | simp, by repeat (first | exact HB.out | apply pw_below_drewN | apply below_drew1)⟩
end Go.Proofs.YtbjecehiappdeaaDoor.MyLaw
