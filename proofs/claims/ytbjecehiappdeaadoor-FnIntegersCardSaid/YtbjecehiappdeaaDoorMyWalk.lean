/- The walk of impl.ParseInt, by its four cases. -/
import Derived.Test.YtbjecehiappdeaaDoorMyShelf
import Derived.Test.YtbjecehiappdeaaDoorMyErr
import Derived.Test.YtbjecehiappdeaaDoorMySpec
import Derived.Lib.AppendIntMem
import Derived.WalkKit
namespace Go.Proofs.YtbjecehiappdeaaDoor.MyInt
open Go.RowKit Go.Lib Go.Proofs.YtbjecehiappdeaaDoorW.PrintWords Go.Proofs.YtbjecehiappdeaaDoorW.PrintLast Go.Proofs.YtbjecehiappdeaaDoorW.PrintMore
open Go.Proofs.YtbjecehiappdeaaDoor.MySpec
set_option maxHeartbeats 8000000
set_option maxRecDepth 100000 in
theorem parse_long (s : ByteArray) (h : 13 < s.size) (w : World) : Calls Tryd.prog 6 #[.string s] w fun e w' => e = .returned (.tuple #[.int .i64 0, .bool false]) ∧ Below w.heap.size w w' := by
  have c1 : decide ((13 : Int) < (s.size : Int)) = true := decide_eq_true (by omega)
  have c2 : ((13 : Int) < (s.size : Int)) = True := eq_true (by omega)
  have c3 : (13 < s.size) = True := eq_true h
  go_enter Tryd.func6, Tryd.ntmps6
  go_wp2
  go_ret2
  exact ⟨by first | rfl | simp, by repeat (first | exact Below.refl _ _ | apply below_drew1)⟩
set_option maxRecDepth 100000 in
theorem parse_bad (s : ByteArray) (h : s.size ≤ 13) (ha : Lib.atoi s.data.toList = none) (tp : TypeId) (p : Value) (w : World) (hvar : w.var? Tryd.prog "strconv.ErrSyntax" = some #[.iface tp p]) :
    Calls Tryd.prog 6 #[.string s] w fun e w' => e = .returned (.tuple #[.int .i64 0, .bool false]) ∧ Below w.heap.size w w' := by
  have c1 : decide ((13 : Int) < (s.size : Int)) = false := decide_eq_false (by omega)
  have c2 : ((13 : Int) < (s.size : Int)) = False := eq_false (by omega)
  have c3 : (13 < s.size) = False := eq_false (by omega)
  have hs : s.size ≤ 18 := by omega
  go_enter Tryd.func6, Tryd.ntmps6
  go_wp2_with (go_at_call 16; refine (Tryd.strconv_Atoi_err s hs ha tp p _ hvar).mono ?_; rintro e w1 ⟨N, rfl, hb⟩; have HB := Aside0.mk hb; clear hb)
  repeat (go_quiet (fail); try go_wp2)
  go_ret2
  exact ⟨by first | rfl | simp, by repeat (first | exact HB.out | apply below_drew1)⟩
theorem tab_below {w w' : World} {zs : List Int} (h : Lib.TabIs Tryd.prog w "internal/strconv.uint64pow10" .u64 zs) (hb : Below w.heap.size w w') : Lib.TabIs Tryd.prog w' "internal/strconv.uint64pow10" .u64 zs := by
  unfold Lib.TabIs World.var? at h ⊢
  cases hg : Tryd.prog.globalNamed "internal/strconv.uint64pow10" with
  | none => simp [hg] at h
  | some g =>
    simp only [hg, Option.bind_some] at h ⊢
    have hlt : g < w.heap.size := by
      rcases Nat.lt_or_ge g w.heap.size with h' | h'
      · exact h'
      · simp [Array.getElem?_eq_none h'] at h
    rw [hb.block g hlt]
    exact h
set_option maxRecDepth 100000 in
theorem format_walk (n : Int) (h0 : -9223372036854775808 ≤ n) (h1 : n ≤ 9223372036854775807) (w : World) (htab : Lib.TabIs Tryd.prog w "internal/strconv.uint64pow10" .u64 Lib.pow10Tab) :
    Calls Tryd.prog 10 #[.int .i64 n] w fun e w' => e = .returned (.string ⟨(Lib.itoa n).toArray⟩) ∧ Below w.heap.size w w' := by
  have HT := Aside0.mk htab
  clear htab
  go_enter Tryd.func10, Tryd.ntmps10
  go_wp2_with (go_at_call 23; refine (Tryd.strconv_Itoa n h0 h1 _ HT.out).mono ?_; rintro e w' ⟨rfl, k, os, rfl⟩)
  go_ret
  exact ⟨by first | rfl | simp, below_grow _ _ (Nat.le_refl _) _ _⟩
theorem conv_below (w : World) (t : ByteArray) : Below w.heap.size w (Lib.bytesWorld w 5 t) := bytes_below (Below.refl _ _) (Nat.le_refl _) 5 t
set_option maxRecDepth 100000 in
theorem parse_out (s : ByteArray) (h : s.size ≤ 13) (n : Int) (ha : Lib.atoi s.data.toList = some n) (hr : impl_InRange.f n 0 1000000000000 = some false) (w : World) :
    Calls Tryd.prog 6 #[.string s] w fun e w' => e = .returned (.tuple #[.int .i64 0, .bool false]) ∧ Below w.heap.size w w' := by
  have c1 : decide ((13 : Int) < (s.size : Int)) = false := decide_eq_false (by omega)
  have c2 : ((13 : Int) < (s.size : Int)) = False := eq_false (by omega)
  have c3 : (13 < s.size) = False := eq_false (by omega)
  have hs : s.size ≤ 18 := by omega
  have HR := Aside0.mk hr
  clear hr
  go_enter Tryd.func6, Tryd.ntmps6
  go_wp2_with (first | (go_at_call 16; refine (Tryd.strconv_Atoi s n hs ha _).mono ?_; rintro e w1 ⟨rfl, t_, hw⟩; have HB := Aside0.mk (show Below _ _ w1 from hw ▸ conv_below _ t_); clear hw) | (go_at_call 17; refine (impl_InRange.calls n 0 1000000000000 false _ HR.out).mono ?_; rintro e w2 ⟨rfl, ⟨nd, rfl⟩⟩))
  go_upto_region 5 with (go_at_call 17; refine (impl_InRange.calls n 0 1000000000000 false _ HR.out).mono ?_; rintro e w2 ⟨rfl, ⟨nd, rfl⟩⟩)
  go_ret2
  exact ⟨by first | rfl | simp, by repeat (first | exact HB.out | apply pw_below_drewN | apply below_drew1)⟩
set_option maxRecDepth 100000 in
theorem parse_good (s : ByteArray) (h : s.size ≤ 13) (n : Int) (h0 : -9223372036854775808 ≤ n) (h1 : n ≤ 9223372036854775807) (ha : Lib.atoi s.data.toList = some n) (hr : impl_InRange.f n 0 1000000000000 = some true) (he : (⟨(Lib.itoa n).toArray⟩ : ByteArray) = s) (w : World) (htab : Lib.TabIs Tryd.prog w "internal/strconv.uint64pow10" .u64 Lib.pow10Tab) :
    Calls Tryd.prog 6 #[.string s] w fun e w' => e = .returned (.tuple #[.int .i64 n, .bool true]) ∧ Below w.heap.size w w' := by
  have c1 : decide ((13 : Int) < (s.size : Int)) = false := decide_eq_false (by omega)
  have c2 : ((13 : Int) < (s.size : Int)) = False := eq_false (by omega)
  have c3 : (13 < s.size) = False := eq_false (by omega)
  have hs : s.size ≤ 18 := by omega
  have HR := Aside0.mk hr
  have HT := Aside0.mk htab
  clear hr htab
  have HE := Aside0.mk he
  clear he
  go_enter Tryd.func6, Tryd.ntmps6
  go_wp2_with (go_at_call 16; refine (Tryd.strconv_Atoi s n hs ha _).mono ?_; rintro e w1 ⟨rfl, t_, hw⟩; have HB := Aside0.mk (show Below _ _ w1 from hw ▸ conv_below _ t_); clear hw)
  go_upto_region 5 with (first | (go_at_call 17; refine (impl_InRange.calls n 0 1000000000000 true _ HR.out).mono ?_; rintro e w2 ⟨rfl, ⟨nd, rfl⟩⟩) | (go_at_call 10; refine (format_walk n h0 h1 _ (tab_below HT.out (by repeat (first | exact HB.out | apply pw_below_drewN | apply below_drew1)))).mono ?_; rw [HE.out]; rintro e w3 ⟨rfl, hb⟩; have n_ := Aside0.mk (below_step (by repeat (first | exact HB.out | apply pw_below_drewN | apply below_drew1)) hb); clear HB hb; have HB := n_; clear n_))
  go_ret2
  exact ⟨by first | rfl | simp, by repeat (first | exact HB.out | apply pw_below_drewN | apply below_drew1)⟩
set_option maxRecDepth 100000 in
theorem parse_diff (s : ByteArray) (h : s.size ≤ 13) (n : Int) (h0 : -9223372036854775808 ≤ n) (h1 : n ≤ 9223372036854775807) (ha : Lib.atoi s.data.toList = some n) (hr : impl_InRange.f n 0 1000000000000 = some true) (he : ¬ (⟨(Lib.itoa n).toArray⟩ : ByteArray) = s) (w : World) (htab : Lib.TabIs Tryd.prog w "internal/strconv.uint64pow10" .u64 Lib.pow10Tab) :
    Calls Tryd.prog 6 #[.string s] w fun e w' => e = .returned (.tuple #[.int .i64 0, .bool false]) ∧ Below w.heap.size w w' := by
  have c1 : decide ((13 : Int) < (s.size : Int)) = false := decide_eq_false (by omega)
  have c2 : ((13 : Int) < (s.size : Int)) = False := eq_false (by omega)
  have c3 : (13 < s.size) = False := eq_false (by omega)
  have hs : s.size ≤ 18 := by omega
  have HR := Aside0.mk hr
  have HT := Aside0.mk htab
  clear hr htab
  generalize hz : (⟨(Lib.itoa n).toArray⟩ : ByteArray) = z at he
  have HE := Aside0.mk hz
  clear hz
  have e2 : decide (z = s) = false := decide_eq_false he
  have e3 : (z = s) = False := eq_false he
  have e4 : ¬ z.toList = s.toList := fun e => he (by rw [Lib.toList_data, Lib.toList_data] at e; exact ByteArray.ext (Array.ext' e))
  have e5 : (z.toList == s.toList) = false := by simpa using e4
  have e6 : (z.toList != s.toList) = true := by simpa using e4
  have e7 : decide (z.toList = s.toList) = false := decide_eq_false e4
  have e8 : (z.toList = s.toList) = False := eq_false e4
  go_enter Tryd.func6, Tryd.ntmps6
  go_wp2_with (go_at_call 16; refine (Tryd.strconv_Atoi s n hs ha _).mono ?_; rintro e w1 ⟨rfl, t_, hw⟩; have HB := Aside0.mk (show Below _ _ w1 from hw ▸ conv_below _ t_); clear hw)
  go_upto_region 5 with (first | (go_at_call 17; refine (impl_InRange.calls n 0 1000000000000 true _ HR.out).mono ?_; rintro e w2 ⟨rfl, ⟨nd, rfl⟩⟩) | (go_at_call 10; refine (format_walk n h0 h1 _ (tab_below HT.out (by repeat (first | exact HB.out | apply pw_below_drewN | apply below_drew1)))).mono ?_; rw [HE.out]; rintro e w3 ⟨rfl, hb⟩; have n_ := Aside0.mk (below_step (by repeat (first | exact HB.out | apply pw_below_drewN | apply below_drew1)) hb); clear HB hb; have HB := n_; clear n_))
  try go_wp2
  go_ret2
  exact ⟨by first | rfl | simp, by repeat (first | exact HB.out | apply pw_below_drewN | apply below_drew1)⟩
end Go.Proofs.YtbjecehiappdeaaDoor.MyInt
