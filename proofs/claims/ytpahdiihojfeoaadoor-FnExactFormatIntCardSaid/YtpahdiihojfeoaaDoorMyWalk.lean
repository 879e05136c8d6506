/- The walks of the law FnExactFormatInt and of impl.FormatInt: the program's FormatInt answers as the reference's at every integer, where the library's table of powers of ten reads as listed. -/
import Derived.Test.YtpahdiihojfeoaaDoorMyShelf
import Derived.Test.YtpahdiihojfeoaaDoorMySpec
import Derived.Lib.AppendIntMem
import Derived.WalkKit
namespace Go.Proofs.YtpahdiihojfeoaaDoor.MyInt
open Go.RowKit Go.Lib Go.Proofs.YtpahdiihojfeoaaDoorW.PrintWords Go.Proofs.YtpahdiihojfeoaaDoorW.PrintLast Go.Proofs.YtpahdiihojfeoaaDoorW.PrintMore
open Go.Proofs.YtpahdiihojfeoaaDoor.MySpec
set_option maxHeartbeats 8000000
theorem tab_below {w w' : World} {zs : List Int} (h : Lib.TabIs Tryd.prog w "internal/strconv.uint64pow10" .u64 zs) (hb : Below w.heap.size w w') : Lib.TabIs Tryd.prog w' "internal/strconv.uint64pow10" .u64 zs := by
  unfold Lib.TabIs World.var? at h ⊢
  cases hg : Tryd.prog.globalNamed "internal/strconv.uint64pow10" with
  | none => simp [hg] at h
  | some g =>
    simp only [hg, Option.bind_some] at h ⊢
    have hlt : g < w.heap.size := by
      rcases Nat.lt_or_ge g w.heap.size with h' | h'
      · exact h'
      · simp [Array.getElem?_eq_none h'] at h
    rw [hb.block g hlt]
    exact h
set_option maxRecDepth 100000 in
theorem impl_walk (n : Int) (h0 : -9223372036854775808 ≤ n) (h1 : n ≤ 9223372036854775807) (w : World) (htab : Lib.TabIs Tryd.prog w "internal/strconv.uint64pow10" .u64 Lib.pow10Tab) :
    Calls Tryd.prog 5 #[.int .i64 n] w fun e w' => e = .returned (.string ⟨(Lib.itoa n).toArray⟩) ∧ Below w.heap.size w w' := by
  have HT := Aside0.mk htab
  clear htab
  go_enter Tryd.func5, Tryd.ntmps5
  go_wp2_with (go_at_call 6; refine (Tryd.strconv_Itoa n h0 h1 _ HT.out).mono ?_; rintro e w' ⟨rfl, k, os, rfl⟩)
  go_ret
  exact ⟨by first | rfl | simp, below_grow _ _ (Nat.le_refl _) _ _⟩
set_option maxRecDepth 100000 in
theorem law_walk (n : Int) (h0 : -9223372036854775808 ≤ n) (h1 : n ≤ 9223372036854775807) (k : Nat) (hs : spec_FormatInt.f k n = some ⟨(Lib.itoa n).toArray⟩) (w : World) (htab : Lib.TabIs Tryd.prog w "internal/strconv.uint64pow10" .u64 Lib.pow10Tab) :
    Calls Tryd.prog 3 #[.int .i64 n] w fun e w' => e = .returned (.bool true) ∧ Below w.heap.size w w' := by
  have HT := Aside0.mk htab
  have HS := Aside0.mk hs
  clear htab hs
  go_enter Tryd.func3, Tryd.ntmps3
  generalize hs_ : (⟨(Lib.itoa n).toArray⟩ : ByteArray) = s_ at HS ⊢
  have HSS := Aside0.mk hs_
  clear hs_
  go_wp2_with (first | (go_at_call 4; refine (spec_FormatInt.calls k n s_ _ HS.out).mono ?_; rintro e w1 ⟨rfl, hb⟩; have HB := Aside0.mk hb; clear hb) | (go_at_call 5; refine (impl_walk n h0 h1 _ (tab_below HT.out HB.out)).mono ?_; rw [HSS.out]; rintro e w2 ⟨rfl, hb2⟩; have HB2 := Aside0.mk hb2; clear hb2))
  go_ret
  exact ⟨by first | rfl | simp, below_step HB.out HB2.out⟩
end Go.Proofs.YtpahdiihojfeoaaDoor.MyInt
