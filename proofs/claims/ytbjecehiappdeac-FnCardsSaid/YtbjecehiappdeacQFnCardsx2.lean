-- This session's own text, written by a program of its own (wip/ownprint.sh: the kit's printer with this session's changes and hand-typed contracts). Lean checks it.
import Derived.Test.YtbjecehiappdeacQFnCardsx0
import Derived.Test.YtbjecehiappdeacQFnCardsx1
namespace Go.Proofs.Ytbjecehiappdeac.QFnCards
open Go.RowKit Go.Proofs.YtbjecehiappdeacW.PrintWords Go.Proofs.YtbjecehiappdeacW.PrintLast Go.Proofs.YtbjecehiappdeacW.PrintMore
attribute [local go_sem] max2_int min2_int max_two min_two max_three min_three max_four min_four   -- for this text's walks alone
set_option linter.unusedVariables false
set_option linter.unusedSimpArgs false

/-! ### spec_RankOf: function 98 -/
def spec_RankOf.f (a0 : Int) : Option (Int) := (spec_IsCard.f a0).bind fun t155 => (if t155 = true then (some (Int.tmod a0 13)) else (some (-1)))
set_option maxHeartbeats 8000000 in
set_option maxRecDepth 100000 in
theorem spec_RankOf.calls (a0 : Int) (r : Int) (w : World) (h : spec_RankOf.f a0 = some r) :
    Calls Try.prog 98 #[.int .i64 a0] w fun e w' => e = .returned (.int .i64 r) ∧ Drawn0 w w' := by
  have H : ((spec_IsCard.f a0).bind fun t155 => (if t155 = true then (some (Int.tmod a0 13)) else (some (-1)))) = some r := h
  clear h
  replace H := Option.bind_eq_some_iff.mp H
  obtain ⟨t155, A20, H⟩ := H
  replace H : (if t155 = true then (some (Int.tmod a0 13)) else (some (-1))) = some r := H
  have A2 := Aside0.mk A20
  clear A20
  by_cases c3 : t155 = true
  · subst c3
    have H1 : (some (Int.tmod a0 13)) = some r := by rw [if_pos rfl] at H; exact H
    clear H
    have H := H1
    clear H1
    obtain rfl := Option.some.inj H
    go_enter Try.func98, Try.ntmps98
    go_wp2_with (first | ((with_reducible refine gate_callee (f := 96) rfl ?_); refine goesL_ (some 4) rfl rfl Try.func96 (by kernel_rfl) rfl #[.int .i64 a0] rfl (by (try simp only [List.map_toArray, List.map_cons, List.map_nil]); first | done | rfl | (simp only [List.length_drop, List.length_take]; rfl)) ?_; (with_reducible refine (spec_IsCard.calls a0 true _ A2.out).mono ?_); rintro e w' ⟨rfl, ⟨nd, rfl⟩⟩; refine ⟨_, rfl, ?_⟩))
    go_ret
    exact ⟨by first | rfl | (simp; done) | (simp [*]; done), by repeat (first | exact Drawn0.refl _ | apply Drawn0.step)⟩
  · replace c3 := Bool.eq_false_iff.mpr c3
    subst c3
    have H1 : (some (-1)) = some r := by rw [if_neg (show ¬ (false = true) by decide)] at H; exact H
    clear H
    have H := H1
    clear H1
    obtain rfl := Option.some.inj H
    go_enter Try.func98, Try.ntmps98
    go_wp2_with (first | ((with_reducible refine gate_callee (f := 96) rfl ?_); refine goesL_ (some 4) rfl rfl Try.func96 (by kernel_rfl) rfl #[.int .i64 a0] rfl (by (try simp only [List.map_toArray, List.map_cons, List.map_nil]); first | done | rfl | (simp only [List.length_drop, List.length_take]; rfl)) ?_; (with_reducible refine (spec_IsCard.calls a0 false _ A2.out).mono ?_); rintro e w' ⟨rfl, ⟨nd, rfl⟩⟩; refine ⟨_, rfl, ?_⟩))
    go_ret
    exact ⟨by first | rfl | (simp; done) | (simp [*]; done), by repeat (first | exact Drawn0.refl _ | apply Drawn0.step)⟩

/-! ### spec_SuitOf: function 99 -/
def spec_SuitOf.f (a0 : Int) : Option (Int) := (spec_IsCard.f a0).bind fun t156 => (if t156 = true then (some (wrap64 (Int.tdiv a0 13))) else (some (-1)))
set_option maxHeartbeats 8000000 in
set_option maxRecDepth 100000 in
theorem spec_SuitOf.calls (a0 : Int) (r : Int) (w : World) (h : spec_SuitOf.f a0 = some r) :
    Calls Try.prog 99 #[.int .i64 a0] w fun e w' => e = .returned (.int .i64 r) ∧ Drawn0 w w' := by
  have H : ((spec_IsCard.f a0).bind fun t156 => (if t156 = true then (some (wrap64 (Int.tdiv a0 13))) else (some (-1)))) = some r := h
  clear h
  replace H := Option.bind_eq_some_iff.mp H
  obtain ⟨t156, A20, H⟩ := H
  replace H : (if t156 = true then (some (wrap64 (Int.tdiv a0 13))) else (some (-1))) = some r := H
  have A2 := Aside0.mk A20
  clear A20
  by_cases c3 : t156 = true
  · subst c3
    have H1 : (some (wrap64 (Int.tdiv a0 13))) = some r := by rw [if_pos rfl] at H; exact H
    clear H
    have H := H1
    clear H1
    obtain rfl := Option.some.inj H
    go_enter Try.func99, Try.ntmps99
    go_wp2_with (first | ((with_reducible refine gate_callee (f := 96) rfl ?_); refine goesL_ (some 4) rfl rfl Try.func96 (by kernel_rfl) rfl #[.int .i64 a0] rfl (by (try simp only [List.map_toArray, List.map_cons, List.map_nil]); first | done | rfl | (simp only [List.length_drop, List.length_take]; rfl)) ?_; (with_reducible refine (spec_IsCard.calls a0 true _ A2.out).mono ?_); rintro e w' ⟨rfl, ⟨nd, rfl⟩⟩; refine ⟨_, rfl, ?_⟩))
    go_ret
    exact ⟨by first | rfl | (simp; done) | (simp [*]; done), by repeat (first | exact Drawn0.refl _ | apply Drawn0.step)⟩
  · replace c3 := Bool.eq_false_iff.mpr c3
    subst c3
    have H1 : (some (-1)) = some r := by rw [if_neg (show ¬ (false = true) by decide)] at H; exact H
    clear H
    have H := H1
    clear H1
    obtain rfl := Option.some.inj H
    go_enter Try.func99, Try.ntmps99
    go_wp2_with (first | ((with_reducible refine gate_callee (f := 96) rfl ?_); refine goesL_ (some 4) rfl rfl Try.func96 (by kernel_rfl) rfl #[.int .i64 a0] rfl (by (try simp only [List.map_toArray, List.map_cons, List.map_nil]); first | done | rfl | (simp only [List.length_drop, List.length_take]; rfl)) ?_; (with_reducible refine (spec_IsCard.calls a0 false _ A2.out).mono ?_); rintro e w' ⟨rfl, ⟨nd, rfl⟩⟩; refine ⟨_, rfl, ?_⟩))
    go_ret
    exact ⟨by first | rfl | (simp; done) | (simp [*]; done), by repeat (first | exact Drawn0.refl _ | apply Drawn0.step)⟩

/-! ### spec_CardText: function 90 -/
def spec_CardText.f (a0 : Int) : Option (ByteArray) := (spec_IsCard.f a0).bind fun t157 => (if t157 = true then ((spec_RankOf.f a0).bind fun t158 => ((spec_SuitOf.f a0).bind fun t159 => (if 0 ≤ t158 then (if t158 ≤ (wrap64 (t158 + 1)) then (if (wrap64 (t158 + 1)) ≤ 13 then (if 0 ≤ t159 then (if t159 ≤ (wrap64 (t159 + 1)) then (if (wrap64 (t159 + 1)) ≤ 4 then (if ((⟨#[50, 51, 52, 53, 54, 55, 56, 57, 84, 74, 81, 75, 65]⟩ : ByteArray).extract (t158 : Int).toNat ((wrap64 (t158 + 1)) : Int).toNat).size + ((⟨#[99, 100, 104, 115]⟩ : ByteArray).extract (t159 : Int).toNat ((wrap64 (t159 + 1)) : Int).toNat).size ≤ 9223372036854775807 then (some (((⟨#[50, 51, 52, 53, 54, 55, 56, 57, 84, 74, 81, 75, 65]⟩ : ByteArray).extract (t158 : Int).toNat ((wrap64 (t158 + 1)) : Int).toNat) ++ ((⟨#[99, 100, 104, 115]⟩ : ByteArray).extract (t159 : Int).toNat ((wrap64 (t159 + 1)) : Int).toNat))) else (none)) else (none)) else (none)) else (none)) else (none)) else (none)) else (none)))) else (some (⟨#[]⟩ : ByteArray)))
set_option maxHeartbeats 8000000 in
set_option maxRecDepth 100000 in
theorem spec_CardText.calls (a0 : Int) (r : ByteArray) (w : World) (h : spec_CardText.f a0 = some r) :
    Calls Try.prog 90 #[.int .i64 a0] w fun e w' => e = .returned (.string r) ∧ Drawn0 w w' := by
  have H : ((spec_IsCard.f a0).bind fun t157 => (if t157 = true then ((spec_RankOf.f a0).bind fun t158 => ((spec_SuitOf.f a0).bind fun t159 => (if 0 ≤ t158 then (if t158 ≤ (wrap64 (t158 + 1)) then (if (wrap64 (t158 + 1)) ≤ 13 then (if 0 ≤ t159 then (if t159 ≤ (wrap64 (t159 + 1)) then (if (wrap64 (t159 + 1)) ≤ 4 then (if ((⟨#[50, 51, 52, 53, 54, 55, 56, 57, 84, 74, 81, 75, 65]⟩ : ByteArray).extract (t158 : Int).toNat ((wrap64 (t158 + 1)) : Int).toNat).size + ((⟨#[99, 100, 104, 115]⟩ : ByteArray).extract (t159 : Int).toNat ((wrap64 (t159 + 1)) : Int).toNat).size ≤ 9223372036854775807 then (some (((⟨#[50, 51, 52, 53, 54, 55, 56, 57, 84, 74, 81, 75, 65]⟩ : ByteArray).extract (t158 : Int).toNat ((wrap64 (t158 + 1)) : Int).toNat) ++ ((⟨#[99, 100, 104, 115]⟩ : ByteArray).extract (t159 : Int).toNat ((wrap64 (t159 + 1)) : Int).toNat))) else (none)) else (none)) else (none)) else (none)) else (none)) else (none)) else (none)))) else (some (⟨#[]⟩ : ByteArray)))) = some r := h
  clear h
  replace H := Option.bind_eq_some_iff.mp H
  obtain ⟨t157, A20, H⟩ := H
  replace H : (if t157 = true then ((spec_RankOf.f a0).bind fun t158 => ((spec_SuitOf.f a0).bind fun t159 => (if 0 ≤ t158 then (if t158 ≤ (wrap64 (t158 + 1)) then (if (wrap64 (t158 + 1)) ≤ 13 then (if 0 ≤ t159 then (if t159 ≤ (wrap64 (t159 + 1)) then (if (wrap64 (t159 + 1)) ≤ 4 then (if ((⟨#[50, 51, 52, 53, 54, 55, 56, 57, 84, 74, 81, 75, 65]⟩ : ByteArray).extract (t158 : Int).toNat ((wrap64 (t158 + 1)) : Int).toNat).size + ((⟨#[99, 100, 104, 115]⟩ : ByteArray).extract (t159 : Int).toNat ((wrap64 (t159 + 1)) : Int).toNat).size ≤ 9223372036854775807 then (some (((⟨#[50, 51, 52, 53, 54, 55, 56, 57, 84, 74, 81, 75, 65]⟩ : ByteArray).extract (t158 : Int).toNat ((wrap64 (t158 + 1)) : Int).toNat) ++ ((⟨#[99, 100, 104, 115]⟩ : ByteArray).extract (t159 : Int).toNat ((wrap64 (t159 + 1)) : Int).toNat))) else (none)) else (none)) else (none)) else (none)) else (none)) else (none)) else (none)))) else (some (⟨#[]⟩ : ByteArray))) = some r := H
  have A2 := Aside0.mk A20
  clear A20
  by_cases c3 : t157 = true
  · subst c3
    have H1 : ((spec_RankOf.f a0).bind fun t158 => ((spec_SuitOf.f a0).bind fun t159 => (if 0 ≤ t158 then (if t158 ≤ (wrap64 (t158 + 1)) then (if (wrap64 (t158 + 1)) ≤ 13 then (if 0 ≤ t159 then (if t159 ≤ (wrap64 (t159 + 1)) then (if (wrap64 (t159 + 1)) ≤ 4 then (if ((⟨#[50, 51, 52, 53, 54, 55, 56, 57, 84, 74, 81, 75, 65]⟩ : ByteArray).extract (t158 : Int).toNat ((wrap64 (t158 + 1)) : Int).toNat).size + ((⟨#[99, 100, 104, 115]⟩ : ByteArray).extract (t159 : Int).toNat ((wrap64 (t159 + 1)) : Int).toNat).size ≤ 9223372036854775807 then (some (((⟨#[50, 51, 52, 53, 54, 55, 56, 57, 84, 74, 81, 75, 65]⟩ : ByteArray).extract (t158 : Int).toNat ((wrap64 (t158 + 1)) : Int).toNat) ++ ((⟨#[99, 100, 104, 115]⟩ : ByteArray).extract (t159 : Int).toNat ((wrap64 (t159 + 1)) : Int).toNat))) else (none)) else (none)) else (none)) else (none)) else (none)) else (none)) else (none)))) = some r := by rw [if_pos rfl] at H; exact H
    clear H
    have H := H1
    clear H1
    replace H := Option.bind_eq_some_iff.mp H
    obtain ⟨t158, A40, H⟩ := H
    replace H : ((spec_SuitOf.f a0).bind fun t159 => (if 0 ≤ t158 then (if t158 ≤ (wrap64 (t158 + 1)) then (if (wrap64 (t158 + 1)) ≤ 13 then (if 0 ≤ t159 then (if t159 ≤ (wrap64 (t159 + 1)) then (if (wrap64 (t159 + 1)) ≤ 4 then (if ((⟨#[50, 51, 52, 53, 54, 55, 56, 57, 84, 74, 81, 75, 65]⟩ : ByteArray).extract (t158 : Int).toNat ((wrap64 (t158 + 1)) : Int).toNat).size + ((⟨#[99, 100, 104, 115]⟩ : ByteArray).extract (t159 : Int).toNat ((wrap64 (t159 + 1)) : Int).toNat).size ≤ 9223372036854775807 then (some (((⟨#[50, 51, 52, 53, 54, 55, 56, 57, 84, 74, 81, 75, 65]⟩ : ByteArray).extract (t158 : Int).toNat ((wrap64 (t158 + 1)) : Int).toNat) ++ ((⟨#[99, 100, 104, 115]⟩ : ByteArray).extract (t159 : Int).toNat ((wrap64 (t159 + 1)) : Int).toNat))) else (none)) else (none)) else (none)) else (none)) else (none)) else (none)) else (none))) = some r := H
    have A4 := Aside0.mk A40
    clear A40
    replace H := Option.bind_eq_some_iff.mp H
    obtain ⟨t159, A50, H⟩ := H
    replace H : (if 0 ≤ t158 then (if t158 ≤ (wrap64 (t158 + 1)) then (if (wrap64 (t158 + 1)) ≤ 13 then (if 0 ≤ t159 then (if t159 ≤ (wrap64 (t159 + 1)) then (if (wrap64 (t159 + 1)) ≤ 4 then (if ((⟨#[50, 51, 52, 53, 54, 55, 56, 57, 84, 74, 81, 75, 65]⟩ : ByteArray).extract (t158 : Int).toNat ((wrap64 (t158 + 1)) : Int).toNat).size + ((⟨#[99, 100, 104, 115]⟩ : ByteArray).extract (t159 : Int).toNat ((wrap64 (t159 + 1)) : Int).toNat).size ≤ 9223372036854775807 then (some (((⟨#[50, 51, 52, 53, 54, 55, 56, 57, 84, 74, 81, 75, 65]⟩ : ByteArray).extract (t158 : Int).toNat ((wrap64 (t158 + 1)) : Int).toNat) ++ ((⟨#[99, 100, 104, 115]⟩ : ByteArray).extract (t159 : Int).toNat ((wrap64 (t159 + 1)) : Int).toNat))) else (none)) else (none)) else (none)) else (none)) else (none)) else (none)) else (none)) = some r := H
    have A5 := Aside0.mk A50
    clear A50
    by_cases c6 : 0 ≤ t158
    · rw [if_pos c6] at H
      have c6b0 := eq_true c6
      have c6b1 : decide (0 ≤ t158) = true := decide_eq_true c6
      clear c6
      by_cases c7 : t158 ≤ (wrap64 (t158 + 1))
      · rw [if_pos c7] at H
        have c7b0 := eq_true c7
        have c7b1 : decide (t158 ≤ (wrap64 (t158 + 1))) = true := decide_eq_true c7
        by_cases c8 : (wrap64 (t158 + 1)) ≤ 13
        · rw [if_pos c8] at H
          have c8b0 := eq_true c8
          have c8b1 : decide ((wrap64 (t158 + 1)) ≤ 13) = true := decide_eq_true c8
          by_cases c9 : 0 ≤ t159
          · rw [if_pos c9] at H
            have c9b0 := eq_true c9
            have c9b1 : decide (0 ≤ t159) = true := decide_eq_true c9
            clear c9
            by_cases c10 : t159 ≤ (wrap64 (t159 + 1))
            · rw [if_pos c10] at H
              have c10b0 := eq_true c10
              have c10b1 : decide (t159 ≤ (wrap64 (t159 + 1))) = true := decide_eq_true c10
              by_cases c11 : (wrap64 (t159 + 1)) ≤ 4
              · rw [if_pos c11] at H
                have c11b0 := eq_true c11
                have c11b1 : decide ((wrap64 (t159 + 1)) ≤ 4) = true := decide_eq_true c11
                by_cases c12 : ((⟨#[50, 51, 52, 53, 54, 55, 56, 57, 84, 74, 81, 75, 65]⟩ : ByteArray).extract (t158 : Int).toNat ((wrap64 (t158 + 1)) : Int).toNat).size + ((⟨#[99, 100, 104, 115]⟩ : ByteArray).extract (t159 : Int).toNat ((wrap64 (t159 + 1)) : Int).toNat).size ≤ 9223372036854775807
                · rw [if_pos c12] at H
                  have c12b0 := eq_true c12
                  have c12b1 : decide (((⟨#[50, 51, 52, 53, 54, 55, 56, 57, 84, 74, 81, 75, 65]⟩ : ByteArray).extract (t158 : Int).toNat ((wrap64 (t158 + 1)) : Int).toNat).size + ((⟨#[99, 100, 104, 115]⟩ : ByteArray).extract (t159 : Int).toNat ((wrap64 (t159 + 1)) : Int).toNat).size ≤ 9223372036854775807) = true := decide_eq_true c12
                  try have c12b2 : (9223372036854775807 < ((⟨#[50, 51, 52, 53, 54, 55, 56, 57, 84, 74, 81, 75, 65]⟩ : ByteArray).extract (t158 : Int).toNat ((wrap64 (t158 + 1)) : Int).toNat).size + ((⟨#[99, 100, 104, 115]⟩ : ByteArray).extract (t159 : Int).toNat ((wrap64 (t159 + 1)) : Int).toNat).size) = False := eq_false (Nat.not_lt.2 c12)
                  obtain rfl := Option.some.inj H
                  go_enter Try.func90, Try.ntmps90
                  go_wp2_with (first | (go_at_call 96; (with_reducible refine (spec_IsCard.calls a0 true _ A2.out).mono ?_); rintro e w' ⟨rfl, ⟨nd, rfl⟩⟩; (try first | exact ⟨rfl, _, World.drewN_drewN _ _ _⟩ | exact ⟨rfl, _, Eq.trans (World.drewN_drewN _ _ _) (congrArg (World.drewN _) (Nat.add_assoc _ _ _))⟩)) | (go_at_call 98; (with_reducible refine (spec_RankOf.calls a0 t158 _ A4.out).mono ?_); rintro e w' ⟨rfl, ⟨nd, rfl⟩⟩; (try first | exact ⟨rfl, _, World.drewN_drewN _ _ _⟩ | exact ⟨rfl, _, Eq.trans (World.drewN_drewN _ _ _) (congrArg (World.drewN _) (Nat.add_assoc _ _ _))⟩)) | (go_at_call 99; (with_reducible refine (spec_SuitOf.calls a0 t159 _ A5.out).mono ?_); rintro e w' ⟨rfl, ⟨nd, rfl⟩⟩; (try first | exact ⟨rfl, _, World.drewN_drewN _ _ _⟩ | exact ⟨rfl, _, Eq.trans (World.drewN_drewN _ _ _) (congrArg (World.drewN _) (Nat.add_assoc _ _ _))⟩)))
                  repeat (go_quiet (first | (go_at_call 96; (with_reducible refine (spec_IsCard.calls a0 true _ A2.out).mono ?_); rintro e w' ⟨rfl, ⟨nd, rfl⟩⟩; (try first | exact ⟨rfl, _, World.drewN_drewN _ _ _⟩ | exact ⟨rfl, _, Eq.trans (World.drewN_drewN _ _ _) (congrArg (World.drewN _) (Nat.add_assoc _ _ _))⟩)) | (go_at_call 98; (with_reducible refine (spec_RankOf.calls a0 t158 _ A4.out).mono ?_); rintro e w' ⟨rfl, ⟨nd, rfl⟩⟩; (try first | exact ⟨rfl, _, World.drewN_drewN _ _ _⟩ | exact ⟨rfl, _, Eq.trans (World.drewN_drewN _ _ _) (congrArg (World.drewN _) (Nat.add_assoc _ _ _))⟩)) | (go_at_call 99; (with_reducible refine (spec_SuitOf.calls a0 t159 _ A5.out).mono ?_); rintro e w' ⟨rfl, ⟨nd, rfl⟩⟩; (try first | exact ⟨rfl, _, World.drewN_drewN _ _ _⟩ | exact ⟨rfl, _, Eq.trans (World.drewN_drewN _ _ _) (congrArg (World.drewN _) (Nat.add_assoc _ _ _))⟩))); try go_wp2_with (first | (go_at_call 96; (with_reducible refine (spec_IsCard.calls a0 true _ A2.out).mono ?_); rintro e w' ⟨rfl, ⟨nd, rfl⟩⟩; (try first | exact ⟨rfl, _, World.drewN_drewN _ _ _⟩ | exact ⟨rfl, _, Eq.trans (World.drewN_drewN _ _ _) (congrArg (World.drewN _) (Nat.add_assoc _ _ _))⟩)) | (go_at_call 98; (with_reducible refine (spec_RankOf.calls a0 t158 _ A4.out).mono ?_); rintro e w' ⟨rfl, ⟨nd, rfl⟩⟩; (try first | exact ⟨rfl, _, World.drewN_drewN _ _ _⟩ | exact ⟨rfl, _, Eq.trans (World.drewN_drewN _ _ _) (congrArg (World.drewN _) (Nat.add_assoc _ _ _))⟩)) | (go_at_call 99; (with_reducible refine (spec_SuitOf.calls a0 t159 _ A5.out).mono ?_); rintro e w' ⟨rfl, ⟨nd, rfl⟩⟩; (try first | exact ⟨rfl, _, World.drewN_drewN _ _ _⟩ | exact ⟨rfl, _, Eq.trans (World.drewN_drewN _ _ _) (congrArg (World.drewN _) (Nat.add_assoc _ _ _))⟩))))
                  go_ret
                  exact ⟨by first | rfl | (simp; done) | (simp [*]; done), by repeat (first | exact Drawn0.refl _ | apply Drawn0.step)⟩
                · rw [if_neg c12] at H
                  exact absurd H (by simp)
              · rw [if_neg c11] at H
                exact absurd H (by simp)
            · rw [if_neg c10] at H
              exact absurd H (by simp)
          · rw [if_neg c9] at H
            exact absurd H (by simp)
        · rw [if_neg c8] at H
          exact absurd H (by simp)
      · rw [if_neg c7] at H
        exact absurd H (by simp)
    · rw [if_neg c6] at H
      exact absurd H (by simp)
  · replace c3 := Bool.eq_false_iff.mpr c3
    subst c3
    have H1 : (some (⟨#[]⟩ : ByteArray)) = some r := by rw [if_neg (show ¬ (false = true) by decide)] at H; exact H
    clear H
    have H := H1
    clear H1
    obtain rfl := Option.some.inj H
    go_enter Try.func90, Try.ntmps90
    go_wp2_with (first | (go_at_call 96; (with_reducible refine (spec_IsCard.calls a0 false _ A2.out).mono ?_); rintro e w' ⟨rfl, ⟨nd, rfl⟩⟩; (try first | exact ⟨rfl, _, World.drewN_drewN _ _ _⟩ | exact ⟨rfl, _, Eq.trans (World.drewN_drewN _ _ _) (congrArg (World.drewN _) (Nat.add_assoc _ _ _))⟩)))
    repeat (go_quiet (first | (go_at_call 96; (with_reducible refine (spec_IsCard.calls a0 false _ A2.out).mono ?_); rintro e w' ⟨rfl, ⟨nd, rfl⟩⟩; (try first | exact ⟨rfl, _, World.drewN_drewN _ _ _⟩ | exact ⟨rfl, _, Eq.trans (World.drewN_drewN _ _ _) (congrArg (World.drewN _) (Nat.add_assoc _ _ _))⟩))); try go_wp2_with (first | (go_at_call 96; (with_reducible refine (spec_IsCard.calls a0 false _ A2.out).mono ?_); rintro e w' ⟨rfl, ⟨nd, rfl⟩⟩; (try first | exact ⟨rfl, _, World.drewN_drewN _ _ _⟩ | exact ⟨rfl, _, Eq.trans (World.drewN_drewN _ _ _) (congrArg (World.drewN _) (Nat.add_assoc _ _ _))⟩))))
    go_ret
    exact ⟨by first | rfl | (simp; done) | (simp [*]; done), by repeat (first | exact Drawn0.refl _ | apply Drawn0.step)⟩

/-! ### spec_DrawParseCard: function 60 -/
def spec_DrawParseCard.f (k : Nat) (l0 : List Int) : Option (ByteArray) := (spec_l1New.f k l0).bind fun bt160 => ((spec_l4Card.f bt160.1 bt160.2.1 bt160.2.2).bind fun bt164 => ((spec_CardText.f bt164.1).bind fun t167 => ((spec_l1Str.f bt160.1 bt164.2.1 bt164.2.2 (([t167, t167, t167, (⟨#[]⟩ : ByteArray), (⟨#[49, 48, 99]⟩ : ByteArray), (⟨#[65, 99, 32]⟩ : ByteArray), (⟨#[97, 67]⟩ : ByteArray), (⟨#[84, 120]⟩ : ByteArray), (⟨#[50, 99]⟩ : ByteArray)] : List ByteArray))).bind fun bt171 => (some bt171.1))))
theorem spec_DrawParseCard.mono : ∀ a0 k, LeO (spec_DrawParseCard.f k a0) (spec_DrawParseCard.f (k + 1) a0) := by
  intro a0 k
  unfold spec_DrawParseCard.f
  repeat' first
      | (with_reducible exact spec_l1New.mono _ _)
      | (with_reducible exact LeO.refl _)
      | (with_reducible exact LeO.none _)
      | (with_reducible refine LeO.ite ?_ ?_)
      | (with_reducible refine LeO.bind ?_ (fun _ => ?_))
      | exact spec_l1New.mono _ _
      | exact LeO.none _
      | refine LeO.ite ?_ ?_
      | refine LeO.bind ?_ (fun _ => ?_)
set_option maxHeartbeats 8000000 in
set_option maxRecDepth 100000 in
theorem spec_DrawParseCard.calls (k : Nat) (A0 : Option Addr) (c0 : Nat) (l0 : List Int) (r : ByteArray) (w : World) (hr0 : Kd.C (Kd.int .u8) w A0 l0.length l0) (hc0 : l0.length ≤ c0) (h : spec_DrawParseCard.f k l0 = some r) :
    Calls Try.prog 60 #[.slice A0 l0.length c0] w fun e w' => e = .returned (.string r) ∧ Below w.heap.size w w' := by
  have HR0 := Aside0.mk hr0
  have HC0 := Aside0.mk hc0
  clear hr0 hc0
  have HB := Aside0.mk (Below.refl w.heap.size w)
  have H : ((spec_l1New.f k l0).bind fun bt160 => ((spec_l4Card.f bt160.1 bt160.2.1 bt160.2.2).bind fun bt164 => ((spec_CardText.f bt164.1).bind fun t167 => ((spec_l1Str.f bt160.1 bt164.2.1 bt164.2.2 (([t167, t167, t167, (⟨#[]⟩ : ByteArray), (⟨#[49, 48, 99]⟩ : ByteArray), (⟨#[65, 99, 32]⟩ : ByteArray), (⟨#[97, 67]⟩ : ByteArray), (⟨#[84, 120]⟩ : ByteArray), (⟨#[50, 99]⟩ : ByteArray)] : List ByteArray))).bind fun bt171 => (some bt171.1))))) = some r := h
  clear h
  replace H := Option.bind_eq_some_iff.mp H
  obtain ⟨⟨t160, t161, t162⟩, A20, H⟩ := H
  replace H : ((spec_l4Card.f t160 t161 t162).bind fun bt164 => ((spec_CardText.f bt164.1).bind fun t167 => ((spec_l1Str.f t160 bt164.2.1 bt164.2.2 (([t167, t167, t167, (⟨#[]⟩ : ByteArray), (⟨#[49, 48, 99]⟩ : ByteArray), (⟨#[65, 99, 32]⟩ : ByteArray), (⟨#[97, 67]⟩ : ByteArray), (⟨#[84, 120]⟩ : ByteArray), (⟨#[50, 99]⟩ : ByteArray)] : List ByteArray))).bind fun bt171 => (some bt171.1)))) = some r := H
  have A2 := Aside0.mk A20
  clear A20
  replace H := Option.bind_eq_some_iff.mp H
  obtain ⟨⟨t164, t165, t166⟩, A30, H⟩ := H
  replace H : ((spec_CardText.f t164).bind fun t167 => ((spec_l1Str.f t160 t165 t166 (([t167, t167, t167, (⟨#[]⟩ : ByteArray), (⟨#[49, 48, 99]⟩ : ByteArray), (⟨#[65, 99, 32]⟩ : ByteArray), (⟨#[97, 67]⟩ : ByteArray), (⟨#[84, 120]⟩ : ByteArray), (⟨#[50, 99]⟩ : ByteArray)] : List ByteArray))).bind fun bt171 => (some bt171.1))) = some r := H
  have A3 := Aside0.mk A30
  clear A30
  replace H := Option.bind_eq_some_iff.mp H
  obtain ⟨t167, A40, H⟩ := H
  replace H : ((spec_l1Str.f t160 t165 t166 (([t167, t167, t167, (⟨#[]⟩ : ByteArray), (⟨#[49, 48, 99]⟩ : ByteArray), (⟨#[65, 99, 32]⟩ : ByteArray), (⟨#[97, 67]⟩ : ByteArray), (⟨#[84, 120]⟩ : ByteArray), (⟨#[50, 99]⟩ : ByteArray)] : List ByteArray))).bind fun bt171 => (some bt171.1)) = some r := H
  have A4 := Aside0.mk A40
  clear A40
  obtain ⟨y168, hy168⟩ : ∃ y_ : List ByteArray, y_ = (([t167, t167, t167, (⟨#[]⟩ : ByteArray), (⟨#[49, 48, 99]⟩ : ByteArray), (⟨#[65, 99, 32]⟩ : ByteArray), (⟨#[97, 67]⟩ : ByteArray), (⟨#[84, 120]⟩ : ByteArray), (⟨#[50, 99]⟩ : ByteArray)] : List ByteArray)) := ⟨_, rfl⟩
  replace H : ((spec_l1Str.f t160 t165 t166 y168).bind fun bt171 => (some bt171.1)) = some r := by first | (rw [hy168]; with_reducible exact H) | (have H2_ := (Option.bind_some _ _).symm.trans H; rw [hy168]; with_reducible exact H2_) | (have H2_ := (Option.bind_some _ _).symm.trans H; with_reducible exact H2_) | with_reducible exact H | (rw [hy168]; exact H) | exact H
  have Ny168 := Aside0.mk hy168
  clear hy168
  replace H := Option.bind_eq_some_iff.mp H
  obtain ⟨⟨t171, t172, t173⟩, A50, H⟩ := H
  replace H : (some t171) = some r := H
  have A5 := Aside0.mk A50
  clear A50
  obtain rfl := Option.some.inj H
  go_enter Try.func60, Try.ntmps60
  go_wp2_with (first | ((with_reducible refine gate_callee (f := 75) rfl ?_); refine goesL_ (some 6) rfl rfl Try.func75 (by kernel_rfl) rfl #[.slice A0 l0.length c0] rfl (by (try simp only [List.map_toArray, List.map_cons, List.map_nil]); first | done | rfl | (simp only [List.length_drop, List.length_take]; rfl)) ?_; (with_reducible refine (spec_l1New.calls k _ _ l0 t160 t161 t162 w _ ?side1 ?side2 ?side3 A2.out).mono ?_); (case side1 => repeat (first | (with_reducible first | exact HB.out | apply below_alloc | apply pw_below_drewN | apply below_drew1) | exact HB.out)); (case side2 => exact HR0.out); (case side3 => exact HC0.out); rintro e w6 ⟨g163, rfl, hi, hb, hb2⟩; refine ⟨_, rfl, ?_⟩; have n0_ := Aside0.mk (hb); have n1_ := Aside0.mk (hi); clear HB; have HB := n0_; have HI163 := n1_; clear n0_ n1_; (try clear hb); (try clear hb2); (try clear hk); (try clear hi)) | ((with_reducible refine gate_callee (f := 91) rfl ?_); refine goesL_ (some 8) rfl rfl Try.func91 (by kernel_rfl) rfl #[.pointer (some ⟨g163, 0, none⟩)] rfl (by (try simp only [List.map_toArray, List.map_cons, List.map_nil]); first | done | rfl | (simp only [List.length_drop, List.length_take]; rfl)) ?_; (with_reducible refine (spec_l4Card.calls g163 t160 t161 t162 t164 t165 t166 w _ ?side1 ?side2 A3.out).mono ?_); (case side1 => repeat (first | (with_reducible first | exact HI163.out | apply IsS82.alloc | apply IsS82.drewN | apply IsS82.drew | apply IsS82.set_1 | apply IsS82.set_2) | exact HI163.out)); (case side2 => repeat (first | (with_reducible first | exact HB.out | apply below_alloc | apply pw_below_drewN | apply below_drew1 | refine below_set ?_ (IsS82.ge HI163.out)) | exact HB.out)); rintro e w7 ⟨rfl, hi, hb, hk⟩; refine ⟨_, rfl, ?_⟩; have n0_ := Aside0.mk (hb); have n1_ := Aside0.mk (hi); clear HB; clear HI163; have HB := n0_; have HI163 := n1_; clear n0_ n1_; (try clear hb); (try clear hb2); (try clear hk); (try clear hi)) | ((with_reducible refine gate_callee (f := 90) rfl ?_); refine goesL_ (some 9) rfl rfl Try.func90 (by kernel_rfl) rfl #[.int .i64 t164] rfl (by (try simp only [List.map_toArray, List.map_cons, List.map_nil]); first | done | rfl | (simp only [List.length_drop, List.length_take]; rfl)) ?_; (with_reducible refine (spec_CardText.calls t164 t167 _ A4.out).mono ?_); rintro e w' ⟨rfl, ⟨nd, rfl⟩⟩; refine ⟨_, rfl, ?_⟩) | ((with_reducible refine gate_dst (N := 14) rfl ?_); refine Kd.R_lit Kd.string _ 9 ?hg (N := 14) ?hd (xs := ([t167, t167, t167, (⟨#[]⟩ : ByteArray), (⟨#[49, 48, 99]⟩ : ByteArray), (⟨#[65, 99, 32]⟩ : ByteArray), (⟨#[97, 67]⟩ : ByteArray), (⟨#[84, 120]⟩ : ByteArray), (⟨#[50, 99]⟩ : ByteArray)] : List ByteArray)) (inner := [.string t167, .string t167, .string t167, .string (⟨#[]⟩ : ByteArray), .string (⟨#[49, 48, 99]⟩ : ByteArray), .string (⟨#[65, 99, 32]⟩ : ByteArray), .string (⟨#[97, 67]⟩ : ByteArray), .string (⟨#[84, 120]⟩ : ByteArray), .string (⟨#[50, 99]⟩ : ByteArray)]) (ok := fun _ => True) (okp := fun _ => True) ?hr ?hp (fun _ hk => hk) trivial (Below.refl _ _) (Nat.le_refl _) (by simp) ?_; (case hd => rfl); (case hg => rfl); (case hr => first | (go_simp; done) | (go_simp; rfl)); (case hp => exact (Reps.one (show Kd.M Kd.string _ _ _ t167 [.string t167] from rfl) (Reps.one (show Kd.M Kd.string _ _ _ t167 [.string t167] from rfl) (Reps.one (show Kd.M Kd.string _ _ _ t167 [.string t167] from rfl) (Reps.one (show Kd.M Kd.string _ _ _ (⟨#[]⟩ : ByteArray) [.string (⟨#[]⟩ : ByteArray)] from rfl) (Reps.one (show Kd.M Kd.string _ _ _ (⟨#[49, 48, 99]⟩ : ByteArray) [.string (⟨#[49, 48, 99]⟩ : ByteArray)] from rfl) (Reps.one (show Kd.M Kd.string _ _ _ (⟨#[65, 99, 32]⟩ : ByteArray) [.string (⟨#[65, 99, 32]⟩ : ByteArray)] from rfl) (Reps.one (show Kd.M Kd.string _ _ _ (⟨#[97, 67]⟩ : ByteArray) [.string (⟨#[97, 67]⟩ : ByteArray)] from rfl) (Reps.one (show Kd.M Kd.string _ _ _ (⟨#[84, 120]⟩ : ByteArray) [.string (⟨#[84, 120]⟩ : ByteArray)] from rfl) (Reps.one (show Kd.M Kd.string _ _ _ (⟨#[50, 99]⟩ : ByteArray) [.string (⟨#[50, 99]⟩ : ByteArray)] from rfl) (Reps.none _ _))))))))))); intro v169 w8 ho9 hb hg_ hnew_; clear hg_ hnew_; (first | rw [← Ny168.out] at ho9 | (simp only [Int.reduceToNat] at ho9; rw [← Ny168.out] at ho9)); have n0_ := Aside0.mk (Kd.R_lower ho9 (below_size (by repeat (first | (with_reducible first | exact HB.out | apply below_alloc | apply pw_below_drewN | apply below_drew1 | refine below_set ?_ (IsS82.ge HI163.out)) | exact HB.out)))); have n1_ := Aside0.mk (IsS82.below (by repeat (first | (with_reducible first | exact HI163.out | apply IsS82.alloc | apply IsS82.drewN | apply IsS82.drew | apply IsS82.set_1 | apply IsS82.set_2) | exact HI163.out)) hb); have n2_ := Aside0.mk (below_step (by repeat (first | (with_reducible first | exact HB.out | apply below_alloc | apply pw_below_drewN | apply below_drew1 | refine below_set ?_ (IsS82.ge HI163.out)) | exact HB.out)) hb); clear HI163; clear HB; have HO170 := n0_; have HI163 := n1_; have HB := n2_; clear n0_ n1_ n2_; clear hb ho9; obtain ⟨Ao10, co10, eo10⟩ := Kd.R_slice HO170.out; subst eo10) | ((with_reducible refine gate_callee (f := 85) rfl ?_); refine goesL_ (some 15) rfl rfl Try.func85 (by kernel_rfl) rfl #[.pointer (some ⟨g163, 0, none⟩), .slice Ao10 y168.length co10] rfl (by (try simp only [List.map_toArray, List.map_cons, List.map_nil]); first | done | rfl | (simp only [List.length_drop, List.length_take]; rfl)) ?_; (with_reducible refine (spec_l1Str.calls g163 t160 t165 t166 _ _ y168 t171 t172 t173 w _ ?side1 ?side2 ?side3 ?side4 ?side5 A5.out).mono ?_); (case side1 => repeat (first | (with_reducible first | exact HI163.out | apply IsS82.alloc | apply IsS82.drewN | apply IsS82.drew | apply IsS82.set_1 | apply IsS82.set_2) | exact HI163.out)); (case side2 => repeat (first | (with_reducible first | exact HB.out | apply below_alloc | apply pw_below_drewN | apply below_drew1 | refine below_set ?_ (IsS82.ge HI163.out)) | exact HB.out)); (case side3 => repeat (first | exact (Kd.R_reads' HO170.out).2.2 | (with_reducible refine Kd.C_alloc ?_ _) | (with_reducible refine Kd.C_drewN ?_ _) | (with_reducible refine Kd.C_drew ?_))); (case side4 => exact (Kd.R_reads' HO170.out).2.1); (case side5 => exact far_slice (IsS82.own_ne HI163.out HO170.out (by decide))); rintro e w11 ⟨rfl, hi, hb, hk⟩; refine ⟨_, rfl, ?_⟩; have n0_ := Aside0.mk (Kd.R_mono (Kd.R_keep (IsS82.apart (show IsS82 w _ g163 t160 t165 t166 from by repeat (first | (with_reducible first | exact HI163.out | apply IsS82.alloc | apply IsS82.drewN | apply IsS82.drew | apply IsS82.set_1 | apply IsS82.set_2) | exact HI163.out)) (by (with_reducible repeat (first | apply Kd.R_alloc | apply Kd.R_drewN | apply Kd.R_drew)); exact HO170.out) (by decide)) hk (fun _ h => h.2)) (fun _ h => h.1)); have n1_ := Aside0.mk (hb); have n2_ := Aside0.mk (hi); clear HO170; clear HB; clear HI163; have HO170 := n0_; have HB := n1_; have HI163 := n2_; clear n0_ n1_ n2_; (try clear hb); (try clear hb2); (try clear hk); (try clear hi)))
  go_ret
  exact ⟨by first | rfl | (simp [errW_none, errW_some] <;> rfl) | (simp [*, errW_none, errW_some] <;> rfl), by repeat (first | (with_reducible first | exact HB.out | apply below_alloc | apply pw_below_drewN | apply below_drew1 | refine below_set ?_ (IsS82.ge HI163.out)) | exact HB.out)⟩

/-! ### spec_DrawIsRed: function 61 -/
def spec_DrawIsRed.f (k : Nat) (l0 : List Int) : Option (Int) := (spec_DrawIsCard.f k l0).bind fun t174 => (some t174)
theorem spec_DrawIsRed.mono : ∀ a0 k, LeO (spec_DrawIsRed.f k a0) (spec_DrawIsRed.f (k + 1) a0) := by
  intro a0 k
  unfold spec_DrawIsRed.f
  repeat' first
      | (with_reducible exact spec_DrawIsCard.mono _ _)
      | (with_reducible exact LeO.refl _)
      | (with_reducible exact LeO.none _)
      | (with_reducible refine LeO.ite ?_ ?_)
      | (with_reducible refine LeO.bind ?_ (fun _ => ?_))
      | exact spec_DrawIsCard.mono _ _
      | exact LeO.none _
      | refine LeO.ite ?_ ?_
      | refine LeO.bind ?_ (fun _ => ?_)
set_option maxHeartbeats 8000000 in
set_option maxRecDepth 100000 in
theorem spec_DrawIsRed.calls (k : Nat) (A0 : Option Addr) (c0 : Nat) (l0 : List Int) (r : Int) (w : World) (hr0 : Kd.C (Kd.int .u8) w A0 l0.length l0) (hc0 : l0.length ≤ c0) (h : spec_DrawIsRed.f k l0 = some r) :
    Calls Try.prog 61 #[.slice A0 l0.length c0] w fun e w' => e = .returned (.int .i64 r) ∧ Below w.heap.size w w' := by
  have HR0 := Aside0.mk hr0
  have HC0 := Aside0.mk hc0
  clear hr0 hc0
  have HB := Aside0.mk (Below.refl w.heap.size w)
  have H : ((spec_DrawIsCard.f k l0).bind fun t174 => (some t174)) = some r := h
  clear h
  replace H := Option.bind_eq_some_iff.mp H
  obtain ⟨t174, A20, H⟩ := H
  replace H : (some t174) = some r := H
  have A2 := Aside0.mk A20
  clear A20
  obtain rfl := Option.some.inj H
  go_enter Try.func61, Try.ntmps61
  go_wp2_with (first | ((with_reducible refine gate_callee (f := 88) rfl ?_); refine goesL_ (some 4) rfl rfl Try.func88 (by kernel_rfl) rfl #[.slice A0 l0.length c0] rfl (by (try simp only [List.map_toArray, List.map_cons, List.map_nil]); first | done | rfl | (simp only [List.length_drop, List.length_take]; rfl)) ?_; (with_reducible refine (spec_DrawIsCard.calls k _ _ l0 t174 _ ?side1 ?side2 A2.out).mono ?_); (case side1 => repeat (first | exact HR0.out | (with_reducible refine Kd.C_alloc ?_ _) | (with_reducible refine Kd.C_drewN ?_ _) | (with_reducible refine Kd.C_drew ?_))); (case side2 => exact HC0.out); rintro e w3 ⟨rfl, hb⟩; refine ⟨_, rfl, ?_⟩; have n0_ := Aside0.mk (below_step (by repeat (first | (with_reducible first | exact HB.out | apply below_alloc | apply pw_below_drewN | apply below_drew1) | exact HB.out)) hb); clear HB; have HB := n0_; clear n0_; (try clear hb); (try clear hb2); (try clear hk); (try clear hi)))
  go_ret
  exact ⟨by first | rfl | (simp [errW_none, errW_some] <;> rfl) | (simp [*, errW_none, errW_some] <;> rfl), by repeat (first | (with_reducible first | exact HB.out | apply below_alloc | apply pw_below_drewN | apply below_drew1) | exact HB.out)⟩

/-! ### impl_IsRed: function 62 -/
def impl_IsRed.f (a0 : Int) : Option (Bool) := (impl_SuitOf.f a0).bind fun t175 => (if t175 = 1 then (some true) else ((impl_SuitOf.f a0).bind fun t176 => (some (t176 == 2))))
set_option maxHeartbeats 8000000 in
set_option maxRecDepth 100000 in
theorem impl_IsRed.calls (a0 : Int) (r : Bool) (w : World) (h : impl_IsRed.f a0 = some r) :
    Calls Try.prog 62 #[.int .i64 a0] w fun e w' => e = .returned (.bool r) ∧ Drawn0 w w' := by
  have H : ((impl_SuitOf.f a0).bind fun t175 => (if t175 = 1 then (some true) else ((impl_SuitOf.f a0).bind fun t176 => (some (t176 == 2))))) = some r := h
  clear h
  replace H := Option.bind_eq_some_iff.mp H
  obtain ⟨t175, A20, H⟩ := H
  replace H : (if t175 = 1 then (some true) else ((impl_SuitOf.f a0).bind fun t176 => (some (t176 == 2)))) = some r := H
  have A2 := Aside0.mk A20
  clear A20
  by_cases c3 : t175 = 1
  · rw [if_pos c3] at H
    have c3b0 : (t175 == 1) = true := beq_iff_eq.mpr c3
    have c3b1 : (t175 != 1) = false := bne_eq_false_iff_eq.mpr c3
    clear c3
    obtain rfl := Option.some.inj H
    go_enter Try.func62, Try.ntmps62
    go_wp2_with (first | ((with_reducible refine gate_callee (f := 58) rfl ?_); refine goesL_ (some 4) rfl rfl Try.func58 (by kernel_rfl) rfl #[.int .i64 a0] rfl (by (try simp only [List.map_toArray, List.map_cons, List.map_nil]); first | done | rfl | (simp only [List.length_drop, List.length_take]; rfl)) ?_; (with_reducible refine (impl_SuitOf.calls a0 t175 _ A2.out).mono ?_); rintro e w' ⟨rfl, ⟨nd, rfl⟩⟩; refine ⟨_, rfl, ?_⟩))
    go_ret
    exact ⟨by first | rfl | (simp; done) | (simp [*]; done), by repeat (first | exact Drawn0.refl _ | apply Drawn0.step)⟩
  · rw [if_neg c3] at H
    have c3b0 : (t175 == 1) = false := beq_eq_false_iff_ne.mpr c3
    have c3b1 : (t175 != 1) = true := bne_iff_ne.mpr c3
    replace H := Option.bind_eq_some_iff.mp H
    obtain ⟨t176, A40, H⟩ := H
    replace H : (some (t176 == 2)) = some r := H
    have A4 := Aside0.mk A40
    clear A40
    obtain rfl := Option.some.inj H
    go_enter Try.func62, Try.ntmps62
    go_wp2_with (first | ((with_reducible refine gate_callee (f := 58) rfl ?_); refine goesL_ (some 4) rfl rfl Try.func58 (by kernel_rfl) rfl #[.int .i64 a0] rfl (by (try simp only [List.map_toArray, List.map_cons, List.map_nil]); first | done | rfl | (simp only [List.length_drop, List.length_take]; rfl)) ?_; (with_reducible refine (impl_SuitOf.calls a0 t175 _ A2.out).mono ?_); rintro e w' ⟨rfl, ⟨nd, rfl⟩⟩; refine ⟨_, rfl, ?_⟩) | (go_at_call 58; (with_reducible refine (impl_SuitOf.calls a0 t176 _ A4.out).mono ?_); rintro e w' ⟨rfl, ⟨nd, rfl⟩⟩))
    go_ret
    exact ⟨by first | rfl | (simp; done) | (simp [*]; done), by repeat (first | exact Drawn0.refl _ | apply Drawn0.step)⟩

/-! ### laws_FnCards: function 13 -/
def laws_FnCards.j0 : Nat → List Int → Bool → Option (Bool)
  | 0, _, _ => none
  | k + 1, x0, x53 => if x53 = true then (some false) else ((spec_DrawParseCard.f k x0).bind fun t191 => ((impl_ParseCard.f t191).bind fun t192 => ((spec_DrawIsRed.f k x0).bind fun t193 => (if t192 = (-1) then ((impl_IsRed.f t193).bind fun t194 => ((impl_SuitOf.f t193).bind fun t195 => (if t195 = 1 then (some (t194 == true)) else ((impl_SuitOf.f t193).bind fun t196 => (some (t194 == (t196 == 2))))))) else ((impl_CardText.f t192).bind fun t197 => (if t197.toList = t191.toList then ((impl_IsRed.f t193).bind fun t198 => ((impl_SuitOf.f t193).bind fun t199 => (if t199 = 1 then (some (t198 == true)) else ((impl_SuitOf.f t193).bind fun t200 => (some (t198 == (t200 == 2))))))) else (some false)))))))
def laws_FnCards.f (k : Nat) (l0 : List Int) : Option (Bool) := (laws_big.f l0).bind fun t177 => (if t177 = true then (some true) else ((spec_DrawCardText.f k l0).bind fun t178 => ((impl_CardText.f t178).bind fun t179 => ((impl_IsCard.f t178).bind fun t180 => (if (t180 != (t179.toList != ([] : List UInt8))) = true then (laws_FnCards.j0 k l0 true) else ((impl_IsCard.f t178).bind fun t181 => (if t181 = true then ((impl_ParseCard.f t179).bind fun t182 => (if t182 = t178 then ((impl_SuitOf.f t178).bind fun t183 => ((impl_RankOf.f t178).bind fun t184 => (if (wrap64 ((wrap64 (t183 * 13)) + t184)) = t178 then ((impl_IsCard.f t178).bind fun t185 => (if t185 = true then (laws_FnCards.j0 k l0 false) else ((impl_SuitOf.f t178).bind fun t186 => (if t186 = (-1) then ((impl_RankOf.f t178).bind fun t187 => (laws_FnCards.j0 k l0 (t187 != (-1)))) else (laws_FnCards.j0 k l0 true))))) else (laws_FnCards.j0 k l0 true)))) else (laws_FnCards.j0 k l0 true))) else ((impl_IsCard.f t178).bind fun t188 => (if t188 = true then (laws_FnCards.j0 k l0 false) else ((impl_SuitOf.f t178).bind fun t189 => (if t189 = (-1) then ((impl_RankOf.f t178).bind fun t190 => (laws_FnCards.j0 k l0 (t190 != (-1)))) else (laws_FnCards.j0 k l0 true))))))))))))
theorem laws_FnCards.mono_l : ∀ k, (∀ y0 y1, LeO (laws_FnCards.j0 k y0 y1) (laws_FnCards.j0 (k + 1) y0 y1))
  | 0 => fun _ _ r h => by simp [laws_FnCards.j0] at h
  | k + 1 => by
    have ih0 := laws_FnCards.mono_l k
    · intro y0 y1
      unfold laws_FnCards.j0
      repeat' first
      | (with_reducible exact ih0 _ _)
      | (with_reducible exact spec_DrawCardText.mono _ _)
      | (with_reducible exact spec_DrawIsRed.mono _ _)
      | (with_reducible exact spec_DrawParseCard.mono _ _)
      | (with_reducible exact LeO.refl _)
      | (with_reducible exact LeO.none _)
      | (with_reducible refine LeO.ite ?_ ?_)
      | (with_reducible refine LeO.bind ?_ (fun _ => ?_))
      | exact ih0 _ _
      | exact spec_DrawCardText.mono _ _
      | exact spec_DrawIsRed.mono _ _
      | exact spec_DrawParseCard.mono _ _
      | exact LeO.none _
      | refine LeO.ite ?_ ?_
      | refine LeO.bind ?_ (fun _ => ?_)
theorem laws_FnCards.mono : ∀ a0 k, LeO (laws_FnCards.f k a0) (laws_FnCards.f (k + 1) a0) := by
  intro a0 k
  have ih0 := laws_FnCards.mono_l k
  unfold laws_FnCards.f
  repeat' first
      | (with_reducible exact ih0 _ _)
      | (with_reducible exact spec_DrawCardText.mono _ _)
      | (with_reducible exact spec_DrawIsRed.mono _ _)
      | (with_reducible exact spec_DrawParseCard.mono _ _)
      | (with_reducible exact LeO.refl _)
      | (with_reducible exact LeO.none _)
      | (with_reducible refine LeO.ite ?_ ?_)
      | (with_reducible refine LeO.bind ?_ (fun _ => ?_))
      | exact ih0 _ _
      | exact spec_DrawCardText.mono _ _
      | exact spec_DrawIsRed.mono _ _
      | exact spec_DrawParseCard.mono _ _
      | exact LeO.none _
      | refine LeO.ite ?_ ?_
      | refine LeO.bind ?_ (fun _ => ?_)
set_option maxHeartbeats 8000000 in
set_option maxRecDepth 100000 in
theorem laws_FnCards.calls (k : Nat) (A0 : Option Addr) (c0 : Nat) (l0 : List Int) (r : Bool) (w : World) (hr0 : Kd.C (Kd.int .u8) w A0 l0.length l0) (hc0 : l0.length ≤ c0) (h : laws_FnCards.f k l0 = some r) :
    Calls Try.prog 13 #[.slice A0 l0.length c0] w fun e w' => e = .returned (.bool r) ∧ Below w.heap.size w w' := by
  have HR0 := Aside0.mk hr0
  have HC0 := Aside0.mk hc0
  clear hr0 hc0
  have HB := Aside0.mk (Below.refl w.heap.size w)
  have H : ((laws_big.f l0).bind fun t177 => (if t177 = true then (some true) else ((spec_DrawCardText.f k l0).bind fun t178 => ((impl_CardText.f t178).bind fun t179 => ((impl_IsCard.f t178).bind fun t180 => (if (t180 != (t179.toList != ([] : List UInt8))) = true then (laws_FnCards.j0 k l0 true) else ((impl_IsCard.f t178).bind fun t181 => (if t181 = true then ((impl_ParseCard.f t179).bind fun t182 => (if t182 = t178 then ((impl_SuitOf.f t178).bind fun t183 => ((impl_RankOf.f t178).bind fun t184 => (if (wrap64 ((wrap64 (t183 * 13)) + t184)) = t178 then ((impl_IsCard.f t178).bind fun t185 => (if t185 = true then (laws_FnCards.j0 k l0 false) else ((impl_SuitOf.f t178).bind fun t186 => (if t186 = (-1) then ((impl_RankOf.f t178).bind fun t187 => (laws_FnCards.j0 k l0 (t187 != (-1)))) else (laws_FnCards.j0 k l0 true))))) else (laws_FnCards.j0 k l0 true)))) else (laws_FnCards.j0 k l0 true))) else ((impl_IsCard.f t178).bind fun t188 => (if t188 = true then (laws_FnCards.j0 k l0 false) else ((impl_SuitOf.f t178).bind fun t189 => (if t189 = (-1) then ((impl_RankOf.f t178).bind fun t190 => (laws_FnCards.j0 k l0 (t190 != (-1)))) else (laws_FnCards.j0 k l0 true))))))))))))) = some r := h
  clear h
  replace H := Option.bind_eq_some_iff.mp H
  obtain ⟨t177, A20, H⟩ := H
  replace H : (if t177 = true then (some true) else ((spec_DrawCardText.f k l0).bind fun t178 => ((impl_CardText.f t178).bind fun t179 => ((impl_IsCard.f t178).bind fun t180 => (if (t180 != (t179.toList != ([] : List UInt8))) = true then (laws_FnCards.j0 k l0 true) else ((impl_IsCard.f t178).bind fun t181 => (if t181 = true then ((impl_ParseCard.f t179).bind fun t182 => (if t182 = t178 then ((impl_SuitOf.f t178).bind fun t183 => ((impl_RankOf.f t178).bind fun t184 => (if (wrap64 ((wrap64 (t183 * 13)) + t184)) = t178 then ((impl_IsCard.f t178).bind fun t185 => (if t185 = true then (laws_FnCards.j0 k l0 false) else ((impl_SuitOf.f t178).bind fun t186 => (if t186 = (-1) then ((impl_RankOf.f t178).bind fun t187 => (laws_FnCards.j0 k l0 (t187 != (-1)))) else (laws_FnCards.j0 k l0 true))))) else (laws_FnCards.j0 k l0 true)))) else (laws_FnCards.j0 k l0 true))) else ((impl_IsCard.f t178).bind fun t188 => (if t188 = true then (laws_FnCards.j0 k l0 false) else ((impl_SuitOf.f t178).bind fun t189 => (if t189 = (-1) then ((impl_RankOf.f t178).bind fun t190 => (laws_FnCards.j0 k l0 (t190 != (-1)))) else (laws_FnCards.j0 k l0 true)))))))))))) = some r := H
  have A2 := Aside0.mk A20
  clear A20
  by_cases c3 : t177 = true
  · subst c3
    have H1 : (some true) = some r := by rw [if_pos rfl] at H; exact H
    clear H
    have H := H1
    clear H1
    obtain rfl := Option.some.inj H
    go_enter Try.func13, Try.ntmps13
    go_wp2_with (first | ((with_reducible refine gate_callee (f := 36) rfl ?_); refine goesL_ (some 9) rfl rfl Try.func36 (by kernel_rfl) rfl #[.slice A0 l0.length c0] rfl (by (try simp only [List.map_toArray, List.map_cons, List.map_nil]); first | done | rfl | (simp only [List.length_drop, List.length_take]; rfl)) ?_; (with_reducible refine (laws_big.calls _ _ l0 true _ ?side1 ?side2 A2.out).mono ?_); (case side1 => repeat (first | exact HR0.out | (with_reducible refine Kd.C_alloc ?_ _) | (with_reducible refine Kd.C_drewN ?_ _) | (with_reducible refine Kd.C_drew ?_))); (case side2 => exact HC0.out); rintro e w' ⟨rfl, ⟨nd, rfl⟩⟩; refine ⟨_, rfl, ?_⟩))
    go_ret
    exact ⟨by first | rfl | (simp [errW_none, errW_some] <;> rfl) | (simp [*, errW_none, errW_some] <;> rfl), by repeat (first | (with_reducible first | exact HB.out | apply below_alloc | apply pw_below_drewN | apply below_drew1) | exact HB.out)⟩
  · replace c3 := Bool.eq_false_iff.mpr c3
    subst c3
    have H1 : ((spec_DrawCardText.f k l0).bind fun t178 => ((impl_CardText.f t178).bind fun t179 => ((impl_IsCard.f t178).bind fun t180 => (if (t180 != (t179.toList != ([] : List UInt8))) = true then (laws_FnCards.j0 k l0 true) else ((impl_IsCard.f t178).bind fun t181 => (if t181 = true then ((impl_ParseCard.f t179).bind fun t182 => (if t182 = t178 then ((impl_SuitOf.f t178).bind fun t183 => ((impl_RankOf.f t178).bind fun t184 => (if (wrap64 ((wrap64 (t183 * 13)) + t184)) = t178 then ((impl_IsCard.f t178).bind fun t185 => (if t185 = true then (laws_FnCards.j0 k l0 false) else ((impl_SuitOf.f t178).bind fun t186 => (if t186 = (-1) then ((impl_RankOf.f t178).bind fun t187 => (laws_FnCards.j0 k l0 (t187 != (-1)))) else (laws_FnCards.j0 k l0 true))))) else (laws_FnCards.j0 k l0 true)))) else (laws_FnCards.j0 k l0 true))) else ((impl_IsCard.f t178).bind fun t188 => (if t188 = true then (laws_FnCards.j0 k l0 false) else ((impl_SuitOf.f t178).bind fun t189 => (if t189 = (-1) then ((impl_RankOf.f t178).bind fun t190 => (laws_FnCards.j0 k l0 (t190 != (-1)))) else (laws_FnCards.j0 k l0 true))))))))))) = some r := by rw [if_neg (show ¬ (false = true) by decide)] at H; exact H
    clear H
    have H := H1
    clear H1
    replace H := Option.bind_eq_some_iff.mp H
    obtain ⟨t178, A40, H⟩ := H
    replace H : ((impl_CardText.f t178).bind fun t179 => ((impl_IsCard.f t178).bind fun t180 => (if (t180 != (t179.toList != ([] : List UInt8))) = true then (laws_FnCards.j0 k l0 true) else ((impl_IsCard.f t178).bind fun t181 => (if t181 = true then ((impl_ParseCard.f t179).bind fun t182 => (if t182 = t178 then ((impl_SuitOf.f t178).bind fun t183 => ((impl_RankOf.f t178).bind fun t184 => (if (wrap64 ((wrap64 (t183 * 13)) + t184)) = t178 then ((impl_IsCard.f t178).bind fun t185 => (if t185 = true then (laws_FnCards.j0 k l0 false) else ((impl_SuitOf.f t178).bind fun t186 => (if t186 = (-1) then ((impl_RankOf.f t178).bind fun t187 => (laws_FnCards.j0 k l0 (t187 != (-1)))) else (laws_FnCards.j0 k l0 true))))) else (laws_FnCards.j0 k l0 true)))) else (laws_FnCards.j0 k l0 true))) else ((impl_IsCard.f t178).bind fun t188 => (if t188 = true then (laws_FnCards.j0 k l0 false) else ((impl_SuitOf.f t178).bind fun t189 => (if t189 = (-1) then ((impl_RankOf.f t178).bind fun t190 => (laws_FnCards.j0 k l0 (t190 != (-1)))) else (laws_FnCards.j0 k l0 true)))))))))) = some r := H
    have A4 := Aside0.mk A40
    clear A40
    replace H := Option.bind_eq_some_iff.mp H
    obtain ⟨t179, A50, H⟩ := H
    replace H : ((impl_IsCard.f t178).bind fun t180 => (if (t180 != (t179.toList != ([] : List UInt8))) = true then (laws_FnCards.j0 k l0 true) else ((impl_IsCard.f t178).bind fun t181 => (if t181 = true then ((impl_ParseCard.f t179).bind fun t182 => (if t182 = t178 then ((impl_SuitOf.f t178).bind fun t183 => ((impl_RankOf.f t178).bind fun t184 => (if (wrap64 ((wrap64 (t183 * 13)) + t184)) = t178 then ((impl_IsCard.f t178).bind fun t185 => (if t185 = true then (laws_FnCards.j0 k l0 false) else ((impl_SuitOf.f t178).bind fun t186 => (if t186 = (-1) then ((impl_RankOf.f t178).bind fun t187 => (laws_FnCards.j0 k l0 (t187 != (-1)))) else (laws_FnCards.j0 k l0 true))))) else (laws_FnCards.j0 k l0 true)))) else (laws_FnCards.j0 k l0 true))) else ((impl_IsCard.f t178).bind fun t188 => (if t188 = true then (laws_FnCards.j0 k l0 false) else ((impl_SuitOf.f t178).bind fun t189 => (if t189 = (-1) then ((impl_RankOf.f t178).bind fun t190 => (laws_FnCards.j0 k l0 (t190 != (-1)))) else (laws_FnCards.j0 k l0 true))))))))) = some r := H
    have A5 := Aside0.mk A50
    clear A50
    have HC6 := Aside0.mk H
    clear H
    go_enter Try.func13, Try.ntmps13
    go_upto_region 5 with (first | ((with_reducible refine gate_callee (f := 36) rfl ?_); refine goesL_ (some 9) rfl rfl Try.func36 (by kernel_rfl) rfl #[.slice A0 l0.length c0] rfl (by (try simp only [List.map_toArray, List.map_cons, List.map_nil]); first | done | rfl | (simp only [List.length_drop, List.length_take]; rfl)) ?_; (with_reducible refine (laws_big.calls _ _ l0 false _ ?side1 ?side2 A2.out).mono ?_); (case side1 => repeat (first | exact HR0.out | (with_reducible refine Kd.C_alloc ?_ _) | (with_reducible refine Kd.C_drewN ?_ _) | (with_reducible refine Kd.C_drew ?_))); (case side2 => exact HC0.out); rintro e w' ⟨rfl, ⟨nd, rfl⟩⟩; refine ⟨_, rfl, ?_⟩) | ((with_reducible refine gate_callee (f := 54) rfl ?_); refine goesL_ (some 11) rfl rfl Try.func54 (by kernel_rfl) rfl #[.slice A0 l0.length c0] rfl (by (try simp only [List.map_toArray, List.map_cons, List.map_nil]); first | done | rfl | (simp only [List.length_drop, List.length_take]; rfl)) ?_; (with_reducible refine (spec_DrawCardText.calls k _ _ l0 t178 _ ?side1 ?side2 A4.out).mono ?_); (case side1 => repeat (first | exact HR0.out | (with_reducible refine Kd.C_alloc ?_ _) | (with_reducible refine Kd.C_drewN ?_ _) | (with_reducible refine Kd.C_drew ?_))); (case side2 => exact HC0.out); rintro e w7 ⟨rfl, hb⟩; refine ⟨_, rfl, ?_⟩; have n0_ := Aside0.mk (below_step (by repeat (first | (with_reducible first | exact HB.out | apply below_alloc | apply pw_below_drewN | apply below_drew1) | exact HB.out)) hb); clear HB; have HB := n0_; clear n0_; (try clear hb); (try clear hb2); (try clear hk); (try clear hi)) | ((with_reducible refine gate_callee (f := 55) rfl ?_); refine goesL_ (some 13) rfl rfl Try.func55 (by kernel_rfl) rfl #[.int .i64 t178] rfl (by (try simp only [List.map_toArray, List.map_cons, List.map_nil]); first | done | rfl | (simp only [List.length_drop, List.length_take]; rfl)) ?_; (with_reducible refine (impl_CardText.calls t178 t179 _ A5.out).mono ?_); rintro e w' ⟨rfl, ⟨nd, rfl⟩⟩; refine ⟨_, rfl, ?_⟩))
    (try simp only [Act.put, List.setIfInBounds_toArray, List.set_cons_zero, List.set_cons_succ])
    go_cut [53] (fun v53 wc => ∃ (kq : Nat) (x53_5 : Bool), v53 = .bool x53_5 ∧ Aside0 (laws_FnCards.j0 kq l0 x53_5 = some r) ∧ Aside0 (kq ≤ k) ∧ Aside0 (Below w.heap.size w wc))
    case first =>
      have H := HC6.out
      clear HC6
      replace H := Option.bind_eq_some_iff.mp H
      obtain ⟨t180, A80, H⟩ := H
      replace H : (if (t180 != (t179.toList != ([] : List UInt8))) = true then (laws_FnCards.j0 k l0 true) else ((impl_IsCard.f t178).bind fun t181 => (if t181 = true then ((impl_ParseCard.f t179).bind fun t182 => (if t182 = t178 then ((impl_SuitOf.f t178).bind fun t183 => ((impl_RankOf.f t178).bind fun t184 => (if (wrap64 ((wrap64 (t183 * 13)) + t184)) = t178 then ((impl_IsCard.f t178).bind fun t185 => (if t185 = true then (laws_FnCards.j0 k l0 false) else ((impl_SuitOf.f t178).bind fun t186 => (if t186 = (-1) then ((impl_RankOf.f t178).bind fun t187 => (laws_FnCards.j0 k l0 (t187 != (-1)))) else (laws_FnCards.j0 k l0 true))))) else (laws_FnCards.j0 k l0 true)))) else (laws_FnCards.j0 k l0 true))) else ((impl_IsCard.f t178).bind fun t188 => (if t188 = true then (laws_FnCards.j0 k l0 false) else ((impl_SuitOf.f t178).bind fun t189 => (if t189 = (-1) then ((impl_RankOf.f t178).bind fun t190 => (laws_FnCards.j0 k l0 (t190 != (-1)))) else (laws_FnCards.j0 k l0 true)))))))) = some r := H
      have A8 := Aside0.mk A80
      clear A80
      by_cases c9 : (t180 != (t179.toList != ([] : List UInt8))) = true
      · rw [if_pos c9] at H
        have c9b0 : (t180 != (t179.toList != ([] : List UInt8))) = true := c9
        have e_ : (t179.toList != ([] : List UInt8)) = !t179.toList.isEmpty := by cases t179.toList <;> rfl
        have c9bz : (t180 != !t179.toList.isEmpty) = true := by rw [← e_]; exact c9b0
        (try (have c9by : (t180 == t179.toList.isEmpty) = true := by (have z_ := c9bz; revert z_; cases t180 <;> cases t179.toList.isEmpty <;> simp)))
        clear e_
        (try (have c9b1 : decide (t180 = (t179.toList != ([] : List UInt8))) = false := by simpa using c9))
        (try (have c9b2 : (t180 == (t179.toList != ([] : List UInt8))) = false := by simpa using c9))
        (try (have c9b3 : ¬ (t180 = (t179.toList != ([] : List UInt8))) := by simpa using c9))
        clear c9
        have e8_ : t180 = t179.toList.isEmpty := by (have z_ := c9bz; revert z_; cases t180 <;> cases t179.toList.isEmpty <;> simp)
        rw [e8_] at A8
        (first | rw [c9b0] | (simp only [i64_w, i32_w]; rw [c9b0]) | skip)
        have H' := Aside0.mk H
        clear H
        go_wp2_with (first | ((with_reducible refine gate_callee (f := 56) rfl ?_); refine goesL_ (some 15) rfl rfl Try.func56 (by kernel_rfl) rfl #[.int .i64 t178] rfl (by (try simp only [List.map_toArray, List.map_cons, List.map_nil]); first | done | rfl | (simp only [List.length_drop, List.length_take]; rfl)) ?_; (with_reducible refine (impl_IsCard.calls t178 t179.toList.isEmpty _ A8.out).mono ?_); rintro e w' ⟨rfl, ⟨nd, rfl⟩⟩; refine ⟨_, rfl, ?_⟩))
        go_meet
        case rel => exact ⟨_, (true), (by first | rfl | (simp; done) | (simp [*]; done)), H', ⟨by first | omega | exact Nat.le_refl _⟩, ⟨by repeat (first | (with_reducible first | exact HB.out | apply below_alloc | apply pw_below_drewN | apply below_drew1) | exact HB.out)⟩⟩
      · rw [if_neg c9] at H
        have c9b0 : (t180 != (t179.toList != ([] : List UInt8))) = false := by simpa using c9
        have e_ : (t179.toList != ([] : List UInt8)) = !t179.toList.isEmpty := by cases t179.toList <;> rfl
        have c9bz : (t180 != !t179.toList.isEmpty) = false := by rw [← e_]; exact c9b0
        (try (have c9by : (t180 == t179.toList.isEmpty) = false := by (have z_ := c9bz; revert z_; cases t180 <;> cases t179.toList.isEmpty <;> simp)))
        clear e_
        (try (have c9b1 : decide (t180 = (t179.toList != ([] : List UInt8))) = true := by simpa using c9))
        (try (have c9b2 : (t180 == (t179.toList != ([] : List UInt8))) = true := by simpa using c9))
        clear c9
        (first | rw [c9b0] | (simp only [i64_w, i32_w]; rw [c9b0]) | skip)
        replace H := Option.bind_eq_some_iff.mp H
        obtain ⟨t181, A100, H⟩ := H
        replace H : (if t181 = true then ((impl_ParseCard.f t179).bind fun t182 => (if t182 = t178 then ((impl_SuitOf.f t178).bind fun t183 => ((impl_RankOf.f t178).bind fun t184 => (if (wrap64 ((wrap64 (t183 * 13)) + t184)) = t178 then ((impl_IsCard.f t178).bind fun t185 => (if t185 = true then (laws_FnCards.j0 k l0 false) else ((impl_SuitOf.f t178).bind fun t186 => (if t186 = (-1) then ((impl_RankOf.f t178).bind fun t187 => (laws_FnCards.j0 k l0 (t187 != (-1)))) else (laws_FnCards.j0 k l0 true))))) else (laws_FnCards.j0 k l0 true)))) else (laws_FnCards.j0 k l0 true))) else ((impl_IsCard.f t178).bind fun t188 => (if t188 = true then (laws_FnCards.j0 k l0 false) else ((impl_SuitOf.f t178).bind fun t189 => (if t189 = (-1) then ((impl_RankOf.f t178).bind fun t190 => (laws_FnCards.j0 k l0 (t190 != (-1)))) else (laws_FnCards.j0 k l0 true)))))) = some r := H
        have A10 := Aside0.mk A100
        clear A100
        by_cases c11 : t181 = true
        · subst c11
          have e8_ : t180 = true := Option.some.inj (A8.out.symm.trans A10.out)
          rw [e8_] at A8
          have hz_ : t179.toList.isEmpty = false := by (rw [e8_] at c9bz; simpa using c9bz)
          have H1 : ((impl_ParseCard.f t179).bind fun t182 => (if t182 = t178 then ((impl_SuitOf.f t178).bind fun t183 => ((impl_RankOf.f t178).bind fun t184 => (if (wrap64 ((wrap64 (t183 * 13)) + t184)) = t178 then ((impl_IsCard.f t178).bind fun t185 => (if t185 = true then (laws_FnCards.j0 k l0 false) else ((impl_SuitOf.f t178).bind fun t186 => (if t186 = (-1) then ((impl_RankOf.f t178).bind fun t187 => (laws_FnCards.j0 k l0 (t187 != (-1)))) else (laws_FnCards.j0 k l0 true))))) else (laws_FnCards.j0 k l0 true)))) else (laws_FnCards.j0 k l0 true))) = some r := by rw [if_pos rfl] at H; exact H
          clear H
          have H := H1
          clear H1
          replace H := Option.bind_eq_some_iff.mp H
          obtain ⟨t182, A120, H⟩ := H
          replace H : (if t182 = t178 then ((impl_SuitOf.f t178).bind fun t183 => ((impl_RankOf.f t178).bind fun t184 => (if (wrap64 ((wrap64 (t183 * 13)) + t184)) = t178 then ((impl_IsCard.f t178).bind fun t185 => (if t185 = true then (laws_FnCards.j0 k l0 false) else ((impl_SuitOf.f t178).bind fun t186 => (if t186 = (-1) then ((impl_RankOf.f t178).bind fun t187 => (laws_FnCards.j0 k l0 (t187 != (-1)))) else (laws_FnCards.j0 k l0 true))))) else (laws_FnCards.j0 k l0 true)))) else (laws_FnCards.j0 k l0 true)) = some r := H
          have A12 := Aside0.mk A120
          clear A120
          by_cases c13 : t182 = t178
          · rw [if_pos c13] at H
            have c13b0 : (t182 == t178) = true := beq_iff_eq.mpr c13
            have c13b1 : (t182 != t178) = false := bne_eq_false_iff_eq.mpr c13
            clear c13
            replace H := Option.bind_eq_some_iff.mp H
            obtain ⟨t183, A140, H⟩ := H
            replace H : ((impl_RankOf.f t178).bind fun t184 => (if (wrap64 ((wrap64 (t183 * 13)) + t184)) = t178 then ((impl_IsCard.f t178).bind fun t185 => (if t185 = true then (laws_FnCards.j0 k l0 false) else ((impl_SuitOf.f t178).bind fun t186 => (if t186 = (-1) then ((impl_RankOf.f t178).bind fun t187 => (laws_FnCards.j0 k l0 (t187 != (-1)))) else (laws_FnCards.j0 k l0 true))))) else (laws_FnCards.j0 k l0 true))) = some r := H
            have A14 := Aside0.mk A140
            clear A140
            replace H := Option.bind_eq_some_iff.mp H
            obtain ⟨t184, A150, H⟩ := H
            replace H : (if (wrap64 ((wrap64 (t183 * 13)) + t184)) = t178 then ((impl_IsCard.f t178).bind fun t185 => (if t185 = true then (laws_FnCards.j0 k l0 false) else ((impl_SuitOf.f t178).bind fun t186 => (if t186 = (-1) then ((impl_RankOf.f t178).bind fun t187 => (laws_FnCards.j0 k l0 (t187 != (-1)))) else (laws_FnCards.j0 k l0 true))))) else (laws_FnCards.j0 k l0 true)) = some r := H
            have A15 := Aside0.mk A150
            clear A150
            by_cases c16 : (wrap64 ((wrap64 (t183 * 13)) + t184)) = t178
            · rw [if_pos c16] at H
              have c16b0 : ((wrap64 ((wrap64 (t183 * 13)) + t184)) == t178) = true := beq_iff_eq.mpr c16
              have c16b1 : ((wrap64 ((wrap64 (t183 * 13)) + t184)) != t178) = false := bne_eq_false_iff_eq.mpr c16
              clear c16
              replace H := Option.bind_eq_some_iff.mp H
              obtain ⟨t185, A170, H⟩ := H
              replace H : (if t185 = true then (laws_FnCards.j0 k l0 false) else ((impl_SuitOf.f t178).bind fun t186 => (if t186 = (-1) then ((impl_RankOf.f t178).bind fun t187 => (laws_FnCards.j0 k l0 (t187 != (-1)))) else (laws_FnCards.j0 k l0 true)))) = some r := H
              have A17 := Aside0.mk A170
              clear A170
              by_cases c18 : t185 = true
              · subst c18
                have H1 : (laws_FnCards.j0 k l0 false) = some r := by rw [if_pos rfl] at H; exact H
                clear H
                have H := H1
                clear H1
                have H' := Aside0.mk H
                clear H
                go_wp2_with (first | ((with_reducible refine gate_callee (f := 56) rfl ?_); refine goesL_ (some 15) rfl rfl Try.func56 (by kernel_rfl) rfl #[.int .i64 t178] rfl (by (try simp only [List.map_toArray, List.map_cons, List.map_nil]); first | done | rfl | (simp only [List.length_drop, List.length_take]; rfl)) ?_; (with_reducible refine (impl_IsCard.calls t178 true _ A8.out).mono ?_); rintro e w' ⟨rfl, ⟨nd, rfl⟩⟩; refine ⟨_, rfl, ?_⟩) | (go_at_call 56; (with_reducible refine (impl_IsCard.calls t178 true _ A10.out).mono ?_); rintro e w' ⟨rfl, ⟨nd, rfl⟩⟩) | (go_at_call 57; (with_reducible refine (impl_ParseCard.calls t179 t182 _ A12.out).mono ?_); rintro e w' ⟨rfl, ⟨nd, rfl⟩⟩) | (go_at_call 58; (with_reducible refine (impl_SuitOf.calls t178 t183 _ A14.out).mono ?_); rintro e w' ⟨rfl, ⟨nd, rfl⟩⟩) | (go_at_call 59; (with_reducible refine (impl_RankOf.calls t178 t184 _ A15.out).mono ?_); rintro e w' ⟨rfl, ⟨nd, rfl⟩⟩) | (go_at_call 56; (with_reducible refine (impl_IsCard.calls t178 true _ A17.out).mono ?_); rintro e w' ⟨rfl, ⟨nd, rfl⟩⟩))
                go_meet
                case rel => exact ⟨_, (false), (by first | rfl | (simp; done) | (simp [*]; done)), H', ⟨by first | omega | exact Nat.le_refl _⟩, ⟨by repeat (first | (with_reducible first | exact HB.out | apply below_alloc | apply pw_below_drewN | apply below_drew1) | exact HB.out)⟩⟩
              · exact absurd (Option.some.inj (A17.out.symm.trans A10.out)) c18
            · rw [if_neg c16] at H
              have c16b0 : ((wrap64 ((wrap64 (t183 * 13)) + t184)) == t178) = false := beq_eq_false_iff_ne.mpr c16
              have c16b1 : ((wrap64 ((wrap64 (t183 * 13)) + t184)) != t178) = true := bne_iff_ne.mpr c16
              have H' := Aside0.mk H
              clear H
              go_wp2_with (first | ((with_reducible refine gate_callee (f := 56) rfl ?_); refine goesL_ (some 15) rfl rfl Try.func56 (by kernel_rfl) rfl #[.int .i64 t178] rfl (by (try simp only [List.map_toArray, List.map_cons, List.map_nil]); first | done | rfl | (simp only [List.length_drop, List.length_take]; rfl)) ?_; (with_reducible refine (impl_IsCard.calls t178 true _ A8.out).mono ?_); rintro e w' ⟨rfl, ⟨nd, rfl⟩⟩; refine ⟨_, rfl, ?_⟩) | (go_at_call 56; (with_reducible refine (impl_IsCard.calls t178 true _ A10.out).mono ?_); rintro e w' ⟨rfl, ⟨nd, rfl⟩⟩) | (go_at_call 57; (with_reducible refine (impl_ParseCard.calls t179 t182 _ A12.out).mono ?_); rintro e w' ⟨rfl, ⟨nd, rfl⟩⟩) | (go_at_call 58; (with_reducible refine (impl_SuitOf.calls t178 t183 _ A14.out).mono ?_); rintro e w' ⟨rfl, ⟨nd, rfl⟩⟩) | (go_at_call 59; (with_reducible refine (impl_RankOf.calls t178 t184 _ A15.out).mono ?_); rintro e w' ⟨rfl, ⟨nd, rfl⟩⟩))
              go_meet
              case rel => exact ⟨_, (true), (by first | rfl | (simp; done) | (simp [*]; done)), H', ⟨by first | omega | exact Nat.le_refl _⟩, ⟨by repeat (first | (with_reducible first | exact HB.out | apply below_alloc | apply pw_below_drewN | apply below_drew1) | exact HB.out)⟩⟩
          · rw [if_neg c13] at H
            have c13b0 : (t182 == t178) = false := beq_eq_false_iff_ne.mpr c13
            have c13b1 : (t182 != t178) = true := bne_iff_ne.mpr c13
            have H' := Aside0.mk H
            clear H
            go_wp2_with (first | ((with_reducible refine gate_callee (f := 56) rfl ?_); refine goesL_ (some 15) rfl rfl Try.func56 (by kernel_rfl) rfl #[.int .i64 t178] rfl (by (try simp only [List.map_toArray, List.map_cons, List.map_nil]); first | done | rfl | (simp only [List.length_drop, List.length_take]; rfl)) ?_; (with_reducible refine (impl_IsCard.calls t178 true _ A8.out).mono ?_); rintro e w' ⟨rfl, ⟨nd, rfl⟩⟩; refine ⟨_, rfl, ?_⟩) | (go_at_call 56; (with_reducible refine (impl_IsCard.calls t178 true _ A10.out).mono ?_); rintro e w' ⟨rfl, ⟨nd, rfl⟩⟩) | (go_at_call 57; (with_reducible refine (impl_ParseCard.calls t179 t182 _ A12.out).mono ?_); rintro e w' ⟨rfl, ⟨nd, rfl⟩⟩))
            go_meet
            case rel => exact ⟨_, (true), (by first | rfl | (simp; done) | (simp [*]; done)), H', ⟨by first | omega | exact Nat.le_refl _⟩, ⟨by repeat (first | (with_reducible first | exact HB.out | apply below_alloc | apply pw_below_drewN | apply below_drew1) | exact HB.out)⟩⟩
        · replace c11 := Bool.eq_false_iff.mpr c11
          subst c11
          have e8_ : t180 = false := Option.some.inj (A8.out.symm.trans A10.out)
          rw [e8_] at A8
          have hz_ : t179.toList.isEmpty = true := by (rw [e8_] at c9bz; simpa using c9bz)
          have H1 : ((impl_IsCard.f t178).bind fun t188 => (if t188 = true then (laws_FnCards.j0 k l0 false) else ((impl_SuitOf.f t178).bind fun t189 => (if t189 = (-1) then ((impl_RankOf.f t178).bind fun t190 => (laws_FnCards.j0 k l0 (t190 != (-1)))) else (laws_FnCards.j0 k l0 true))))) = some r := by rw [if_neg (show ¬ (false = true) by decide)] at H; exact H
          clear H
          have H := H1
          clear H1
          replace H := Option.bind_eq_some_iff.mp H
          obtain ⟨t188, A220, H⟩ := H
          replace H : (if t188 = true then (laws_FnCards.j0 k l0 false) else ((impl_SuitOf.f t178).bind fun t189 => (if t189 = (-1) then ((impl_RankOf.f t178).bind fun t190 => (laws_FnCards.j0 k l0 (t190 != (-1)))) else (laws_FnCards.j0 k l0 true)))) = some r := H
          have A22 := Aside0.mk A220
          clear A220
          by_cases c23 : t188 = true
          · exact absurd ((Option.some.inj (A22.out.symm.trans A10.out)).symm.trans c23) Bool.false_ne_true
          · replace c23 := Bool.eq_false_iff.mpr c23
            subst c23
            have H1 : ((impl_SuitOf.f t178).bind fun t189 => (if t189 = (-1) then ((impl_RankOf.f t178).bind fun t190 => (laws_FnCards.j0 k l0 (t190 != (-1)))) else (laws_FnCards.j0 k l0 true))) = some r := by rw [if_neg (show ¬ (false = true) by decide)] at H; exact H
            clear H
            have H := H1
            clear H1
            replace H := Option.bind_eq_some_iff.mp H
            obtain ⟨t189, A240, H⟩ := H
            replace H : (if t189 = (-1) then ((impl_RankOf.f t178).bind fun t190 => (laws_FnCards.j0 k l0 (t190 != (-1)))) else (laws_FnCards.j0 k l0 true)) = some r := H
            have A24 := Aside0.mk A240
            clear A240
            by_cases c25 : t189 = (-1)
            · rw [if_pos c25] at H
              have c25b0 : (t189 == (-1)) = true := beq_iff_eq.mpr c25
              have c25b1 : (t189 != (-1)) = false := bne_eq_false_iff_eq.mpr c25
              clear c25
              replace H := Option.bind_eq_some_iff.mp H
              obtain ⟨t190, A260, H⟩ := H
              replace H : (laws_FnCards.j0 k l0 (t190 != (-1))) = some r := H
              have A26 := Aside0.mk A260
              clear A260
              have H' := Aside0.mk H
              clear H
              go_wp2_with (first | ((with_reducible refine gate_callee (f := 56) rfl ?_); refine goesL_ (some 15) rfl rfl Try.func56 (by kernel_rfl) rfl #[.int .i64 t178] rfl (by (try simp only [List.map_toArray, List.map_cons, List.map_nil]); first | done | rfl | (simp only [List.length_drop, List.length_take]; rfl)) ?_; (with_reducible refine (impl_IsCard.calls t178 false _ A8.out).mono ?_); rintro e w' ⟨rfl, ⟨nd, rfl⟩⟩; refine ⟨_, rfl, ?_⟩) | (go_at_call 56; (with_reducible refine (impl_IsCard.calls t178 false _ A10.out).mono ?_); rintro e w' ⟨rfl, ⟨nd, rfl⟩⟩) | (go_at_call 56; (with_reducible refine (impl_IsCard.calls t178 false _ A22.out).mono ?_); rintro e w' ⟨rfl, ⟨nd, rfl⟩⟩) | (go_at_call 58; (with_reducible refine (impl_SuitOf.calls t178 t189 _ A24.out).mono ?_); rintro e w' ⟨rfl, ⟨nd, rfl⟩⟩) | (go_at_call 59; (with_reducible refine (impl_RankOf.calls t178 t190 _ A26.out).mono ?_); rintro e w' ⟨rfl, ⟨nd, rfl⟩⟩))
              go_meet
              case rel => exact ⟨_, ((t190 != (-1))), (by first | rfl | (simp; done) | (simp [*]; done)), H', ⟨by first | omega | exact Nat.le_refl _⟩, ⟨by repeat (first | (with_reducible first | exact HB.out | apply below_alloc | apply pw_below_drewN | apply below_drew1) | exact HB.out)⟩⟩
            · rw [if_neg c25] at H
              have c25b0 : (t189 == (-1)) = false := beq_eq_false_iff_ne.mpr c25
              have c25b1 : (t189 != (-1)) = true := bne_iff_ne.mpr c25
              have H' := Aside0.mk H
              clear H
              go_wp2_with (first | ((with_reducible refine gate_callee (f := 56) rfl ?_); refine goesL_ (some 15) rfl rfl Try.func56 (by kernel_rfl) rfl #[.int .i64 t178] rfl (by (try simp only [List.map_toArray, List.map_cons, List.map_nil]); first | done | rfl | (simp only [List.length_drop, List.length_take]; rfl)) ?_; (with_reducible refine (impl_IsCard.calls t178 false _ A8.out).mono ?_); rintro e w' ⟨rfl, ⟨nd, rfl⟩⟩; refine ⟨_, rfl, ?_⟩) | (go_at_call 56; (with_reducible refine (impl_IsCard.calls t178 false _ A10.out).mono ?_); rintro e w' ⟨rfl, ⟨nd, rfl⟩⟩) | (go_at_call 56; (with_reducible refine (impl_IsCard.calls t178 false _ A22.out).mono ?_); rintro e w' ⟨rfl, ⟨nd, rfl⟩⟩) | (go_at_call 58; (with_reducible refine (impl_SuitOf.calls t178 t189 _ A24.out).mono ?_); rintro e w' ⟨rfl, ⟨nd, rfl⟩⟩))
              go_meet
              case rel => exact ⟨_, (true), (by first | rfl | (simp; done) | (simp [*]; done)), H', ⟨by first | omega | exact Nat.le_refl _⟩, ⟨by repeat (first | (with_reducible first | exact HB.out | apply below_alloc | apply pw_below_drewN | apply below_drew1) | exact HB.out)⟩⟩
    case rest =>
      clear HC6
      try clear c1
      try clear c2
      try clear p2
      try clear c3
      try clear c5
      try clear p6
      try clear c9
      try clear c9b0
      try clear c9b1
      try clear c9b2
      try clear c11
      try clear c13
      try clear c13b0
      try clear c13b1
      try clear c16
      try clear c16b0
      try clear c16b1
      try clear c18
      try clear c20
      try clear c20b0
      try clear c20b1
      try clear c23
      try clear c25
      try clear c25b0
      try clear c25b1
      obtain ⟨kq, x53_5, rfl, HA, HJ5, HB⟩ := hcut
      cases kq with
      | zero => exact absurd HA.out (by simp [laws_FnCards.j0])
      | succ kj5 =>
        have H := HA.out
        clear HA
        simp only [laws_FnCards.j0] at H
        by_cases c27 : x53_5 = true
        · subst c27
          have H1 : (some false) = some r := by rw [if_pos rfl] at H; exact H
          clear H
          have H := H1
          clear H1
          obtain rfl := Option.some.inj H
          go_wp2
          go_ret
          exact ⟨by first | rfl | (simp [errW_none, errW_some] <;> rfl) | (simp [*, errW_none, errW_some] <;> rfl), by repeat (first | (with_reducible first | exact HB.out | apply below_alloc | apply pw_below_drewN | apply below_drew1) | exact HB.out)⟩
        · replace c27 := Bool.eq_false_iff.mpr c27
          subst c27
          have H1 : ((spec_DrawParseCard.f kj5 l0).bind fun t191 => ((impl_ParseCard.f t191).bind fun t192 => ((spec_DrawIsRed.f kj5 l0).bind fun t193 => (if t192 = (-1) then ((impl_IsRed.f t193).bind fun t194 => ((impl_SuitOf.f t193).bind fun t195 => (if t195 = 1 then (some (t194 == true)) else ((impl_SuitOf.f t193).bind fun t196 => (some (t194 == (t196 == 2))))))) else ((impl_CardText.f t192).bind fun t197 => (if t197.toList = t191.toList then ((impl_IsRed.f t193).bind fun t198 => ((impl_SuitOf.f t193).bind fun t199 => (if t199 = 1 then (some (t198 == true)) else ((impl_SuitOf.f t193).bind fun t200 => (some (t198 == (t200 == 2))))))) else (some false))))))) = some r := by rw [if_neg (show ¬ (false = true) by decide)] at H; exact H
          clear H
          have H := H1
          clear H1
          replace H := Option.bind_eq_some_iff.mp H
          obtain ⟨t191, A280, H⟩ := H
          replace H : ((impl_ParseCard.f t191).bind fun t192 => ((spec_DrawIsRed.f kj5 l0).bind fun t193 => (if t192 = (-1) then ((impl_IsRed.f t193).bind fun t194 => ((impl_SuitOf.f t193).bind fun t195 => (if t195 = 1 then (some (t194 == true)) else ((impl_SuitOf.f t193).bind fun t196 => (some (t194 == (t196 == 2))))))) else ((impl_CardText.f t192).bind fun t197 => (if t197.toList = t191.toList then ((impl_IsRed.f t193).bind fun t198 => ((impl_SuitOf.f t193).bind fun t199 => (if t199 = 1 then (some (t198 == true)) else ((impl_SuitOf.f t193).bind fun t200 => (some (t198 == (t200 == 2))))))) else (some false)))))) = some r := H
          have A28 := Aside0.mk A280
          clear A280
          replace H := Option.bind_eq_some_iff.mp H
          obtain ⟨t192, A290, H⟩ := H
          replace H : ((spec_DrawIsRed.f kj5 l0).bind fun t193 => (if t192 = (-1) then ((impl_IsRed.f t193).bind fun t194 => ((impl_SuitOf.f t193).bind fun t195 => (if t195 = 1 then (some (t194 == true)) else ((impl_SuitOf.f t193).bind fun t196 => (some (t194 == (t196 == 2))))))) else ((impl_CardText.f t192).bind fun t197 => (if t197.toList = t191.toList then ((impl_IsRed.f t193).bind fun t198 => ((impl_SuitOf.f t193).bind fun t199 => (if t199 = 1 then (some (t198 == true)) else ((impl_SuitOf.f t193).bind fun t200 => (some (t198 == (t200 == 2))))))) else (some false))))) = some r := H
          have A29 := Aside0.mk A290
          clear A290
          replace H := Option.bind_eq_some_iff.mp H
          obtain ⟨t193, A300, H⟩ := H
          replace H : (if t192 = (-1) then ((impl_IsRed.f t193).bind fun t194 => ((impl_SuitOf.f t193).bind fun t195 => (if t195 = 1 then (some (t194 == true)) else ((impl_SuitOf.f t193).bind fun t196 => (some (t194 == (t196 == 2))))))) else ((impl_CardText.f t192).bind fun t197 => (if t197.toList = t191.toList then ((impl_IsRed.f t193).bind fun t198 => ((impl_SuitOf.f t193).bind fun t199 => (if t199 = 1 then (some (t198 == true)) else ((impl_SuitOf.f t193).bind fun t200 => (some (t198 == (t200 == 2))))))) else (some false)))) = some r := H
          have A30 := Aside0.mk A300
          clear A300
          by_cases c31 : t192 = (-1)
          · rw [if_pos c31] at H
            have c31b0 : (t192 == (-1)) = true := beq_iff_eq.mpr c31
            have c31b1 : (t192 != (-1)) = false := bne_eq_false_iff_eq.mpr c31
            clear c31
            replace H := Option.bind_eq_some_iff.mp H
            obtain ⟨t194, A320, H⟩ := H
            replace H : ((impl_SuitOf.f t193).bind fun t195 => (if t195 = 1 then (some (t194 == true)) else ((impl_SuitOf.f t193).bind fun t196 => (some (t194 == (t196 == 2)))))) = some r := H
            have A32 := Aside0.mk A320
            clear A320
            replace H := Option.bind_eq_some_iff.mp H
            obtain ⟨t195, A330, H⟩ := H
            replace H : (if t195 = 1 then (some (t194 == true)) else ((impl_SuitOf.f t193).bind fun t196 => (some (t194 == (t196 == 2))))) = some r := H
            have A33 := Aside0.mk A330
            clear A330
            by_cases c34 : t195 = 1
            · rw [if_pos c34] at H
              have c34b0 : (t195 == 1) = true := beq_iff_eq.mpr c34
              have c34b1 : (t195 != 1) = false := bne_eq_false_iff_eq.mpr c34
              clear c34
              obtain rfl := Option.some.inj H
              go_wp2_with (first | ((with_reducible refine gate_callee (f := 60) rfl ?_); refine goesL_ (some 55) rfl rfl Try.func60 (by kernel_rfl) rfl #[.slice A0 l0.length c0] rfl (by (try simp only [List.map_toArray, List.map_cons, List.map_nil]); first | done | rfl | (simp only [List.length_drop, List.length_take]; rfl)) ?_; (with_reducible refine (spec_DrawParseCard.calls kj5 _ _ l0 t191 _ ?side1 ?side2 A28.out).mono ?_); (case side1 => repeat (first | exact (Kd.C_below HR0.out HB.out) | (with_reducible refine Kd.C_alloc ?_ _) | (with_reducible refine Kd.C_drewN ?_ _) | (with_reducible refine Kd.C_drew ?_))); (case side2 => exact HC0.out); rintro e w35 ⟨rfl, hb⟩; refine ⟨_, rfl, ?_⟩; have n0_ := Aside0.mk (below_step (by repeat (first | (with_reducible first | exact HB.out | apply below_alloc | apply pw_below_drewN | apply below_drew1) | exact HB.out)) hb); clear HB; have HB := n0_; clear n0_; (try clear hb); (try clear hb2); (try clear hk); (try clear hi)) | ((with_reducible refine gate_callee (f := 57) rfl ?_); refine goesL_ (some 57) rfl rfl Try.func57 (by kernel_rfl) rfl #[.string t191] rfl (by (try simp only [List.map_toArray, List.map_cons, List.map_nil]); first | done | rfl | (simp only [List.length_drop, List.length_take]; rfl)) ?_; (with_reducible refine (impl_ParseCard.calls t191 t192 _ A29.out).mono ?_); rintro e w' ⟨rfl, ⟨nd, rfl⟩⟩; refine ⟨_, rfl, ?_⟩) | ((with_reducible refine gate_callee (f := 61) rfl ?_); refine goesL_ (some 59) rfl rfl Try.func61 (by kernel_rfl) rfl #[.slice A0 l0.length c0] rfl (by (try simp only [List.map_toArray, List.map_cons, List.map_nil]); first | done | rfl | (simp only [List.length_drop, List.length_take]; rfl)) ?_; (with_reducible refine (spec_DrawIsRed.calls kj5 _ _ l0 t193 _ ?side1 ?side2 A30.out).mono ?_); (case side1 => repeat (first | exact (Kd.C_below HR0.out (by repeat (first | (with_reducible first | exact HB.out | apply below_alloc | apply pw_below_drewN | apply below_drew1) | exact HB.out))) | (with_reducible refine Kd.C_alloc ?_ _) | (with_reducible refine Kd.C_drewN ?_ _) | (with_reducible refine Kd.C_drew ?_))); (case side2 => exact HC0.out); rintro e w36 ⟨rfl, hb⟩; refine ⟨_, rfl, ?_⟩; have n0_ := Aside0.mk (below_step (by repeat (first | (with_reducible first | exact HB.out | apply below_alloc | apply pw_below_drewN | apply below_drew1) | exact HB.out)) hb); clear HB; have HB := n0_; clear n0_; (try clear hb); (try clear hb2); (try clear hk); (try clear hi)) | (go_at_call 62; (with_reducible refine (impl_IsRed.calls t193 t194 _ A32.out).mono ?_); rintro e w' ⟨rfl, ⟨nd, rfl⟩⟩) | (go_at_call 58; (with_reducible refine (impl_SuitOf.calls t193 t195 _ A33.out).mono ?_); rintro e w' ⟨rfl, ⟨nd, rfl⟩⟩))
              go_ret
              exact ⟨by first | rfl | (simp [errW_none, errW_some] <;> rfl) | (simp [*, errW_none, errW_some] <;> rfl), by repeat (first | (with_reducible first | exact HB.out | apply below_alloc | apply pw_below_drewN | apply below_drew1) | exact HB.out)⟩
            · rw [if_neg c34] at H
              have c34b0 : (t195 == 1) = false := beq_eq_false_iff_ne.mpr c34
              have c34b1 : (t195 != 1) = true := bne_iff_ne.mpr c34
              replace H := Option.bind_eq_some_iff.mp H
              obtain ⟨t196, A370, H⟩ := H
              have e37_ : t195 = t196 := Option.some.inj (A33.out.symm.trans A370)
              subst e37_
              replace H : (some (t194 == (t195 == 2))) = some r := H
              have A37 := Aside0.mk A370
              clear A370
              obtain rfl := Option.some.inj H
              go_wp2_with (first | ((with_reducible refine gate_callee (f := 60) rfl ?_); refine goesL_ (some 55) rfl rfl Try.func60 (by kernel_rfl) rfl #[.slice A0 l0.length c0] rfl (by (try simp only [List.map_toArray, List.map_cons, List.map_nil]); first | done | rfl | (simp only [List.length_drop, List.length_take]; rfl)) ?_; (with_reducible refine (spec_DrawParseCard.calls kj5 _ _ l0 t191 _ ?side1 ?side2 A28.out).mono ?_); (case side1 => repeat (first | exact (Kd.C_below HR0.out HB.out) | (with_reducible refine Kd.C_alloc ?_ _) | (with_reducible refine Kd.C_drewN ?_ _) | (with_reducible refine Kd.C_drew ?_))); (case side2 => exact HC0.out); rintro e w38 ⟨rfl, hb⟩; refine ⟨_, rfl, ?_⟩; have n0_ := Aside0.mk (below_step (by repeat (first | (with_reducible first | exact HB.out | apply below_alloc | apply pw_below_drewN | apply below_drew1) | exact HB.out)) hb); clear HB; have HB := n0_; clear n0_; (try clear hb); (try clear hb2); (try clear hk); (try clear hi)) | ((with_reducible refine gate_callee (f := 57) rfl ?_); refine goesL_ (some 57) rfl rfl Try.func57 (by kernel_rfl) rfl #[.string t191] rfl (by (try simp only [List.map_toArray, List.map_cons, List.map_nil]); first | done | rfl | (simp only [List.length_drop, List.length_take]; rfl)) ?_; (with_reducible refine (impl_ParseCard.calls t191 t192 _ A29.out).mono ?_); rintro e w' ⟨rfl, ⟨nd, rfl⟩⟩; refine ⟨_, rfl, ?_⟩) | ((with_reducible refine gate_callee (f := 61) rfl ?_); refine goesL_ (some 59) rfl rfl Try.func61 (by kernel_rfl) rfl #[.slice A0 l0.length c0] rfl (by (try simp only [List.map_toArray, List.map_cons, List.map_nil]); first | done | rfl | (simp only [List.length_drop, List.length_take]; rfl)) ?_; (with_reducible refine (spec_DrawIsRed.calls kj5 _ _ l0 t193 _ ?side1 ?side2 A30.out).mono ?_); (case side1 => repeat (first | exact (Kd.C_below HR0.out (by repeat (first | (with_reducible first | exact HB.out | apply below_alloc | apply pw_below_drewN | apply below_drew1) | exact HB.out))) | (with_reducible refine Kd.C_alloc ?_ _) | (with_reducible refine Kd.C_drewN ?_ _) | (with_reducible refine Kd.C_drew ?_))); (case side2 => exact HC0.out); rintro e w39 ⟨rfl, hb⟩; refine ⟨_, rfl, ?_⟩; have n0_ := Aside0.mk (below_step (by repeat (first | (with_reducible first | exact HB.out | apply below_alloc | apply pw_below_drewN | apply below_drew1) | exact HB.out)) hb); clear HB; have HB := n0_; clear n0_; (try clear hb); (try clear hb2); (try clear hk); (try clear hi)) | (go_at_call 62; (with_reducible refine (impl_IsRed.calls t193 t194 _ A32.out).mono ?_); rintro e w' ⟨rfl, ⟨nd, rfl⟩⟩) | (go_at_call 58; (with_reducible refine (impl_SuitOf.calls t193 t195 _ A33.out).mono ?_); rintro e w' ⟨rfl, ⟨nd, rfl⟩⟩) | (go_at_call 58; (with_reducible refine (impl_SuitOf.calls t193 t195 _ A37.out).mono ?_); rintro e w' ⟨rfl, ⟨nd, rfl⟩⟩))
              go_ret
              exact ⟨by first | rfl | (simp [errW_none, errW_some] <;> rfl) | (simp [*, errW_none, errW_some] <;> rfl), by repeat (first | (with_reducible first | exact HB.out | apply below_alloc | apply pw_below_drewN | apply below_drew1) | exact HB.out)⟩
          · rw [if_neg c31] at H
            have c31b0 : (t192 == (-1)) = false := beq_eq_false_iff_ne.mpr c31
            have c31b1 : (t192 != (-1)) = true := bne_iff_ne.mpr c31
            replace H := Option.bind_eq_some_iff.mp H
            obtain ⟨t197, A400, H⟩ := H
            replace H : (if t197.toList = t191.toList then ((impl_IsRed.f t193).bind fun t198 => ((impl_SuitOf.f t193).bind fun t199 => (if t199 = 1 then (some (t198 == true)) else ((impl_SuitOf.f t193).bind fun t200 => (some (t198 == (t200 == 2))))))) else (some false)) = some r := H
            have A40 := Aside0.mk A400
            clear A400
            by_cases c41 : t197.toList = t191.toList
            · rw [if_pos c41] at H
              have c41b0 : (t197.toList == t191.toList) = true := beq_iff_eq.mpr c41
              have c41b1 : (t197.toList != t191.toList) = false := bne_eq_false_iff_eq.mpr c41
              clear c41
              replace H := Option.bind_eq_some_iff.mp H
              obtain ⟨t198, A420, H⟩ := H
              replace H : ((impl_SuitOf.f t193).bind fun t199 => (if t199 = 1 then (some (t198 == true)) else ((impl_SuitOf.f t193).bind fun t200 => (some (t198 == (t200 == 2)))))) = some r := H
              have A42 := Aside0.mk A420
              clear A420
              replace H := Option.bind_eq_some_iff.mp H
              obtain ⟨t199, A430, H⟩ := H
              replace H : (if t199 = 1 then (some (t198 == true)) else ((impl_SuitOf.f t193).bind fun t200 => (some (t198 == (t200 == 2))))) = some r := H
              have A43 := Aside0.mk A430
              clear A430
              by_cases c44 : t199 = 1
              · rw [if_pos c44] at H
                have c44b0 : (t199 == 1) = true := beq_iff_eq.mpr c44
                have c44b1 : (t199 != 1) = false := bne_eq_false_iff_eq.mpr c44
                clear c44
                obtain rfl := Option.some.inj H
                go_wp2_with (first | ((with_reducible refine gate_callee (f := 60) rfl ?_); refine goesL_ (some 55) rfl rfl Try.func60 (by kernel_rfl) rfl #[.slice A0 l0.length c0] rfl (by (try simp only [List.map_toArray, List.map_cons, List.map_nil]); first | done | rfl | (simp only [List.length_drop, List.length_take]; rfl)) ?_; (with_reducible refine (spec_DrawParseCard.calls kj5 _ _ l0 t191 _ ?side1 ?side2 A28.out).mono ?_); (case side1 => repeat (first | exact (Kd.C_below HR0.out HB.out) | (with_reducible refine Kd.C_alloc ?_ _) | (with_reducible refine Kd.C_drewN ?_ _) | (with_reducible refine Kd.C_drew ?_))); (case side2 => exact HC0.out); rintro e w45 ⟨rfl, hb⟩; refine ⟨_, rfl, ?_⟩; have n0_ := Aside0.mk (below_step (by repeat (first | (with_reducible first | exact HB.out | apply below_alloc | apply pw_below_drewN | apply below_drew1) | exact HB.out)) hb); clear HB; have HB := n0_; clear n0_; (try clear hb); (try clear hb2); (try clear hk); (try clear hi)) | ((with_reducible refine gate_callee (f := 57) rfl ?_); refine goesL_ (some 57) rfl rfl Try.func57 (by kernel_rfl) rfl #[.string t191] rfl (by (try simp only [List.map_toArray, List.map_cons, List.map_nil]); first | done | rfl | (simp only [List.length_drop, List.length_take]; rfl)) ?_; (with_reducible refine (impl_ParseCard.calls t191 t192 _ A29.out).mono ?_); rintro e w' ⟨rfl, ⟨nd, rfl⟩⟩; refine ⟨_, rfl, ?_⟩) | ((with_reducible refine gate_callee (f := 61) rfl ?_); refine goesL_ (some 59) rfl rfl Try.func61 (by kernel_rfl) rfl #[.slice A0 l0.length c0] rfl (by (try simp only [List.map_toArray, List.map_cons, List.map_nil]); first | done | rfl | (simp only [List.length_drop, List.length_take]; rfl)) ?_; (with_reducible refine (spec_DrawIsRed.calls kj5 _ _ l0 t193 _ ?side1 ?side2 A30.out).mono ?_); (case side1 => repeat (first | exact (Kd.C_below HR0.out (by repeat (first | (with_reducible first | exact HB.out | apply below_alloc | apply pw_below_drewN | apply below_drew1) | exact HB.out))) | (with_reducible refine Kd.C_alloc ?_ _) | (with_reducible refine Kd.C_drewN ?_ _) | (with_reducible refine Kd.C_drew ?_))); (case side2 => exact HC0.out); rintro e w46 ⟨rfl, hb⟩; refine ⟨_, rfl, ?_⟩; have n0_ := Aside0.mk (below_step (by repeat (first | (with_reducible first | exact HB.out | apply below_alloc | apply pw_below_drewN | apply below_drew1) | exact HB.out)) hb); clear HB; have HB := n0_; clear n0_; (try clear hb); (try clear hb2); (try clear hk); (try clear hi)) | (go_at_call 55; (with_reducible refine (impl_CardText.calls t192 t197 _ A40.out).mono ?_); rintro e w' ⟨rfl, ⟨nd, rfl⟩⟩) | (go_at_call 62; (with_reducible refine (impl_IsRed.calls t193 t198 _ A42.out).mono ?_); rintro e w' ⟨rfl, ⟨nd, rfl⟩⟩) | (go_at_call 58; (with_reducible refine (impl_SuitOf.calls t193 t199 _ A43.out).mono ?_); rintro e w' ⟨rfl, ⟨nd, rfl⟩⟩))
                go_ret
                exact ⟨by first | rfl | (simp [errW_none, errW_some] <;> rfl) | (simp [*, errW_none, errW_some] <;> rfl), by repeat (first | (with_reducible first | exact HB.out | apply below_alloc | apply pw_below_drewN | apply below_drew1) | exact HB.out)⟩
              · rw [if_neg c44] at H
                have c44b0 : (t199 == 1) = false := beq_eq_false_iff_ne.mpr c44
                have c44b1 : (t199 != 1) = true := bne_iff_ne.mpr c44
                replace H := Option.bind_eq_some_iff.mp H
                obtain ⟨t200, A470, H⟩ := H
                have e37_ : t199 = t200 := Option.some.inj (A43.out.symm.trans A470)
                subst e37_
                replace H : (some (t198 == (t199 == 2))) = some r := H
                have A47 := Aside0.mk A470
                clear A470
                obtain rfl := Option.some.inj H
                go_wp2_with (first | ((with_reducible refine gate_callee (f := 60) rfl ?_); refine goesL_ (some 55) rfl rfl Try.func60 (by kernel_rfl) rfl #[.slice A0 l0.length c0] rfl (by (try simp only [List.map_toArray, List.map_cons, List.map_nil]); first | done | rfl | (simp only [List.length_drop, List.length_take]; rfl)) ?_; (with_reducible refine (spec_DrawParseCard.calls kj5 _ _ l0 t191 _ ?side1 ?side2 A28.out).mono ?_); (case side1 => repeat (first | exact (Kd.C_below HR0.out HB.out) | (with_reducible refine Kd.C_alloc ?_ _) | (with_reducible refine Kd.C_drewN ?_ _) | (with_reducible refine Kd.C_drew ?_))); (case side2 => exact HC0.out); rintro e w48 ⟨rfl, hb⟩; refine ⟨_, rfl, ?_⟩; have n0_ := Aside0.mk (below_step (by repeat (first | (with_reducible first | exact HB.out | apply below_alloc | apply pw_below_drewN | apply below_drew1) | exact HB.out)) hb); clear HB; have HB := n0_; clear n0_; (try clear hb); (try clear hb2); (try clear hk); (try clear hi)) | ((with_reducible refine gate_callee (f := 57) rfl ?_); refine goesL_ (some 57) rfl rfl Try.func57 (by kernel_rfl) rfl #[.string t191] rfl (by (try simp only [List.map_toArray, List.map_cons, List.map_nil]); first | done | rfl | (simp only [List.length_drop, List.length_take]; rfl)) ?_; (with_reducible refine (impl_ParseCard.calls t191 t192 _ A29.out).mono ?_); rintro e w' ⟨rfl, ⟨nd, rfl⟩⟩; refine ⟨_, rfl, ?_⟩) | ((with_reducible refine gate_callee (f := 61) rfl ?_); refine goesL_ (some 59) rfl rfl Try.func61 (by kernel_rfl) rfl #[.slice A0 l0.length c0] rfl (by (try simp only [List.map_toArray, List.map_cons, List.map_nil]); first | done | rfl | (simp only [List.length_drop, List.length_take]; rfl)) ?_; (with_reducible refine (spec_DrawIsRed.calls kj5 _ _ l0 t193 _ ?side1 ?side2 A30.out).mono ?_); (case side1 => repeat (first | exact (Kd.C_below HR0.out (by repeat (first | (with_reducible first | exact HB.out | apply below_alloc | apply pw_below_drewN | apply below_drew1) | exact HB.out))) | (with_reducible refine Kd.C_alloc ?_ _) | (with_reducible refine Kd.C_drewN ?_ _) | (with_reducible refine Kd.C_drew ?_))); (case side2 => exact HC0.out); rintro e w49 ⟨rfl, hb⟩; refine ⟨_, rfl, ?_⟩; have n0_ := Aside0.mk (below_step (by repeat (first | (with_reducible first | exact HB.out | apply below_alloc | apply pw_below_drewN | apply below_drew1) | exact HB.out)) hb); clear HB; have HB := n0_; clear n0_; (try clear hb); (try clear hb2); (try clear hk); (try clear hi)) | (go_at_call 55; (with_reducible refine (impl_CardText.calls t192 t197 _ A40.out).mono ?_); rintro e w' ⟨rfl, ⟨nd, rfl⟩⟩) | (go_at_call 62; (with_reducible refine (impl_IsRed.calls t193 t198 _ A42.out).mono ?_); rintro e w' ⟨rfl, ⟨nd, rfl⟩⟩) | (go_at_call 58; (with_reducible refine (impl_SuitOf.calls t193 t199 _ A43.out).mono ?_); rintro e w' ⟨rfl, ⟨nd, rfl⟩⟩) | (go_at_call 58; (with_reducible refine (impl_SuitOf.calls t193 t199 _ A47.out).mono ?_); rintro e w' ⟨rfl, ⟨nd, rfl⟩⟩))
                go_ret
                exact ⟨by first | rfl | (simp [errW_none, errW_some] <;> rfl) | (simp [*, errW_none, errW_some] <;> rfl), by repeat (first | (with_reducible first | exact HB.out | apply below_alloc | apply pw_below_drewN | apply below_drew1) | exact HB.out)⟩
            · rw [if_neg c41] at H
              have c41b0 : (t197.toList == t191.toList) = false := beq_eq_false_iff_ne.mpr c41
              have c41b1 : (t197.toList != t191.toList) = true := bne_iff_ne.mpr c41
              obtain rfl := Option.some.inj H
              go_wp2_with (first | ((with_reducible refine gate_callee (f := 60) rfl ?_); refine goesL_ (some 55) rfl rfl Try.func60 (by kernel_rfl) rfl #[.slice A0 l0.length c0] rfl (by (try simp only [List.map_toArray, List.map_cons, List.map_nil]); first | done | rfl | (simp only [List.length_drop, List.length_take]; rfl)) ?_; (with_reducible refine (spec_DrawParseCard.calls kj5 _ _ l0 t191 _ ?side1 ?side2 A28.out).mono ?_); (case side1 => repeat (first | exact (Kd.C_below HR0.out HB.out) | (with_reducible refine Kd.C_alloc ?_ _) | (with_reducible refine Kd.C_drewN ?_ _) | (with_reducible refine Kd.C_drew ?_))); (case side2 => exact HC0.out); rintro e w50 ⟨rfl, hb⟩; refine ⟨_, rfl, ?_⟩; have n0_ := Aside0.mk (below_step (by repeat (first | (with_reducible first | exact HB.out | apply below_alloc | apply pw_below_drewN | apply below_drew1) | exact HB.out)) hb); clear HB; have HB := n0_; clear n0_; (try clear hb); (try clear hb2); (try clear hk); (try clear hi)) | ((with_reducible refine gate_callee (f := 57) rfl ?_); refine goesL_ (some 57) rfl rfl Try.func57 (by kernel_rfl) rfl #[.string t191] rfl (by (try simp only [List.map_toArray, List.map_cons, List.map_nil]); first | done | rfl | (simp only [List.length_drop, List.length_take]; rfl)) ?_; (with_reducible refine (impl_ParseCard.calls t191 t192 _ A29.out).mono ?_); rintro e w' ⟨rfl, ⟨nd, rfl⟩⟩; refine ⟨_, rfl, ?_⟩) | ((with_reducible refine gate_callee (f := 61) rfl ?_); refine goesL_ (some 59) rfl rfl Try.func61 (by kernel_rfl) rfl #[.slice A0 l0.length c0] rfl (by (try simp only [List.map_toArray, List.map_cons, List.map_nil]); first | done | rfl | (simp only [List.length_drop, List.length_take]; rfl)) ?_; (with_reducible refine (spec_DrawIsRed.calls kj5 _ _ l0 t193 _ ?side1 ?side2 A30.out).mono ?_); (case side1 => repeat (first | exact (Kd.C_below HR0.out (by repeat (first | (with_reducible first | exact HB.out | apply below_alloc | apply pw_below_drewN | apply below_drew1) | exact HB.out))) | (with_reducible refine Kd.C_alloc ?_ _) | (with_reducible refine Kd.C_drewN ?_ _) | (with_reducible refine Kd.C_drew ?_))); (case side2 => exact HC0.out); rintro e w51 ⟨rfl, hb⟩; refine ⟨_, rfl, ?_⟩; have n0_ := Aside0.mk (below_step (by repeat (first | (with_reducible first | exact HB.out | apply below_alloc | apply pw_below_drewN | apply below_drew1) | exact HB.out)) hb); clear HB; have HB := n0_; clear n0_; (try clear hb); (try clear hb2); (try clear hk); (try clear hi)) | (go_at_call 55; (with_reducible refine (impl_CardText.calls t192 t197 _ A40.out).mono ?_); rintro e w' ⟨rfl, ⟨nd, rfl⟩⟩))
              go_ret
              exact ⟨by first | rfl | (simp [errW_none, errW_some] <;> rfl) | (simp [*, errW_none, errW_some] <;> rfl), by repeat (first | (with_reducible first | exact HB.out | apply below_alloc | apply pw_below_drewN | apply below_drew1) | exact HB.out)⟩

/-- THE ONE PURE STATEMENT of laws_FnCards: yours. -/
def laws_FnCards.Pure : Prop := ∀ (l0 : List Int), l0.length ≤ maxLen → l0.length * 1 ≤ 140737488351232 → (∀ x ∈ l0, (Lit.int .u8 x).wf = true) → ∃ k, laws_FnCards.f k l0 = some true
theorem laws_FnCards.walk (P : laws_FnCards.Pure) (a0 : Option Addr) (len0 cap0 : Nat) (z0 : List Int) (w : World) (w0 : (a0 = none ∧ len0 = 0 ∧ cap0 = 0 ∧ z0 = []) ∨ ∃ x, a0 = some x ∧ len0 ≤ cap0 ∧ cap0 ≤ maxLen ∧ z0.length = cap0 ∧ (∀ i, i < z0.length → w.cell? (x.add i) = some (.int .u8 (z0.getD i 0))) ∧ ∀ n ∈ z0, (Lit.int .u8 n).wf = true) (y0 : len0 * 1 ≤ 140737488351232) :
    Calls Try.prog 13 #[.slice a0 len0 cap0] w fun e w' => e = .returned (.bool true) ∧ Below w.heap.size w w' := by
  obtain ⟨l0, rfl, hr0, hm0, hw0, hc0⟩ := ReadsInt.ofRowC w0
  obtain ⟨k, h⟩ := P l0 hm0 y0 hw0
  refine (laws_FnCards.calls k _ _ l0 true w (Kd.C_of_reads (d := (0 : Int)) (h1 := fun _ => rfl) hr0) hc0 h).mono ?_
  rintro e w' ⟨rfl, hd⟩
  exact ⟨rfl, hd⟩

end Go.Proofs.Ytbjecehiappdeac.QFnCards
