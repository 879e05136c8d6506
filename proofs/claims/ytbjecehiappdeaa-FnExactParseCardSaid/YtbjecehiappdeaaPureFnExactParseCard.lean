/- The law FnExactParseCard returns true at every string: the program's ParseCard answers as the reference's. No condition. -/
import Derived.Test.YtbjecehiappdeaaQFnExactParseCardx1
import Derived.Lib.Bytealg
import Derived.Lib.Bytes
namespace Go.Proofs.Ytbjecehiappdeaa.Pure
open Go.RowKit Go.Proofs.Ytbjecehiappdeaa.QFnExactParseCard Go.Proofs.YtbjecehiappdeaaW.PrintWords Go.Proofs.YtbjecehiappdeaaW.PrintLast Go.Proofs.YtbjecehiappdeaaW.PrintMore
set_option linter.unusedVariables false
set_option linter.unusedSimpArgs false

/-! ### Words on rounds and on lists -/
theorem ev_bind {α β : Type} {g : Nat → Option α} {f : Nat → α → Option β} {a : α} {r : β} (h : Ev g a) (k : Ev (fun n => f n a) r) : Ev (fun n => (g n).bind (f n)) r := Ev.bind h k
theorem ev_call {α β : Type} {o : Option α} {f : Nat → α → Option β} {a : α} {r : β} (h : o = some a) (k : Ev (fun n => f n a) r) : Ev (fun n => o.bind (f n)) r := by
  subst h; exact k
theorem ev_pos {α : Type} {c : Prop} [Decidable c] {f g : Nat → Option α} {r : α} (h : c) (e : Ev f r) : Ev (fun n => if c then f n else g n) r := by
  obtain ⟨K, hK⟩ := e
  exact ⟨K, fun n hn => by show (if c then f n else g n) = some r; rw [if_pos h]; exact hK n hn⟩
theorem ev_neg {α : Type} {c : Prop} [Decidable c] {f g : Nat → Option α} {r : α} (h : ¬ c) (e : Ev g r) : Ev (fun n => if c then f n else g n) r := by
  obtain ⟨K, hK⟩ := e
  exact ⟨K, fun n hn => by show (if c then f n else g n) = some r; rw [if_neg h]; exact hK n hn⟩
theorem ev_end {α : Type} {g : Nat → Option α} {r : α} (h : ∀ k, g (k + 1) = some r) : Ev g r := Ev.step (f := fun _ => some r) h (Ev.now r)
theorem ev_eq {α : Type} {g : Nat → Option α} {r r' : α} (h : Ev g r) (e : r = r') : Ev g r' := e ▸ h
theorem ev_some {α : Type} {g : Nat → Option α} {r : α} (h : ∀ k, g k = some r) : Ev g r := ⟨0, fun k _ => h k⟩
theorem wrap_ok {n : Int} (h : -9223372036854775808 ≤ n ∧ n ≤ 9223372036854775807) : wrap64 n = n := by unfold wrap64; omega
theorem rd_mid (pre : List Int) (x : Int) (suf : List Int) : rd (pre ++ x :: suf) (pre.length : Int) = x := by simp [rd]
theorem snoc_len (pre : List Int) (x : Int) : (((pre ++ [x]).length : Nat) : Int) = (pre.length : Int) + 1 := by simp
theorem mid_facts {l pre suf : List Int} {x : Int} (h : l = pre ++ x :: suf) (hl : l.length ≤ 35184372088832) :
    (pre.length : Int) < (l.length : Int) ∧ rd l (pre.length : Int) = x ∧ wrap64 ((pre.length : Int) + 1) = (((pre ++ [x]).length : Nat) : Int) ∧ l = (pre ++ [x]) ++ suf := by
  have hlen : l.length = pre.length + (suf.length + 1) := by rw [h]; simp
  refine ⟨by omega, by rw [h]; exact rd_mid pre x suf, ?_, by rw [h]; simp⟩
  rw [snoc_len]
  exact wrap_ok (by omega)
theorem end_facts {l pre : List Int} (h : l = pre ++ []) : l = pre ∧ ¬ (pre.length : Int) < (l.length : Int) := by
  rw [List.append_nil] at h
  subst h
  exact ⟨rfl, by omega⟩
/-- The marks m, m + 1, .. -/
def marks : Int → Nat → List Int
  | _, 0 => []
  | m, n + 1 => m :: marks (m + 1) n
theorem marks_length (m : Int) (n : Nat) : (marks m n).length = n := by
  induction n generalizing m with
  | zero => rfl
  | succ n ih => simp [marks, ih]

/-! ### A card's text -/
def rankL : List UInt8 := [50, 51, 52, 53, 54, 55, 56, 57, 84, 74, 81, 75, 65]
def suitL : List UInt8 := [99, 100, 104, 115]
def textP (n : Nat) : List UInt8 := [rankL.getD (n % 13) 0, suitL.getD (n / 13) 0]
def parseP : List UInt8 → Int
  | [x, y] => if Lib.indexByte rankL x < 0 then -1 else if Lib.indexByte suitL y < 0 then -1 else Lib.indexByte suitL y * 13 + Lib.indexByte rankL x
  | _ => -1
theorem rank_all : ∀ x : Fin 256, ∀ m : Fin 13, (rankL.getD m.val 0 = UInt8.ofNat x.val) ↔ Lib.indexByte rankL (UInt8.ofNat x.val) = (m.val : Int) := by decide +kernel
theorem suit_all : ∀ x : Fin 256, ∀ m : Fin 4, (suitL.getD m.val 0 = UInt8.ofNat x.val) ↔ Lib.indexByte suitL (UInt8.ofNat x.val) = (m.val : Int) := by decide +kernel
theorem rank_top : ∀ x : Fin 256, -1 ≤ Lib.indexByte rankL (UInt8.ofNat x.val) ∧ Lib.indexByte rankL (UInt8.ofNat x.val) < 13 := by decide +kernel
theorem suit_top : ∀ x : Fin 256, -1 ≤ Lib.indexByte suitL (UInt8.ofNat x.val) ∧ Lib.indexByte suitL (UInt8.ofNat x.val) < 4 := by decide +kernel
theorem rank_iff (x : UInt8) (m : Nat) (h : m < 13) : rankL.getD m 0 = x ↔ Lib.indexByte rankL x = (m : Int) := by
  have := rank_all ⟨x.toNat, x.toNat_lt⟩ ⟨m, h⟩
  simpa only [UInt8.ofNat_toNat] using this
theorem suit_iff (x : UInt8) (m : Nat) (h : m < 4) : suitL.getD m 0 = x ↔ Lib.indexByte suitL x = (m : Int) := by
  have := suit_all ⟨x.toNat, x.toNat_lt⟩ ⟨m, h⟩
  simpa only [UInt8.ofNat_toNat] using this
theorem rank_rng (x : UInt8) : -1 ≤ Lib.indexByte rankL x ∧ Lib.indexByte rankL x < 13 := by
  have := rank_top ⟨x.toNat, x.toNat_lt⟩
  simpa only [UInt8.ofNat_toNat] using this
theorem suit_rng (x : UInt8) : -1 ≤ Lib.indexByte suitL x ∧ Lib.indexByte suitL x < 4 := by
  have := suit_top ⟨x.toNat, x.toNat_lt⟩
  simpa only [UInt8.ofNat_toNat] using this
theorem parse_rng (d : List UInt8) : -1 ≤ parseP d ∧ parseP d < 52 := by
  unfold parseP
  split
  · rename_i x y
    have h1 := rank_rng x
    have h2 := suit_rng y
    split
    · omega
    · split
      · omega
      · omega
  · omega
theorem text_iff (d : List UInt8) (n : Nat) (hn : n < 52) : textP n = d ↔ parseP d = (n : Int) := by
  unfold parseP
  split
  · rename_i x y
    have h1 := rank_rng x
    have h2 := suit_rng y
    have e1 := rank_iff x (n % 13) (by omega)
    have e2 := suit_iff y (n / 13) (by omega)
    have e : textP n = [x, y] ↔ Lib.indexByte rankL x = ((n % 13 : Nat) : Int) ∧ Lib.indexByte suitL y = ((n / 13 : Nat) : Int) := by
      rw [← e1, ← e2]
      simp [textP]
    rw [e]
    split
    · constructor
      · rintro ⟨a, b⟩; omega
      · intro a; omega
    · split
      · constructor
        · rintro ⟨a, b⟩; omega
        · intro a; omega
      · constructor
        · rintro ⟨a, b⟩; omega
        · intro a
          constructor <;> omega
  · rename_i h
    constructor
    · intro e
      exact absurd e.symm (fun e' => h _ _ e')
    · intro a; omega
theorem implParse_at (a0 : ByteArray) : impl_ParseCard.f a0 = some (parseP a0.data.toList) := by
  obtain ⟨⟨d⟩⟩ := a0
  unfold impl_ParseCard.f strings_IndexByte.f
  have hsz : (⟨⟨d⟩⟩ : ByteArray).size = d.length := rfl
  rw [hsz]
  by_cases h : d.length = 2
  · obtain ⟨x, y, rfl⟩ : ∃ x y, d = [x, y] := by
      match d, h with
      | [x, y], _ => exact ⟨x, y, rfl⟩
    have b0 : bt ⟨#[x, y]⟩ 0 = (x.toNat : Int) := rfl
    have b1 : bt ⟨#[x, y]⟩ 1 = (y.toNat : Int) := rfl
    have t0 : (x.toNat : Int).toNat.toUInt8 = x := by rw [Int.toNat_natCast]; exact UInt8.ofNat_toNat
    have t1 : (y.toNat : Int).toNat.toUInt8 = y := by rw [Int.toNat_natCast]; exact UInt8.ofNat_toNat
    have h1 := rank_rng x
    have h2 := suit_rng y
    have c1 : (⟨#[50, 51, 52, 53, 54, 55, 56, 57, 84, 74, 81, 75, 65]⟩ : ByteArray).data.toList = rankL := rfl
    rw [if_pos (by simp), if_pos (by simp), b0, t0, c1]
    simp only [Option.bind_some]
    have c3 : ([99, 100, 104, 115] : List UInt8) = suitL := rfl
    rw [if_pos (by simp), b1, t1]
    simp only [Option.bind_some, parseP, c3]
    split
    · rfl
    · split
      · rfl
      · rw [wrap_ok (n := Lib.indexByte suitL y * 13) (by omega), wrap_ok (by omega)]
  · rw [if_neg (by omega)]
    unfold parseP
    split
    · rename_i x y e
      exact absurd (by rw [show d = [x, y] from e]; rfl) h
    · rfl

theorem text_all : ∀ n : Fin 52, spec_CardText.f (n.val : Int) = some ⟨(textP n.val).toArray⟩ := by decide +kernel
theorem specParse_loop (a0 : ByteArray) : ∀ (m n : Nat), n + m = 52 → (parseP a0.data.toList = -1 ∨ (n : Int) ≤ parseP a0.data.toList) → Ev (fun k => spec_ParseCard.l0 k a0 (n : Int)) (parseP a0.data.toList) := by
  intro m
  induction m with
  | zero =>
    intro n hn hp
    have hr := parse_rng a0.data.toList
    refine ev_end fun k => ?_
    simp only [spec_ParseCard.l0]
    rw [if_neg (by omega)]
    congr 1
    omega
  | succ m ih =>
    intro n hn hp
    have ht := text_all ⟨n, by omega⟩
    have hi := text_iff a0.data.toList n (by omega)
    have hl : (⟨(textP n).toArray⟩ : ByteArray).toList = textP n := by rw [Lib.toList_data]
    by_cases he : textP n = a0.data.toList
    · refine ev_end fun k => ?_
      simp only [spec_ParseCard.l0]
      rw [if_pos (by omega), ht]
      simp only [Option.bind_some]
      rw [hl, Lib.toList_data, if_pos he, hi.1 he]
    · refine Ev.step (fun k => ?_) (ih (n + 1) (by omega) (by
        have : ¬ parseP a0.data.toList = (n : Int) := fun e => he (hi.2 e)
        omega))
      simp only [spec_ParseCard.l0]
      rw [if_pos (by omega), ht]
      simp only [Option.bind_some]
      rw [hl, Lib.toList_data, if_neg he, wrap_ok (by omega)]
      rfl
theorem specParse_ev (a0 : ByteArray) : Ev (fun k => spec_ParseCard.f k a0) (parseP a0.data.toList) := specParse_loop a0 52 0 rfl (by have := parse_rng a0.data.toList; omega)
theorem FnExactParseCard : laws_FnExactParseCard.Pure := by
  intro a0 _
  refine Ev.rounds ?_
  by_cases hb : (a0.size : Int) > 1048576
  · exact ev_some fun k => by unfold laws_FnExactParseCard.f; rw [if_pos hb]
  unfold laws_FnExactParseCard.f
  refine ev_neg hb ?_
  refine ev_bind (specParse_ev a0) ?_
  refine ev_call (implParse_at a0) ?_
  refine ev_pos rfl ?_
  exact Ev.now true

end Go.Proofs.Ytbjecehiappdeaa.Pure
