/- The law FnCards returns true at every list of bytes: every card has a text of its own. No condition. -/
import Derived.Test.YtbjecehiappdeacQFnCardsx2
import Derived.Lib.Bytealg
import Derived.Lib.Bytes
import Derived.Test.YtbjecehiappdeacWSized
namespace Go.Proofs.Ytbjecehiappdeac.Pure
open Go.RowKit Go.Proofs.Ytbjecehiappdeac.QFnCards Go.Proofs.YtbjecehiappdeacW.PrintWords Go.Proofs.YtbjecehiappdeacW.PrintLast Go.Proofs.YtbjecehiappdeacW.PrintMore
set_option linter.unusedVariables false
set_option linter.unusedSimpArgs false

/-! ### Words on rounds and on lists -/
theorem ev_bind {α β : Type} {g : Nat → Option α} {f : Nat → α → Option β} {a : α} {r : β} (h : Ev g a) (k : Ev (fun n => f n a) r) : Ev (fun n => (g n).bind (f n)) r := Ev.bind h k
theorem ev_call {α β : Type} {o : Option α} {f : Nat → α → Option β} {a : α} {r : β} (h : o = some a) (k : Ev (fun n => f n a) r) : Ev (fun n => o.bind (f n)) r := by
  subst h; exact k
theorem ev_pos {α : Type} {c : Prop} [Decidable c] {f g : Nat → Option α} {r : α} (h : c) (e : Ev f r) : Ev (fun n => if c then f n else g n) r := by
  obtain ⟨K, hK⟩ := e
  exact ⟨K, fun n hn => by show (if c then f n else g n) = some r; rw [if_pos h]; exact hK n hn⟩
theorem ev_neg {α : Type} {c : Prop} [Decidable c] {f g : Nat → Option α} {r : α} (h : ¬ c) (e : Ev g r) : Ev (fun n => if c then f n else g n) r := by
  obtain ⟨K, hK⟩ := e
  exact ⟨K, fun n hn => by show (if c then f n else g n) = some r; rw [if_neg h]; exact hK n hn⟩
theorem ev_end {α : Type} {g : Nat → Option α} {r : α} (h : ∀ k, g (k + 1) = some r) : Ev g r := Ev.step (f := fun _ => some r) h (Ev.now r)
theorem ev_eq {α : Type} {g : Nat → Option α} {r r' : α} (h : Ev g r) (e : r = r') : Ev g r' := e ▸ h
theorem ev_some {α : Type} {g : Nat → Option α} {r : α} (h : ∀ k, g k = some r) : Ev g r := ⟨0, fun k _ => h k⟩
theorem wrap_ok {n : Int} (h : -9223372036854775808 ≤ n ∧ n ≤ 9223372036854775807) : wrap64 n = n := by unfold wrap64; omega
theorem rd_mid (pre : List Int) (x : Int) (suf : List Int) : rd (pre ++ x :: suf) (pre.length : Int) = x := by simp [rd]
theorem snoc_len (pre : List Int) (x : Int) : (((pre ++ [x]).length : Nat) : Int) = (pre.length : Int) + 1 := by simp
theorem mid_facts {l pre suf : List Int} {x : Int} (h : l = pre ++ x :: suf) (hl : l.length ≤ 35184372088832) :
    (pre.length : Int) < (l.length : Int) ∧ rd l (pre.length : Int) = x ∧ wrap64 ((pre.length : Int) + 1) = (((pre ++ [x]).length : Nat) : Int) ∧ l = (pre ++ [x]) ++ suf := by
  have hlen : l.length = pre.length + (suf.length + 1) := by rw [h]; simp
  refine ⟨by omega, by rw [h]; exact rd_mid pre x suf, ?_, by rw [h]; simp⟩
  rw [snoc_len]
  exact wrap_ok (by omega)
theorem end_facts {l pre : List Int} (h : l = pre ++ []) : l = pre ∧ ¬ (pre.length : Int) < (l.length : Int) := by
  rw [List.append_nil] at h
  subst h
  exact ⟨rfl, by omega⟩
/-- The marks m, m + 1, .. -/
def marks : Int → Nat → List Int
  | _, 0 => []
  | m, n + 1 => m :: marks (m + 1) n
theorem marks_length (m : Int) (n : Nat) : (marks m n).length = n := by
  induction n generalizing m with
  | zero => rfl
  | succ n ih => simp [marks, ih]

theorem tmod_pos_bounds (v m : Int) (hm : 0 < m) (hv : 0 ≤ v) : 0 ≤ Int.tmod v m ∧ Int.tmod v m < m := by
  rw [Int.tmod_eq_emod_of_nonneg hv]
  exact ⟨Int.emod_nonneg v (by omega), Int.emod_lt_of_pos v hm⟩

def cardP (c : Int) : Bool := decide (0 ≤ c ∧ c ≤ 51)

theorem impl_card (c : Int) : impl_IsCard.f c = some (cardP c) := by
  unfold impl_IsCard.f impl_InRange.f cardP
  by_cases h : 0 ≤ c
  · simp [h]
  · simp [h]

/-! ### A card's text -/
def rankL : List UInt8 := [50, 51, 52, 53, 54, 55, 56, 57, 84, 74, 81, 75, 65]
def suitL : List UInt8 := [99, 100, 104, 115]
def textP (n : Nat) : List UInt8 := [rankL.getD (n % 13) 0, suitL.getD (n / 13) 0]
def parseP : List UInt8 → Int
  | [x, y] => if Lib.indexByte rankL x < 0 then -1 else if Lib.indexByte suitL y < 0 then -1 else Lib.indexByte suitL y * 13 + Lib.indexByte rankL x
  | _ => -1
theorem rank_all : ∀ x : Fin 256, ∀ m : Fin 13, (rankL.getD m.val 0 = UInt8.ofNat x.val) ↔ Lib.indexByte rankL (UInt8.ofNat x.val) = (m.val : Int) := by decide +kernel
theorem suit_all : ∀ x : Fin 256, ∀ m : Fin 4, (suitL.getD m.val 0 = UInt8.ofNat x.val) ↔ Lib.indexByte suitL (UInt8.ofNat x.val) = (m.val : Int) := by decide +kernel
theorem rank_top : ∀ x : Fin 256, -1 ≤ Lib.indexByte rankL (UInt8.ofNat x.val) ∧ Lib.indexByte rankL (UInt8.ofNat x.val) < 13 := by decide +kernel
theorem suit_top : ∀ x : Fin 256, -1 ≤ Lib.indexByte suitL (UInt8.ofNat x.val) ∧ Lib.indexByte suitL (UInt8.ofNat x.val) < 4 := by decide +kernel
theorem rank_iff (x : UInt8) (m : Nat) (h : m < 13) : rankL.getD m 0 = x ↔ Lib.indexByte rankL x = (m : Int) := by
  have := rank_all ⟨x.toNat, x.toNat_lt⟩ ⟨m, h⟩
  simpa only [UInt8.ofNat_toNat] using this
theorem suit_iff (x : UInt8) (m : Nat) (h : m < 4) : suitL.getD m 0 = x ↔ Lib.indexByte suitL x = (m : Int) := by
  have := suit_all ⟨x.toNat, x.toNat_lt⟩ ⟨m, h⟩
  simpa only [UInt8.ofNat_toNat] using this
theorem rank_rng (x : UInt8) : -1 ≤ Lib.indexByte rankL x ∧ Lib.indexByte rankL x < 13 := by
  have := rank_top ⟨x.toNat, x.toNat_lt⟩
  simpa only [UInt8.ofNat_toNat] using this
theorem suit_rng (x : UInt8) : -1 ≤ Lib.indexByte suitL x ∧ Lib.indexByte suitL x < 4 := by
  have := suit_top ⟨x.toNat, x.toNat_lt⟩
  simpa only [UInt8.ofNat_toNat] using this
theorem parse_rng (d : List UInt8) : -1 ≤ parseP d ∧ parseP d < 52 := by
  unfold parseP
  split
  · rename_i x y
    have h1 := rank_rng x
    have h2 := suit_rng y
    split
    · omega
    · split
      · omega
      · omega
  · omega
theorem text_iff (d : List UInt8) (n : Nat) (hn : n < 52) : textP n = d ↔ parseP d = (n : Int) := by
  unfold parseP
  split
  · rename_i x y
    have h1 := rank_rng x
    have h2 := suit_rng y
    have e1 := rank_iff x (n % 13) (by omega)
    have e2 := suit_iff y (n / 13) (by omega)
    have e : textP n = [x, y] ↔ Lib.indexByte rankL x = ((n % 13 : Nat) : Int) ∧ Lib.indexByte suitL y = ((n / 13 : Nat) : Int) := by
      rw [← e1, ← e2]
      simp [textP]
    rw [e]
    split
    · constructor
      · rintro ⟨a, b⟩; omega
      · intro a; omega
    · split
      · constructor
        · rintro ⟨a, b⟩; omega
        · intro a; omega
      · constructor
        · rintro ⟨a, b⟩; omega
        · intro a
          constructor <;> omega
  · rename_i h
    constructor
    · intro e
      exact absurd e.symm (fun e' => h _ _ e')
    · intro a; omega
theorem implParse_at (a0 : ByteArray) : impl_ParseCard.f a0 = some (parseP a0.data.toList) := by
  obtain ⟨⟨d⟩⟩ := a0
  unfold impl_ParseCard.f strings_IndexByte.f
  have hsz : (⟨⟨d⟩⟩ : ByteArray).size = d.length := rfl
  rw [hsz]
  by_cases h : d.length = 2
  · obtain ⟨x, y, rfl⟩ : ∃ x y, d = [x, y] := by
      match d, h with
      | [x, y], _ => exact ⟨x, y, rfl⟩
    have b0 : bt ⟨#[x, y]⟩ 0 = (x.toNat : Int) := rfl
    have b1 : bt ⟨#[x, y]⟩ 1 = (y.toNat : Int) := rfl
    have t0 : (x.toNat : Int).toNat.toUInt8 = x := by rw [Int.toNat_natCast]; exact UInt8.ofNat_toNat
    have t1 : (y.toNat : Int).toNat.toUInt8 = y := by rw [Int.toNat_natCast]; exact UInt8.ofNat_toNat
    have h1 := rank_rng x
    have h2 := suit_rng y
    have c1 : (⟨#[50, 51, 52, 53, 54, 55, 56, 57, 84, 74, 81, 75, 65]⟩ : ByteArray).data.toList = rankL := rfl
    rw [if_pos (by simp), if_pos (by simp), b0, t0, c1]
    simp only [Option.bind_some]
    have c3 : ([99, 100, 104, 115] : List UInt8) = suitL := rfl
    rw [if_pos (by simp), b1, t1]
    simp only [Option.bind_some, parseP, c3]
    split
    · rfl
    · split
      · rfl
      · rw [wrap_ok (n := Lib.indexByte suitL y * 13) (by omega), wrap_ok (by omega)]
  · rw [if_neg (by omega)]
    unfold parseP
    split
    · rename_i x y e
      exact absurd (by rw [show d = [x, y] from e]; rfl) h
    · rfl

/-! ### The cursor of the draws -/
theorem and255_range (x : Int) : 0 ≤ Go.bits .and .i64 x 255 ∧ Go.bits .and .i64 x 255 ≤ 255 := by
  have h : ∀ a : BitVec 64, (a &&& (255#64)).toNat ≤ 255 := fun a => by rw [BitVec.toNat_and]; exact Nat.and_le_right
  have h2 := h (BitVec.ofInt 64 x)
  have e : Go.bits .and .i64 x 255 = IntKind.i64.wrap (((BitVec.ofInt 64 x &&& (255#64)).toNat : Nat) : Int) := rfl
  rw [e, IntKind.wrap_i64]
  omega
theorem byte_some (b : List Int) (i h : Int) (hb : b.length ≤ 1048576) (hi : 0 ≤ i) : ∃ x i' h', spec_l1Byte.f b i h = some (x, i', h') ∧ 0 ≤ x ∧ x ≤ 255 ∧ 0 ≤ i' := by
  unfold spec_l1Byte.f
  by_cases h1 : i < (b.length : Int)
  · rw [if_pos h1, if_pos hi]
    exact ⟨_, _, _, rfl, (and255_range _).1, (and255_range _).2, by rw [wrap_ok] <;> omega⟩
  · rw [if_neg h1]
    exact ⟨_, _, _, rfl, (and255_range _).1, (and255_range _).2, hi⟩
theorem below_some (b : List Int) (i h n : Int) (hb : b.length ≤ 1048576) (hi : 0 ≤ i) : ∃ x i' h', spec_l1Below.f b i h n = some (x, i', h') ∧ 0 ≤ x ∧ (0 < n → x < n) ∧ (n ≤ 0 → x = 0) ∧ 0 ≤ i' := by
  unfold spec_l1Below.f
  by_cases h1 : n ≤ 0
  · rw [if_pos h1]
    exact ⟨_, _, _, rfl, by omega, fun h => by omega, fun _ => rfl, hi⟩
  · rw [if_neg h1]
    have h0 : ¬ n = 0 := by omega
    by_cases h2 : n ≤ 256
    · rw [if_pos h2]
      obtain ⟨x, i1, k1, e1, x0, x1, j1⟩ := byte_some b i h hb hi
      rw [e1]
      simp only [Option.bind_some, if_neg h0]
      have ht := tmod_pos_bounds x n (by omega) x0
      exact ⟨_, _, _, rfl, ht.1, fun _ => ht.2, fun h => by omega, j1⟩
    · rw [if_neg h2]
      obtain ⟨x, i1, k1, e1, x0, x1, j1⟩ := byte_some b i h hb hi
      obtain ⟨y, i2, k2, e2, y0, y1, j2⟩ := byte_some b i1 k1 hb j1
      obtain ⟨z, i3, k3, e3, z0, z1, j3⟩ := byte_some b i2 k2 hb j2
      rw [e1]
      simp only [Option.bind_some, e2, e3, if_neg h0]
      rw [wrap_ok (n := x * 65536) (by omega), wrap_ok (n := y * 256) (by omega), wrap_ok (n := x * 65536 + y * 256) (by omega), wrap_ok (by omega)]
      have ht := tmod_pos_bounds (x * 65536 + y * 256 + z) n (by omega) (by omega)
      exact ⟨_, _, _, rfl, ht.1, fun _ => ht.2, fun h => by omega, j3⟩

theorem pick_some (b : List Int) (i h : Int) (l : List Int) (hb : b.length ≤ 1048576) (hi : 0 ≤ i) (hl : 0 < l.length) : ∃ x i' h', spec_l1Int.f b i h l = some (x, i', h') ∧ x ∈ l ∧ 0 ≤ i' := by
  obtain ⟨x, i1, k1, e1, x0, x1, _, j1⟩ := below_some b i h (l.length : Int) hb hi
  have x2 := x1 (by omega)
  unfold spec_l1Int.f
  rw [e1]
  simp only [Option.bind_some, if_pos x0, if_pos x2]
  refine ⟨_, _, _, rfl, ?_, j1⟩
  unfold rd
  rw [List.getD_eq_getElem?_getD, List.getElem?_eq_getElem (by omega)]
  exact List.getElem_mem ..

theorem new_loop (l : List Int) (hl : l.length ≤ 1048576) : ∀ (n : Nat) (i h : Int), 0 ≤ i → (4000 : Int) - i ≤ n → ∃ h', Ev (fun k => spec_l1New.l0 k l h i) (l, 0, h') := by
  intro n
  induction n with
  | zero =>
    intro i h h0 h1
    refine ⟨h, ev_end fun k => ?_⟩
    simp only [spec_l1New.l0]
    by_cases h2 : i < (l.length : Int)
    · rw [if_pos h2, if_neg (by omega)]
    · rw [if_neg h2]
  | succ n ih =>
    intro i h h0 h1
    by_cases h2 : i < (l.length : Int)
    · by_cases h3 : i < 4000
      · obtain ⟨h', e⟩ := ih (i + 1) (Go.bits .and .i64 (wrap64 ((wrap64 ((wrap64 (h * 137)) + (wrap64 (rd l i)))) + 11)) 1073741823) (by omega) (by omega)
        refine ⟨h', Ev.step (fun k => ?_) e⟩
        simp only [spec_l1New.l0]
        rw [if_pos h2, if_pos h3, if_pos h0, wrap_ok (n := i + 1) (by omega)]
      · refine ⟨h, ev_end fun k => ?_⟩
        simp only [spec_l1New.l0]
        rw [if_pos h2, if_neg h3]
    · refine ⟨h, ev_end fun k => ?_⟩
      simp only [spec_l1New.l0]
      rw [if_neg h2]
theorem new_ev (l : List Int) (hl : l.length ≤ 1048576) : ∃ h, Ev (fun k => spec_l1New.f k l) (l, 0, h) := new_loop l hl 4000 0 _ (by omega) (by omega)

theorem text_impl : ∀ n : Fin 52, impl_CardText.f (n.val : Int) = some ⟨(textP n.val).toArray⟩ := by decide +kernel
theorem text_spec : ∀ n : Fin 52, spec_CardText.f (n.val : Int) = some ⟨(textP n.val).toArray⟩ := by decide +kernel
theorem suit_impl : ∀ n : Fin 52, impl_SuitOf.f (n.val : Int) = some ((n.val / 13 : Nat) : Int) := by decide +kernel
theorem rank_impl : ∀ n : Fin 52, impl_RankOf.f (n.val : Int) = some ((n.val % 13 : Nat) : Int) := by decide +kernel
theorem no_card (c : Int) (h : cardP c = false) : impl_CardText.f c = some ⟨#[]⟩ ∧ impl_SuitOf.f c = some (-1) ∧ impl_RankOf.f c = some (-1) := by
  have e := impl_card c
  rw [h] at e
  unfold impl_CardText.f impl_SuitOf.f impl_RankOf.f
  rw [e]
  simp
theorem spec_text (c : Int) : ∃ t, spec_CardText.f c = some t := by
  by_cases h : 0 ≤ c ∧ c ≤ 51
  · have := text_spec ⟨c.toNat, by omega⟩
    simp only [Int.toNat_of_nonneg h.1] at this
    exact ⟨_, this⟩
  · refine ⟨⟨#[]⟩, ?_⟩
    unfold spec_CardText.f spec_IsCard.f spec_l1In.f
    by_cases h1 : 0 ≤ c
    · have h2 : ¬ c ≤ 51 := fun h2 => h ⟨h1, h2⟩
      simp [h1, h2]
    · simp [h1]
theorem suit_any (c : Int) : ∃ r, impl_SuitOf.f c = some r := by
  cases h : cardP c with
  | false => exact ⟨_, (no_card c h).2.1⟩
  | true =>
    have h' : 0 ≤ c ∧ c ≤ 51 := by simpa [cardP] using h
    have := suit_impl ⟨c.toNat, by omega⟩
    simp only [Int.toNat_of_nonneg h'.1] at this
    exact ⟨_, this⟩
theorem four_some (b : List Int) (i h : Int) (hb : b.length ≤ 1048576) (hi : 0 ≤ i) : ∃ v i' h', spec_l4Card.f b i h = some (v, i', h') ∧ 0 ≤ i' := by
  unfold spec_l4Card.f
  obtain ⟨x, i1, k1, e1, _, _, _, j1⟩ := below_some b i h 52 hb hi
  obtain ⟨y, i2, k2, e2, _, _, _, j2⟩ := below_some b i1 k1 52 hb j1
  obtain ⟨z, i3, k3, e3, _, _, _, j3⟩ := below_some b i2 k2 52 hb j2
  obtain ⟨v, i4, k4, e4, _, j4⟩ := pick_some b i3 k3 [x, y, z, 0, 51, 52, (-1), 9223372036854775807] hb j3 (by simp)
  rw [e1]
  simp only [Option.bind_some, e2, e3, e4]
  exact ⟨_, _, _, rfl, j4⟩
theorem str_some (b : List Int) (i h : Int) (l : List ByteArray) (hb : b.length ≤ 1048576) (hi : 0 ≤ i) (hl : 0 < l.length) : ∃ x i' h', spec_l1Str.f b i h l = some (x, i', h') ∧ 0 ≤ i' := by
  obtain ⟨x, i1, k1, e1, x0, x1, _, j1⟩ := below_some b i h (l.length : Int) hb hi
  have x2 := x1 (by omega)
  unfold spec_l1Str.f
  rw [e1]
  simp only [Option.bind_some, if_pos x0, if_pos x2]
  exact ⟨_, _, _, rfl, j1⟩
theorem drawCard_ev (l : List Int) (hl : l.length ≤ 1048576) : ∃ c, Ev (fun k => spec_DrawIsCard.f k l) c := by
  obtain ⟨h, e⟩ := new_ev l hl
  obtain ⟨v, i1, k1, e1, j1⟩ := four_some l 0 h hl (by omega)
  refine ⟨v, ?_⟩
  unfold spec_DrawIsCard.f
  refine ev_bind e ?_
  refine ev_call e1 ?_
  exact Ev.now _
theorem drawParse_ev (l : List Int) (hl : l.length ≤ 1048576) : ∃ t, Ev (fun k => spec_DrawParseCard.f k l) t := by
  obtain ⟨h, e⟩ := new_ev l hl
  obtain ⟨v, i1, k1, e1, j1⟩ := four_some l 0 h hl (by omega)
  obtain ⟨s, es⟩ := spec_text v
  obtain ⟨t, i2, k2, e2, j2⟩ := str_some l i1 k1 [s, s, s, (⟨#[]⟩ : ByteArray), (⟨#[49, 48, 99]⟩ : ByteArray), (⟨#[65, 99, 32]⟩ : ByteArray), (⟨#[97, 67]⟩ : ByteArray), (⟨#[84, 120]⟩ : ByteArray), (⟨#[50, 99]⟩ : ByteArray)] hl j1 (by simp)
  refine ⟨t, ?_⟩
  unfold spec_DrawParseCard.f
  refine ev_bind e ?_
  refine ev_call e1 ?_
  refine ev_call es ?_
  refine ev_call e2 ?_
  exact Ev.now _
theorem red_end (r : Int) : Ev (fun _ => (impl_IsRed.f r).bind fun t194 => ((impl_SuitOf.f r).bind fun t195 => (if t195 = 1 then (some (t194 == true)) else ((impl_SuitOf.f r).bind fun t196 => (some (t194 == (t196 == 2))))))) true := by
  obtain ⟨s, hs⟩ := suit_any r
  unfold impl_IsRed.f
  rw [hs]
  refine ev_some fun _ => ?_
  simp only [Option.bind_some]
  by_cases h : s = 1
  · simp [h]
  · simp [h]
theorem cards_tail (l : List Int) (hl : l.length ≤ 1048576) : Ev (fun k => laws_FnCards.j0 k l false) true := by
  obtain ⟨c, ec⟩ := drawCard_ev l hl
  obtain ⟨t, et⟩ := drawParse_ev l hl
  refine Ev.step (fun k => laws_FnCards.j0.eq_2 _ _ k) ?_
  refine ev_neg (by simp) ?_
  refine ev_bind et ?_
  refine ev_call (implParse_at t) ?_
  refine ev_bind (a := c) (by unfold spec_DrawIsRed.f; exact ev_bind ec (Ev.now _)) ?_
  have hr := parse_rng t.data.toList
  by_cases h : parseP t.data.toList = -1
  · exact ev_pos h (red_end c)
  · refine ev_neg h ?_
    have hi := text_impl ⟨(parseP t.data.toList).toNat, by omega⟩
    have hp : (((parseP t.data.toList).toNat : Nat) : Int) = parseP t.data.toList := Int.toNat_of_nonneg (by omega)
    simp only [hp] at hi
    refine ev_call hi ?_
    have ht := (text_iff t.data.toList (parseP t.data.toList).toNat (by omega)).2 hp.symm
    refine ev_pos (by rw [Lib.toList_data, Lib.toList_data]; exact ht) ?_
    exact red_end c
theorem FnCards : laws_FnCards.Pure := by
  intro l0 _ _ _
  refine Ev.rounds ?_
  unfold laws_FnCards.f
  refine ev_call (rfl : laws_big.f l0 = some (decide ((l0.length : Int) > 1048576))) ?_
  by_cases hb : (l0.length : Int) > 1048576
  · refine ev_pos (by simp; omega) ?_
    exact Ev.now true
  refine ev_neg (by simp; omega) ?_
  have ht := cards_tail l0 (by omega)
  obtain ⟨c, ec⟩ := drawCard_ev l0 (by omega)
  refine ev_bind (a := c) (by unfold spec_DrawCardText.f; exact ev_bind ec (Ev.now _)) ?_
  cases h : cardP c with
  | false =>
    obtain ⟨n1, n2, n3⟩ := no_card c h
    have hc := impl_card c
    rw [h] at hc
    refine ev_call n1 ?_
    refine ev_call hc ?_
    refine ev_neg (by rw [Lib.toList_data]; decide) ?_
    refine ev_call hc ?_
    refine ev_neg (by decide) ?_
    refine ev_call hc ?_
    refine ev_neg (by decide) ?_
    refine ev_call n2 ?_
    refine ev_pos rfl ?_
    refine ev_call n3 ?_
    exact ht
  | true =>
    have h' : 0 ≤ c ∧ c ≤ 51 := by simpa [cardP] using h
    have hc := impl_card c
    rw [h] at hc
    obtain ⟨n, hn, rfl⟩ : ∃ n : Nat, n < 52 ∧ c = (n : Int) := ⟨c.toNat, by omega, by omega⟩
    have t1 := text_impl ⟨n, hn⟩
    have t2 := suit_impl ⟨n, hn⟩
    have t3 := rank_impl ⟨n, hn⟩
    have hp : parseP (textP n) = (n : Int) := (text_iff (textP n) n hn).1 rfl
    simp only at t1 t2 t3
    refine ev_call t1 ?_
    refine ev_call hc ?_
    refine ev_neg (by rw [Lib.toList_data]; simp [textP]) ?_
    refine ev_call hc ?_
    refine ev_pos rfl ?_
    refine ev_call (implParse_at _) ?_
    refine ev_pos hp ?_
    refine ev_call t2 ?_
    refine ev_call t3 ?_
    refine ev_pos (by rw [wrap_ok (n := ((n / 13 : Nat) : Int) * 13) (by omega), wrap_ok (by omega)]; omega) ?_
    refine ev_call hc ?_
    refine ev_pos rfl ?_
    exact ht

end Go.Proofs.Ytbjecehiappdeac.Pure

/-- The words' fact, under the name by which the row asks for it. -/
theorem Go.Proofs.Ytbjecehiappdeac.PrintWords.sized_ints {H : Type} {enc : Go.TypeId × Go.Value → H} {P : Go.Program} {W : Go.World} {base : Nat} {spare : Nat → Bool} {held : Bool} {t e : Go.TypeId} {k : Go.IntKind} {a : Option Go.Addr} {len cap : Nat} {d : Go.DataW H} {ps : List Go.MemPlace} {ts : List Go.TypeId} {ds : List (Go.DataW H)} {j : Nat}
    (hsz : (Go.DataW.weightsEach P ts ds).all (· ≤ Go.reachBytes) = true) (ht : ts[j]? = some t) (hd : ds[j]? = some d) (hu : P.underlying t = some (.slice e)) (he : P.underlying e = some (.int k)) (hc : P.cellsOf e = 1) {B : Nat} (hB : P.bytesOf e = B)
    (h : Go.DataW.Trod enc P W base spare held t (.slice a len cap) d ps) : len * B ≤ 140737488351232 := Go.Proofs.YtbjecehiappdeacW.PrintWords.sized_ints hsz ht hd hu he hc hB h
