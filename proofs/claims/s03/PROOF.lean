import PyProof.Rows.All
import Wide.All
import OpenK.AllK
import Wide.FinOn
import PyProof.EqAt
import PyProof.EqKinds
import PyProof.TupleCall
import Open.SpecLaws
import KE.OsHead
import KE.OsGo
import HandS.ForSpec
import HandS.Comp
import HandS.Dict
import HandS.Iter
import HandS.Text
import HandS.Style
import HandS.Flt
import HandS.Evl
import HandS.Steps
import PySem.Challenge.RW_sureline_s03_parity
set_option Elab.async false
set_option linter.all false
set_option maxRecDepth 100000

/-! The field of bytes: Fm11.times on bytes is a field's product. -/
namespace GF
open Fm11
theorem xor_lt {a b : Nat} (ha : a < 256) (hb : b < 256) : a ^^^ b < 256 := Nat.xor_lt_two_pow (n := 8) ha hb
theorem twice_eq (a : Nat) : twice a = (2 * a) ^^^ (if 128 ≤ a then 283 else 0) := by
  unfold twice
  by_cases h : a < 128
  · rw [if_pos h, if_neg (by omega), Nat.xor_zero]
  · rw [if_neg h, if_pos (by omega)]
theorem two_mul_xor (a b : Nat) : 2 * (a ^^^ b) = (2 * a) ^^^ (2 * b) := by
  have e : ∀ x : Nat, 2 * x = x <<< 1 := fun x => by rw [Nat.shiftLeft_eq]; omega
  rw [e, e a, e b, Nat.shiftLeft_xor_distrib]
theorem top_bit {a : Nat} (h : a < 256) : decide (128 ≤ a) = a.testBit 7 := by
  rw [Nat.testBit_eq_decide_div_mod_eq]
  apply decide_eq_decide.mpr
  omega
theorem twice_xor {a b : Nat} (ha : a < 256) (hb : b < 256) : twice (a ^^^ b) = twice a ^^^ twice b := by
  have hc := xor_lt ha hb
  have e : ∀ {x : Nat}, x < 256 → twice x = (2 * x) ^^^ (if x.testBit 7 = true then 283 else 0) := fun {x} h => by
    rw [twice_eq, ← top_bit h]
    simp
  rw [e ha, e hb, e hc, two_mul_xor, Nat.testBit_xor]
  cases a.testBit 7 <;> cases b.testBit 7
  · simp
  · simp only [Bool.false_eq_true, if_false, if_true, Bool.false_xor, Nat.xor_zero]
    ac_rfl
  · simp only [Bool.false_eq_true, if_false, if_true, Bool.xor_false, Nat.xor_zero]
    ac_rfl
  · simp only [Bool.false_eq_true, if_false, if_true, Bool.xor_self, Nat.xor_zero]
    rw [show 2 * a ^^^ 283 ^^^ (2 * b ^^^ 283) = 2 * a ^^^ 2 * b ^^^ (283 ^^^ 283) by ac_rfl, Nat.xor_self, Nat.xor_zero]
theorem twice_lt : ∀ a, a < 256 → twice a < 256 := by decide +kernel
/-- one turn of a product -/
def turn (a b : Nat) (r i : Nat) : Nat := if b / 2 ^ (7 - i) % 2 = 1 then twice r ^^^ a else twice r
theorem times_def (a b : Nat) : times a b = (List.range 8).foldl (turn a b) 0 := rfl
theorem fold_lt {a : Nat} (ha : a < 256) (b : Nat) : ∀ (l : List Nat) (r : Nat), r < 256 → l.foldl (turn a b) r < 256
  | [], r, h => h
  | i :: l, r, h => by
    rw [List.foldl_cons]
    refine fold_lt ha b l _ ?_
    unfold turn
    split
    · exact xor_lt (twice_lt r h) ha
    · exact twice_lt r h
theorem times_lt {a : Nat} (ha : a < 256) (b : Nat) : times a b < 256 := fold_lt ha b _ 0 (by decide)
theorem fold_left {a c : Nat} (ha : a < 256) (hc : c < 256) (b : Nat) : ∀ (l : List Nat) (r s : Nat), r < 256 → s < 256 →
    l.foldl (turn (a ^^^ c) b) (r ^^^ s) = l.foldl (turn a b) r ^^^ l.foldl (turn c b) s
  | [], _, _, _, _ => rfl
  | i :: l, r, s, hr, hs => by
    rw [List.foldl_cons, List.foldl_cons, List.foldl_cons]
    have e : turn (a ^^^ c) b (r ^^^ s) i = turn a b r i ^^^ turn c b s i := by
      unfold turn
      rw [twice_xor hr hs]
      split
      · ac_rfl
      · rfl
    rw [e]
    refine fold_left ha hc b l _ _ ?_ ?_
    · unfold turn
      split
      · exact xor_lt (twice_lt r hr) ha
      · exact twice_lt r hr
    · unfold turn
      split
      · exact xor_lt (twice_lt s hs) hc
      · exact twice_lt s hs
theorem times_xor_left {a c : Nat} (ha : a < 256) (hc : c < 256) (b : Nat) : times (a ^^^ c) b = times a b ^^^ times c b :=
  fold_left ha hc b _ 0 0 (by decide) (by decide)
theorem bit_xor (b d k : Nat) : ((b ^^^ d) / 2 ^ k % 2 = 1) ↔ ¬ ((b / 2 ^ k % 2 = 1) ↔ (d / 2 ^ k % 2 = 1)) := by
  have e : ∀ x : Nat, (x / 2 ^ k % 2 = 1) ↔ x.testBit k = true := fun x => by
    rw [Nat.testBit_eq_decide_div_mod_eq, decide_eq_true_iff]
  rw [e, e, e, Nat.testBit_xor]
  cases b.testBit k <;> cases d.testBit k <;> simp
theorem fold_right {a : Nat} (ha : a < 256) (b d : Nat) : ∀ (l : List Nat) (r s : Nat), r < 256 → s < 256 →
    l.foldl (turn a (b ^^^ d)) (r ^^^ s) = l.foldl (turn a b) r ^^^ l.foldl (turn a d) s
  | [], _, _, _, _ => rfl
  | i :: l, r, s, hr, hs => by
    rw [List.foldl_cons, List.foldl_cons, List.foldl_cons]
    have e : turn a (b ^^^ d) (r ^^^ s) i = turn a b r i ^^^ turn a d s i := by
      unfold turn
      rw [twice_xor hr hs]
      have q := bit_xor b d (7 - i)
      by_cases h1 : b / 2 ^ (7 - i) % 2 = 1 <;> by_cases h2 : d / 2 ^ (7 - i) % 2 = 1
      · rw [if_pos h1, if_pos h2, if_neg (fun z => (q.mp z) ⟨fun _ => h2, fun _ => h1⟩)]
        rw [show twice r ^^^ a ^^^ (twice s ^^^ a) = twice r ^^^ twice s ^^^ (a ^^^ a) by ac_rfl, Nat.xor_self, Nat.xor_zero]
      · rw [if_pos h1, if_neg h2, if_pos (q.mpr fun z => h2 (z.mp h1))]
        ac_rfl
      · rw [if_neg h1, if_pos h2, if_pos (q.mpr fun z => h1 (z.mpr h2))]
        ac_rfl
      · rw [if_neg h1, if_neg h2, if_neg (fun z => (q.mp z) ⟨fun y => absurd y h1, fun y => absurd y h2⟩)]
    rw [e]
    refine fold_right ha b d l _ _ ?_ ?_
    · unfold turn
      split
      · exact xor_lt (twice_lt r hr) ha
      · exact twice_lt r hr
    · unfold turn
      split
      · exact xor_lt (twice_lt s hs) ha
      · exact twice_lt s hs
theorem times_xor_right {a : Nat} (ha : a < 256) (b d : Nat) : times a (b ^^^ d) = times a b ^^^ times a d :=
  fold_right ha b d _ 0 0 (by decide) (by decide)
/-- two additive functions on bytes that agree at 1, 2, 4 .. 128 are one -/
theorem agree {F G : Nat → Nat} (hF : ∀ a b, a < 256 → b < 256 → F (a ^^^ b) = F a ^^^ F b) (hG : ∀ a b, a < 256 → b < 256 → G (a ^^^ b) = G a ^^^ G b)
    (hb : ∀ i, i < 8 → F (2 ^ i) = G (2 ^ i)) : ∀ a, a < 256 → F a = G a := by
  have z : F 0 = 0 ∧ G 0 = 0 := by
    have f := hF 0 0 (by decide) (by decide)
    have g := hG 0 0 (by decide) (by decide)
    rw [Nat.xor_self, Nat.xor_self] at f g
    exact ⟨f, g⟩
  have all : ∀ n, n ≤ 8 → ∀ a, a < 2 ^ n → F a = G a := by
    intro n
    induction n with
    | zero =>
      intro _ a ha
      have e : a = 0 := by
        have : (2 : Nat) ^ 0 = 1 := rfl
        omega
      rw [e, z.1, z.2]
    | succ n ih =>
      intro hn a ha
      by_cases h : a < 2 ^ n
      · exact ih (by omega) a h
      · have hp : 2 ^ (n + 1) = 2 ^ n + 2 ^ n := by rw [Nat.pow_succ]; omega
        have h8 : 2 ^ (n + 1) ≤ 2 ^ 8 := Nat.pow_le_pow_right (by decide) hn
        obtain ⟨b, rfl⟩ : ∃ b, a = 2 ^ n + b := ⟨a - 2 ^ n, by omega⟩
        have hb2 : b < 2 ^ n := by omega
        have e : 2 ^ n + b = 2 ^ n ^^^ b := by
          have := Nat.two_pow_add_eq_or_of_lt hb2 1
          rw [Nat.mul_one] at this
          rw [this]
          apply Nat.eq_of_testBit_eq
          intro i
          rw [Nat.testBit_or, Nat.testBit_xor]
          by_cases hi : i = n
          · subst hi
            rw [Nat.testBit_lt_two_pow hb2]
            simp
          · rw [Nat.testBit_two_pow_of_ne (Ne.symm hi)]
            simp
        rw [e, hF _ _ (by omega) (by omega), hG _ _ (by omega) (by omega), hb n (by omega), ih (by omega) b hb2]
  intro a ha
  exact all 8 (Nat.le_refl _) a ha
theorem comm_bits : ∀ i, i < 8 → ∀ j, j < 8 → times (2 ^ i) (2 ^ j) = times (2 ^ j) (2 ^ i) := by decide +kernel
theorem p2 {i : Nat} (h : i < 8) : 2 ^ i < 256 := by
  have e : 2 ^ i < 2 ^ 8 := Nat.pow_lt_pow_right (by decide) h
  exact e
theorem times_comm {a b : Nat} (ha : a < 256) (hb : b < 256) : times a b = times b a := by
  refine agree (F := fun a => times a b) (G := fun a => times b a) (fun x y hx hy => times_xor_left hx hy b) (fun x y _ _ => times_xor_right hb x y) (fun i hi => ?_) a ha
  refine agree (F := fun b => times (2 ^ i) b) (G := fun b => times b (2 ^ i)) (fun x y _ _ => times_xor_right (p2 hi) x y) (fun x y hx hy => times_xor_left hx hy _) (fun j hj => comm_bits i hi j hj) b hb
theorem assoc_bits : ∀ i, i < 8 → ∀ j, j < 8 → ∀ k, k < 8 → times (times (2 ^ i) (2 ^ j)) (2 ^ k) = times (2 ^ i) (times (2 ^ j) (2 ^ k)) := by decide +kernel
theorem times_assoc {a b c : Nat} (ha : a < 256) (hb : b < 256) (hc : c < 256) : times (times a b) c = times a (times b c) := by
  refine agree (F := fun a => times (times a b) c) (G := fun a => times a (times b c)) (fun x y hx hy => ?_) (fun x y hx hy => times_xor_left hx hy _) (fun i hi => ?_) a ha
  · show times (times (x ^^^ y) b) c = _
    rw [times_xor_left hx hy, times_xor_left (times_lt hx b) (times_lt hy b)]
  · refine agree (F := fun b => times (times (2 ^ i) b) c) (G := fun b => times (2 ^ i) (times b c)) (fun x y hx hy => ?_) (fun x y hx hy => ?_) (fun j hj => ?_) b hb
    · show times (times (2 ^ i) (x ^^^ y)) c = _
      rw [times_xor_right (p2 hi), times_xor_left (times_lt (p2 hi) x) (times_lt (p2 hi) y)]
    · show times (2 ^ i) (times (x ^^^ y) c) = _
      rw [times_xor_left hx hy, times_xor_right (p2 hi)]
    · refine agree (F := fun c => times (times (2 ^ i) (2 ^ j)) c) (G := fun c => times (2 ^ i) (times (2 ^ j) c)) (fun x y hx hy => times_xor_right (times_lt (p2 hi) _) x y) (fun x y hx hy => ?_) (fun k hk => assoc_bits i hi j hj k hk) c hc
      show times (2 ^ i) (times (2 ^ j) (x ^^^ y)) = _
      rw [times_xor_right (p2 hj), times_xor_right (p2 hi)]
theorem times_one : ∀ a, a < 256 → times a 1 = a := by decide +kernel
theorem times_zero : ∀ a, a < 256 → times a 0 = 0 := by decide +kernel
/-- the powers of 3 -/
theorem power_lt : ∀ k, power k < 256
  | 0 => by decide
  | k + 1 => times_lt (by decide) _
theorem power_add (i : Nat) : ∀ j, power (i + j) = times (power i) (power j)
  | 0 => (times_one _ (power_lt i)).symm
  | j + 1 => by
    show times 3 (power (i + j)) = times (power i) (times 3 (power j))
    rw [power_add i j, ← times_assoc (by decide) (power_lt i) (power_lt j), ← times_assoc (power_lt i) (by decide) (power_lt j), times_comm (by decide) (power_lt i)]
/-- the powers as a list, made one from another -/
def next : List Nat → List Nat
  | [] => [1]
  | a :: r => times 3 a :: a :: r
def down : Nat → List Nat
  | 0 => [1]
  | k + 1 => match down k with
    | [] => []
    | a :: r => times 3 a :: a :: r
theorem down_eq : ∀ k, down k = (List.range (k + 1)).reverse.map power
  | 0 => rfl
  | k + 1 => by
    have ih := down_eq k
    rw [List.range_succ, List.reverse_append, List.map_append] at ih
    rw [List.range_succ, List.reverse_append, List.map_append, List.range_succ, List.reverse_append, List.map_append]
    unfold down
    rw [ih]
    rfl
def table : List Nat := (down 254).reverse
theorem table_eq : table = (List.range 255).map power := by
  unfold table
  rw [down_eq, List.map_reverse, List.reverse_reverse]
theorem table_len : table.length = 255 := by rw [table_eq, List.length_map, List.length_range]
theorem table_get {k : Nat} (h : k < 255) : table[k]? = some (power k) := by
  rw [table_eq, List.getElem?_map, List.getElem?_range h]
  rfl
def tableL : List Nat := [1, 3, 5, 15, 17, 51, 85, 255, 26, 46, 114, 150, 161, 248, 19, 53, 95, 225, 56, 72, 216, 115, 149, 164, 247, 2, 6, 10, 30, 34, 102, 170, 229, 52, 92, 228, 55, 89, 235, 38, 106, 190, 217, 112, 144, 171, 230, 49, 83, 245, 4, 12, 20, 60, 68, 204, 79, 209, 104, 184, 211, 110, 178, 205, 76, 212, 103, 169, 224, 59, 77, 215, 98, 166, 241, 8, 24, 40, 120, 136, 131, 158, 185, 208, 107, 189, 220, 127, 129, 152, 179, 206, 73, 219, 118, 154, 181, 196, 87, 249, 16, 48, 80, 240, 11, 29, 39, 105, 187, 214, 97, 163, 254, 25, 43, 125, 135, 146, 173, 236, 47, 113, 147, 174, 233, 32, 96, 160, 251, 22, 58, 78, 210, 109, 183, 194, 93, 231, 50, 86, 250, 21, 63, 65, 195, 94, 226, 61, 71, 201, 64, 192, 91, 237, 44, 116, 156, 191, 218, 117, 159, 186, 213, 100, 172, 239, 42, 126, 130, 157, 188, 223, 122, 142, 137, 128, 155, 182, 193, 88, 232, 35, 101, 175, 234, 37, 111, 177, 200, 67, 197, 84, 252, 31, 33, 99, 165, 244, 7, 9, 27, 45, 119, 153, 176, 203, 70, 202, 69, 207, 74, 222, 121, 139, 134, 145, 168, 227, 62, 66, 198, 81, 243, 14, 18, 54, 90, 238, 41, 123, 141, 140, 143, 138, 133, 148, 167, 242, 13, 23, 57, 75, 221, 124, 132, 151, 162, 253, 28, 36, 108, 180, 199, 82, 246]
theorem table_lit : table = tableL := by decide +kernel
/-- which power a byte is -/
def places : List Nat := (List.range 255).foldl (fun l k => l.set (tableL.getD k 0) k) (List.replicate 256 0)
def placesL : List Nat := [0, 0, 25, 1, 50, 2, 26, 198, 75, 199, 27, 104, 51, 238, 223, 3, 100, 4, 224, 14, 52, 141, 129, 239, 76, 113, 8, 200, 248, 105, 28, 193, 125, 194, 29, 181, 249, 185, 39, 106, 77, 228, 166, 114, 154, 201, 9, 120, 101, 47, 138, 5, 33, 15, 225, 36, 18, 240, 130, 69, 53, 147, 218, 142, 150, 143, 219, 189, 54, 208, 206, 148, 19, 92, 210, 241, 64, 70, 131, 56, 102, 221, 253, 48, 191, 6, 139, 98, 179, 37, 226, 152, 34, 136, 145, 16, 126, 110, 72, 195, 163, 182, 30, 66, 58, 107, 40, 84, 250, 133, 61, 186, 43, 121, 10, 21, 155, 159, 94, 202, 78, 212, 172, 229, 243, 115, 167, 87, 175, 88, 168, 80, 244, 234, 214, 116, 79, 174, 233, 213, 231, 230, 173, 232, 44, 215, 117, 122, 235, 22, 11, 245, 89, 203, 95, 176, 156, 169, 81, 160, 127, 12, 246, 111, 23, 196, 73, 236, 216, 67, 31, 45, 164, 118, 123, 183, 204, 187, 62, 90, 251, 96, 177, 134, 59, 82, 161, 108, 170, 85, 41, 157, 151, 178, 135, 144, 97, 190, 220, 252, 188, 149, 207, 205, 55, 63, 91, 209, 83, 57, 132, 60, 65, 162, 109, 71, 20, 42, 158, 93, 86, 242, 211, 171, 68, 17, 146, 217, 35, 32, 46, 137, 180, 124, 184, 38, 119, 153, 227, 165, 103, 74, 237, 222, 197, 49, 254, 24, 13, 99, 140, 128, 192, 247, 112, 7]
theorem places_lit : places = placesL := by decide +kernel
theorem places_len : placesL.length = 256 := by decide +kernel
theorem placesL_ok : ∀ a, a < 256 → a ≠ 0 → tableL.getD (placesL.getD a 0) 0 = a ∧ placesL.getD a 0 < 255 := by decide +kernel
theorem tableL_ok : ∀ k, k < 255 → placesL.getD (tableL.getD k 0) 0 = k ∧ tableL.getD k 0 ≠ 0 := by decide +kernel
theorem power_lit {k : Nat} (h : k < 255) : tableL.getD k 0 = power k := by
  have e := table_get h
  rw [table_lit] at e
  rw [List.getD_eq_getElem?_getD, e]
  rfl
/-- a byte's place -/
def place (a : Nat) : Nat := placesL.getD a 0
theorem place_lt {a : Nat} (h : a < 256) (h0 : a ≠ 0) : place a < 255 := (placesL_ok a h h0).2
theorem power_place {a : Nat} (h : a < 256) (h0 : a ≠ 0) : power (place a) = a := by
  rw [← power_lit (place_lt h h0)]
  exact (placesL_ok a h h0).1
theorem place_power {k : Nat} (h : k < 255) : place (power k) = k := by
  rw [← power_lit h]
  exact (tableL_ok k h).1
theorem power_ne_lt {k : Nat} (h : k < 255) : power k ≠ 0 := by
  rw [← power_lit h]
  exact (tableL_ok k h).2
theorem power_255 : power 255 = 1 := by
  show times 3 (power 254) = 1
  rw [← power_lit (by decide)]
  decide +kernel
theorem power_add_255 (k : Nat) : power (k + 255) = power k := by
  rw [power_add, power_255, times_one _ (power_lt k)]
theorem power_mul_255 (k : Nat) : ∀ q, power (k + 255 * q) = power k
  | 0 => rfl
  | q + 1 => by
    rw [Nat.mul_succ, ← Nat.add_assoc, power_add_255, power_mul_255 k q]
theorem power_mod (k : Nat) : power (k % 255) = power k := by
  have e := power_mul_255 (k % 255) (k / 255)
  rw [Nat.mod_add_div] at e
  exact e.symm
theorem power_ne (k : Nat) : power k ≠ 0 := by
  rw [← power_mod]
  exact power_ne_lt (Nat.mod_lt _ (by decide))
theorem power_inj {i j : Nat} (hi : i < 255) (hj : j < 255) (h : power i = power j) : i = j := by
  rw [← place_power hi, ← place_power hj, h]
theorem zero_times : ∀ a, a < 256 → times 0 a = 0 := by decide +kernel
/-- the table's product is the product -/
theorem times_table {a b : Nat} (ha : a < 256) (hb : b < 256) : times a b = if a = 0 ∨ b = 0 then 0 else power ((place a + place b) % 255) := by
  by_cases h0 : a = 0
  · subst h0
    rw [if_pos (Or.inl rfl), zero_times b hb]
  · by_cases h1 : b = 0
    · subst h1
      rw [if_pos (Or.inr rfl), times_zero a ha]
    · rw [if_neg (fun z => z.elim h0 h1), power_mod, power_add, power_place ha h0, power_place hb h1]
/-- inverses -/
theorem inv_power {k : Nat} (h : k < 255) : times (power k) (power (255 - k)) = 1 := by
  rw [← power_add, show k + (255 - k) = 255 by omega, power_255]
theorem inverse_spec {a : Nat} (ha : a < 256) (h0 : a ≠ 0) : times a (inverse a) = 1 ∧ inverse a < 256 := by
  unfold inverse
  cases e : (List.range 256).find? (fun x => times a x == 1) with
  | none =>
    exfalso
    have q := List.find?_eq_none.mp e (power (255 - place a)) (List.mem_range.mpr (power_lt _))
    apply q
    have w := inv_power (place_lt ha h0)
    rw [power_place ha h0] at w
    rw [w]
    rfl
  | some x =>
    have q := List.find?_some e
    have m := List.mem_of_find?_eq_some e
    exact ⟨eq_of_beq q, List.mem_range.mp m⟩
theorem inverse_zero : inverse 0 = 0 := by decide +kernel
theorem cancel {a b c : Nat} (ha : a < 256) (hb : b < 256) (hc : c < 256) (h0 : a ≠ 0) (h : times a b = times a c) : b = c := by
  obtain ⟨i1, i2⟩ := inverse_spec ha h0
  have e : ∀ {x}, x < 256 → times (inverse a) (times a x) = x := fun {x} hx => by
    rw [← times_assoc i2 ha hx, times_comm i2 ha, i1, times_comm (by decide) hx, times_one x hx]
  rw [← e hb, ← e hc, h]
theorem inverse_power {k : Nat} (h : k < 255) : inverse (power k) = power (255 - k) := by
  obtain ⟨i1, i2⟩ := inverse_spec (power_lt k) (power_ne k)
  exact cancel (power_lt k) i2 (power_lt _) (power_ne k) (i1.trans (inv_power h).symm)
end GF

set_option maxHeartbeats 4000000
/-! ### words over the hand layer: callees, fields, loops over pairs -/
namespace Sl
open PySem PySem.Spec PyProof.Rows L2 Evl
/-- bytes and other numbers as values -/
def vn (l : List Nat) : List V := l.map fun (n : Nat) => V.int (n : Int)
theorem vn_len (l : List Nat) : (vn l).length = l.length := by
  unfold vn
  rw [List.length_map]
theorem vn_get {l : List Nat} {i n : Nat} (h : l[i]? = some n) : (vn l)[i]? = some (V.int (n : Int)) := by
  unfold vn
  rw [List.getElem?_map, h]
  rfl
theorem of_vn_get {l : List Nat} {i : Nat} {x : V} (h : (vn l)[i]? = some x) : ∃ n, l[i]? = some n ∧ x = V.int (n : Int) := by
  unfold vn at h
  rw [List.getElem?_map] at h
  cases e : l[i]? with
  | none =>
    rw [e] at h
    cases h
  | some n =>
    rw [e] at h
    exact ⟨n, rfl, (Option.some.inj h).symm⟩
theorem vn_app (a b : List Nat) : vn (a ++ b) = vn a ++ vn b := by
  unfold vn
  rw [List.map_append]
theorem take_more {α : Type} : ∀ {l : List α} {i : Nat} {x : α}, l[i]? = some x → l.take (i + 1) = l.take i ++ [x]
  | [], i, x, h => by simp at h
  | a :: l, 0, x, h => by
    have e : a = x := Option.some.inj h
    subst e
    rfl
  | a :: l, i + 1, x, h => by
    have ih := take_more (l := l) (i := i) (x := x) h
    show a :: l.take (i + 1) = a :: l.take i ++ [x]
    rw [ih]
    rfl
section
variable {X : Cx} {x : Str} {pos : Pos}
theorem pe_gI {i : Int} (hg : Gl X x) (hm : ∃ t, X.mg x = some (.int i t)) (hd : (x == ("__debug__" : Str)) = false := by decide) : PE X (.Name x pos) (tC (.int i)) := by
  obtain ⟨t, h⟩ := hm
  exact pe_glob hg h ⟨t, rfl⟩ hd
theorem pe_gR {a : Addr} (hg : Gl X x) (hm : X.mg x = some (.ref a)) (hd : (x == ("__debug__" : Str)) = false := by decide) : PE X (.Name x pos) (tC (.ref a)) := pe_glob hg hm rfl hd
end
/-! callees -/
structure Ca (P : Program) (w : World) (K : PySem.W.Frag) (mg : Str → Option Value) (base : Heap) (k : Nat) (x : Str) (sp : Sp) : Prop where
  ex : ∃ (f : Addr) (fd : FuncData) (ps : List Str), FnOk P w K mg base CX0 k f fd ps sp ∧ mg x = some (.ref f) ∧ PySem.W.keepIn K (.ref f) = true ∧ Binds K fd ps []
structure Me (P : Program) (w : World) (K : PySem.W.Frag) (mg : Str → Option Value) (base : Heap) (k : Nat) (C : Addr) (m : Str) (sp : Sp) : Prop where
  ex : ∃ (f : Addr) (fd : FuncData) (ps : List Str), Cls K C ∧ Meth K C m f ∧ FnOk P w K mg base CX0 k f fd ps sp ∧ Binds K fd ps []
structure Ma (P : Program) (w : World) (K : PySem.W.Frag) (mg : Str → Option Value) (base : Heap) (k : Nat) (x : Str) (C : Addr) (sp : Sp) : Prop where
  ex : ∃ (f : Addr) (fd : FuncData) (ps : List Str), Mk K C f ∧ FnOk P w K mg base CX0 k f fd ps sp ∧ mg x = some (.ref C) ∧ Binds K fd ps []
section
variable {X : Cx} {k j : Nat} {C : Addr} {x m : Str} {sp : Sp} {p pos apos : Pos} {e o : Expr} {es : List Expr} {ta : TE} {t : TA}
theorem pc (c : Ca X.prog X.w X.K X.mg X.base k x sp) (hr : Room j X.A) (hk : k ≤ j) (hg : Gl X x) (ha : PA X (e :: es) t)
    (hdb : (x == ("__debug__" : Str)) = false := by decide) (he : starEach (e :: es) X.env = (false, eval e X.env) :: starEach es X.env := by rfl) (hpl : (backTo pos (starEach es X.env)).any (·.1) = false := by rfl) :
    PE X (.Call (.Name x p) (e :: es) [] pos) (tCall sp [] E0 t) := by
  obtain ⟨f, fd, ps, F, hm, kp, b⟩ := c.ex
  exact pe_call F (hr.mono hk) hg hm kp b .nil pass0 ha hdb he hpl
theorem pk (c : Ma X.prog X.w X.K X.mg X.base k x C sp) (hr : Room j X.A) (hk : k + 1 ≤ j) (hg : Gl X x) (ha : PA X (e :: es) t)
    (hdb : (x == ("__debug__" : Str)) = false := by decide) (he : starEach (e :: es) X.env = (false, eval e X.env) :: starEach es X.env := by rfl) (hpl : (backTo pos (starEach es X.env)).any (·.1) = false := by rfl) :
    PE X (.Call (.Name x p) (e :: es) [] pos) (tMake C sp [] E0 t) := by
  obtain ⟨f, fd, ps, M, F, hm, b⟩ := c.ex
  exact pe_make M F (hr.mono hk) hg hm b .nil pass0 ha hdb he hpl
theorem pk0 (c : Ma X.prog X.w X.K X.mg X.base k x C sp) (hr : Room j X.A) (hk : k + 1 ≤ j) (hg : Gl X x) (hdb : (x == ("__debug__" : Str)) = false := by decide) :
    PE X (.Call (.Name x p) [] [] pos) (tMake C sp [] E0 tNil) := by
  obtain ⟨f, fd, ps, M, F, hm, b⟩ := c.ex
  exact pe_make0 M F (hr.mono hk) hg hm b .nil pass0 hdb
theorem pm {pl : Sem Bool} (c : Me X.prog X.w X.K X.mg X.base k C m sp) (hr : Room j X.A) (hk : k ≤ j) (he : PE X o ta) (ha : PA X (e :: es) t)
    (hst : starEach (e :: es) X.env = (false, eval e X.env) :: starEach es X.env := by rfl) (hpl : (backTo pos (starEach es X.env)).any (·.1) = false := by rfl)
    (ht : eval (.Call (.Attribute o m apos) (e :: es) [] pos) X.env = (do
      let ov ← eval o X.env
      standAt apos.atName
      let (f, first) ← holding [ov] (getMethod ov m pl)
      callWith pos f first (backTo pos (starEach (e :: es) X.env)) (backToKw pos (keywordEach [] X.env))) := by rfl) :
    PE X (.Call (.Attribute o m apos) (e :: es) [] pos) (tMeth C m sp [] E0 ta t) := by
  obtain ⟨f, fd, ps, hc, hm, F, b⟩ := c.ex
  exact pe_meth (pl := pl) he hc hm F (hr.mono hk) b .nil pass0 ha hst hpl ht
theorem pm0 {pl : Sem Bool} (c : Me X.prog X.w X.K X.mg X.base k C m sp) (hr : Room j X.A) (hk : k ≤ j) (he : PE X o ta)
    (ht : eval (.Call (.Attribute o m apos) [] [] pos) X.env = (do
      let ov ← eval o X.env
      standAt apos.atName
      let (f, first) ← holding [ov] (getMethod ov m pl)
      callWith pos f first (backTo pos (starEach [] X.env)) (backToKw pos (keywordEach [] X.env))) := by rfl) :
    PE X (.Call (.Attribute o m apos) [] [] pos) (tMeth C m sp [] E0 ta tNil) := by
  obtain ⟨f, fd, ps, hc, hm, F, b⟩ := c.ex
  exact pe_meth0 (pl := pl) he hc hm F (hr.mono hk) b .nil pass0 ht
end
/-! readings -/
section
variable {K : PySem.W.Frag} {σ : L2.St} {H H' : Hp} {ta tb te tv : TE} {t : TA} {y z v : V} {D : Ends} {a C dx : Addr} {fs : List (Str × V)} {f m : Str} {sp : Sp} {vs xs : List V}
theorem ev_fld (h : Ev ta σ H (.ref a)) (ho : H a = some (.ins C dx fs)) (hc : Cls K C) (hn : NoAttr K C f) (hl : fs.lookup f = some v) : Ev (tFld K ta f) σ H v := fun H1 e Q q =>
  h H1 e _ fun H2 e2 => ⟨a, C, dx, fs, v, rfl, e2 _ _ (e _ _ ho), hc, hn, hl, q H2 e2⟩
theorem ev_meth (h : Ev ta σ H (.ref a)) (ho : H a = some (.ins C dx fs)) (hl : fs.lookup m = none) (hv : EvA t σ H vs) (hs : SpV sp (.ref a :: vs) H z) : Ev (tMeth C m sp [] E0 ta t) σ H z := fun H1 e Q q =>
  h H1 e _ fun H2 e2 => ⟨a, dx, fs, rfl, e2 _ _ (e _ _ ho), hl, hv H2 (e.trans e2) _ fun H3 e3 => by
    rw [List.append_nil]
    exact hs H3 ((e.trans e2).trans e3) Q (fun H4 e4 => q H4 ((e2.trans e3).trans e4)) E0⟩
theorem el_meth (h : Ev ta σ H (.ref a)) (ho : H a = some (.ins C dx fs)) (hl : fs.lookup m = none) (hv : EvA t σ H vs) (hs : SpL sp (.ref a :: vs) H xs) : EvL (tMeth C m sp [] E0 ta t) σ H xs := fun H1 e Q q =>
  h H1 e _ fun H2 e2 => ⟨a, dx, fs, rfl, e2 _ _ (e _ _ ho), hl, hv H2 (e.trans e2) _ fun H3 e3 => by
    rw [List.append_nil]
    exact hs H3 ((e.trans e2).trans e3) Q (fun p H4 hp e4 h4 => q p H4 (fresh_back (e2.trans e3) hp) ((e2.trans e3).trans e4) h4) E0⟩
theorem ev_pc (hv : EvA t σ H vs) (hs : SpV sp vs H z) : Ev (tCall sp [] E0 t) σ H z := ev_call hv (by rw [List.append_nil]; exact hs)
theorem el_pc (hv : EvA t σ H vs) (hs : SpL sp vs H xs) : EvL (tCall sp [] E0 t) σ H xs := el_call hv (by rw [List.append_nil]; exact hs)
theorem s_fld (hv : Ev tv σ H y) (ha : Ev ta σ H (.ref a)) (ho : H a = some (.ins C dx fs)) (hc : Cls K C) (hn : NoAttr K C f) (hl : fs.length < 1000) (q : ∀ H1, Ex H H1 → D.nx σ (upd H1 a (.ins C dx (putF f y fs)))) : sFld K ta tv f D σ H :=
  hv H (Ex.refl H) _ fun H1 e1 => ha H1 e1 _ fun H2 e2 => ⟨a, C, dx, fs, rfl, e2 _ _ (e1 _ _ ho), hc, hn, hl, q H2 (e1.trans e2)⟩
theorem s_fldL (hv : EvL tv σ H xs) (ha : Ev ta σ H (.ref a)) (ho : H a = some (.ins C dx fs)) (hc : Cls K C) (hn : NoAttr K C f) (hl : fs.length < 1000) (q : ∀ p H1, H p = none → Ex H H1 → H1 p = some (.lst xs) → D.nx σ (upd H1 a (.ins C dx (putF f (.ref p) fs)))) : sFld K ta tv f D σ H :=
  hv H (Ex.refl H) _ fun p H1 hp e1 h1 => ha H1 e1 _ fun H2 e2 => ⟨a, C, dx, fs, rfl, e2 _ _ (e1 _ _ ho), hc, hn, hl, q p H2 hp (e1.trans e2) (e2 _ _ h1)⟩
section
variable {tz : TS}
theorem q_fld (hv : Ev tv σ H y) (ha : Ev ta σ H (.ref a)) (ho : H a = some (.ins C dx fs)) (hc : Cls K C) (hn : NoAttr K C f) (hl : fs.length < 1000) (q : ∀ H1, Ex H H1 → tz D σ (upd H1 a (.ins C dx (putF f y fs)))) : tSeq (sFld K ta tv f) tz D σ H := s_fld (D := { D with nx := tz D }) hv ha ho hc hn hl q
theorem q_fldL (hv : EvL tv σ H xs) (ha : Ev ta σ H (.ref a)) (ho : H a = some (.ins C dx fs)) (hc : Cls K C) (hn : NoAttr K C f) (hl : fs.length < 1000) (q : ∀ p H1, H p = none → Ex H H1 → H1 p = some (.lst xs) → tz D σ (upd H1 a (.ins C dx (putF f (.ref p) fs)))) : tSeq (sFld K ta tv f) tz D σ H := s_fldL (D := { D with nx := tz D }) hv ha ho hc hn hl q
end
/-- a + b of lists -/
theorem el_cat {xs ys : List V} (ha : EvL ta σ H xs) (hb : EvL tb σ H ys) (hz : xs.length + ys.length ≤ sizeLine) : EvL (tOp rCat ta tb) σ H (xs ++ ys) := fun H1 e Q q =>
  ha H1 e _ fun p H2 hp e2 h2 => hb H2 (e.trans e2) _ fun r H3 hr e3 h3 => ⟨p, r, xs, ys, rfl, rfl, e3 _ _ h2, h3, hz, fun l hl => q l _ (fresh_back (e2.trans e3) hl) ((e2.trans e3).trans (Ex.new hl)) upd_same⟩
/-- the same where both stand -/
theorem el_catV {xs ys : List V} {p r : Addr} (ha : Ev ta σ H (.ref p)) (hb : Ev tb σ H (.ref r)) (h1 : H p = some (.lst xs)) (h2 : H r = some (.lst ys)) (hz : xs.length + ys.length ≤ sizeLine) : EvL (tOp rCat ta tb) σ H (xs ++ ys) := fun H1 e Q q =>
  ha H1 e _ fun H2 e2 => hb H2 (e.trans e2) _ fun H3 e3 => ⟨p, r, xs, ys, rfl, rfl, e3 _ _ (e2 _ _ (e _ _ h1)), e3 _ _ (e2 _ _ (e _ _ h2)), hz, fun l hl => q l _ (fresh_back (e2.trans e3) hl) ((e2.trans e3).trans (Ex.new hl)) upd_same⟩
theorem el_catVL {xs ys : List V} {p : Addr} (ha : Ev ta σ H (.ref p)) (hb : EvL tb σ H ys) (h1 : H p = some (.lst xs)) (hz : xs.length + ys.length ≤ sizeLine) : EvL (tOp rCat ta tb) σ H (xs ++ ys) := fun H1 e Q q =>
  ha H1 e _ fun H2 e2 => hb H2 (e.trans e2) _ fun r H3 hr e3 h3 => ⟨p, r, xs, ys, rfl, rfl, e3 _ _ (e2 _ _ (e _ _ h1)), h3, hz, fun l hl => q l _ (fresh_back (e2.trans e3) hl) ((e2.trans e3).trans (Ex.new hl)) upd_same⟩
theorem el_catLV {xs ys : List V} {r : Addr} (ha : EvL ta σ H xs) (hb : Ev tb σ H (.ref r)) (h2 : H r = some (.lst ys)) (hz : xs.length + ys.length ≤ sizeLine) : EvL (tOp rCat ta tb) σ H (xs ++ ys) := fun H1 e Q q =>
  ha H1 e _ fun p H2 hp e2 h1 => hb H2 (e.trans e2) _ fun H3 e3 => ⟨p, r, xs, ys, rfl, rfl, e3 _ _ h1, e3 _ _ (e2 _ _ (e _ _ h2)), hz, fun l hl => q l _ (fresh_back (e2.trans e3) hl) ((e2.trans e3).trans (Ex.new hl)) upd_same⟩
/-- [x] * k -/
theorem el_rep {xs : List V} {k : Nat} (ha : EvL ta σ H xs) (hb : Ev tb σ H (.int (k : Int))) (hk : k < 100000) (hz : xs.length * k ≤ sizeLine) : EvL (tOp rRep ta tb) σ H (List.replicate k xs).flatten := fun H1 e Q q =>
  ha H1 e _ fun p H2 hp e2 h1 => hb H2 (e.trans e2) _ fun H3 e3 => ⟨p, (k : Int), xs, rfl, rfl, e3 _ _ h1, by omega, by omega, hz, fun l hl => q l _ (fresh_back (e2.trans e3) hl) ((e2.trans e3).trans (Ex.new hl)) upd_same⟩
theorem flat_rep (x : V) : ∀ k, (List.replicate k [x]).flatten = List.replicate k x
  | 0 => rfl
  | k + 1 => by
    rw [List.replicate_succ, List.replicate_succ, List.flatten_cons, flat_rep x k]
    rfl
/-- len -/
theorem ev_lenS {p : Addr} {xs : List V} {n : Int} (ha : Ev ta σ H (.ref p)) (h : SqL K H p xs) (e : (xs.length : Int) = n) : Ev (tCB (rLenS K) (tCons ta tNil)) σ H (.int n) := by
  subst e
  exact ev_len ha h
/-- arguments, some of which are new lists -/
def EvAP (ta : TA) (σ : L2.St) (H : Hp) (P : List V → Hp → Prop) : Prop := ∀ H1, Ex H H1 → ∀ Q : List V → Hp → Prop, (∀ vs H2, Ex H1 H2 → P vs H2 → Q vs H2) → ta σ H1 Q
theorem eap_nil : EvAP tNil σ H (fun vs _ => vs = []) := fun H1 _ _ q => q [] H1 (Ex.refl H1) rfl
theorem eap_V {tr : TA} {R : List V → Hp → Prop} (h : Ev te σ H v) (hr : EvAP tr σ H R) : EvAP (tCons te tr) σ H (fun vs H2 => ∃ r, vs = v :: r ∧ R r H2) := fun H1 e _ q =>
  h H1 e _ fun H2 e2 => hr H2 (e.trans e2) _ fun r H3 e3 p => q _ H3 (e2.trans e3) ⟨r, rfl, p⟩
theorem eap_L {tr : TA} {R : List V → Hp → Prop} (h : EvL te σ H xs) (hr : EvAP tr σ H R) : EvAP (tCons te tr) σ H (fun vs H2 => ∃ p r, vs = .ref p :: r ∧ H2 p = some (.lst xs) ∧ R r H2) := fun H1 e _ q =>
  h H1 e _ fun p H2 _ e2 h2 => hr H2 (e.trans e2) _ fun r H3 e3 k => q _ H3 (e2.trans e3) ⟨p, r, rfl, e3 _ _ h2, k⟩
theorem el_pcP {R : List V → Hp → Prop} (ha : EvAP t σ H R) (hs : ∀ vs H1, Ex H H1 → R vs H1 → SpL sp vs H1 xs) : EvL (tCall sp [] E0 t) σ H xs := fun H1 e Q q =>
  ha H1 e _ fun vs H2 e2 p => by
    rw [List.append_nil]
    exact hs vs H2 (e.trans e2) p H2 (Ex.refl H2) Q (fun l H3 hl e3 h3 => q l H3 (fresh_back e2 hl) (e2.trans e3) h3) E0
theorem ev_pcP {R : List V → Hp → Prop} (ha : EvAP t σ H R) (hs : ∀ vs H1, Ex H H1 → R vs H1 → SpV sp vs H1 z) : Ev (tCall sp [] E0 t) σ H z := fun H1 e Q q =>
  ha H1 e _ fun vs H2 e2 p => by
    rw [List.append_nil]
    exact hs vs H2 (e.trans e2) p H2 (Ex.refl H2) Q (fun H3 e3 => q H3 (e2.trans e3)) E0
theorem el_methP {R : List V → Hp → Prop} (h : Ev ta σ H (.ref a)) (ho : H a = some (.ins C dx fs)) (hl : fs.lookup m = none) (hv : EvAP t σ H R) (hs : ∀ vs H1, Ex H H1 → R vs H1 → SpL sp (.ref a :: vs) H1 xs) : EvL (tMeth C m sp [] E0 ta t) σ H xs := fun H1 e Q q =>
  h H1 e _ fun H2 e2 => ⟨a, dx, fs, rfl, e2 _ _ (e _ _ ho), hl, hv H2 (e.trans e2) _ fun vs H3 e3 p => by
    rw [List.append_nil]
    exact hs vs H3 ((e.trans e2).trans e3) p H3 (Ex.refl H3) Q (fun l H4 hl e4 h4 => q l H4 (fresh_back (e2.trans e3) hl) ((e2.trans e3).trans e4) h4) E0⟩
theorem ev_methP {R : List V → Hp → Prop} (h : Ev ta σ H (.ref a)) (ho : H a = some (.ins C dx fs)) (hl : fs.lookup m = none) (hv : EvAP t σ H R) (hs : ∀ vs H1, Ex H H1 → R vs H1 → SpV sp (.ref a :: vs) H1 z) : Ev (tMeth C m sp [] E0 ta t) σ H z := fun H1 e Q q =>
  h H1 e _ fun H2 e2 => ⟨a, dx, fs, rfl, e2 _ _ (e _ _ ho), hl, hv H2 (e.trans e2) _ fun vs H3 e3 p => by
    rw [List.append_nil]
    exact hs vs H3 ((e.trans e2).trans e3) p H3 (Ex.refl H3) Q (fun H4 e4 => q H4 ((e2.trans e3).trans e4)) E0⟩
/-- xs[i:], xs[:i], xs[i:j], i and j not negative -/
theorem cut_from (xs : List V) (i : Nat) : cutV xs (some (i : Int)) none = xs.drop i := by
  unfold cutV
  rw [HT.sIx_nat, HT.sIx_none]
  by_cases h : i ≤ xs.length
  · rw [Nat.min_eq_left h, List.take_of_length_le (by rw [List.length_drop]; omega)]
  · rw [Nat.min_eq_right (by omega), List.drop_eq_nil_of_le (show xs.length ≤ i by omega), List.drop_eq_nil_of_le (Nat.le_refl _), List.take_nil]
theorem cut_to (xs : List V) (j : Nat) : cutV xs none (some (j : Int)) = xs.take j := by
  unfold cutV
  rw [HT.sIx_nat, HT.sIx_none, List.drop_zero, Nat.sub_zero]
  by_cases h : j ≤ xs.length
  · rw [Nat.min_eq_left h]
  · rw [Nat.min_eq_right (by omega), List.take_of_length_le (Nat.le_refl _), List.take_of_length_le (by omega)]
theorem cut_mid (xs : List V) (i j : Nat) : cutV xs (some (i : Int)) (some (j : Int)) = (xs.drop i).take (j - i) := by
  unfold cutV
  rw [HT.sIx_nat, HT.sIx_nat]
  by_cases h : i ≤ xs.length
  · rw [Nat.min_eq_left h]
    by_cases h2 : j ≤ xs.length
    · rw [Nat.min_eq_left h2]
    · rw [Nat.min_eq_right (by omega), List.take_of_length_le (by rw [List.length_drop]; omega), List.take_of_length_le (by rw [List.length_drop]; omega)]
  · rw [Nat.min_eq_right (show xs.length ≤ i by omega), List.drop_eq_nil_of_le (show xs.length ≤ i by omega), List.drop_eq_nil_of_le (Nat.le_refl _), List.take_nil, List.take_nil]
theorem vn_drop (l : List Nat) (i : Nat) : (vn l).drop i = vn (l.drop i) := by
  unfold vn
  rw [List.map_drop]
theorem vn_take (l : List Nat) (i : Nat) : (vn l).take i = vn (l.take i) := by
  unfold vn
  rw [List.map_take]
theorem el_is {ys : List V} (h : EvL te σ H xs) (e : xs = ys) : EvL te σ H ys := by
  rw [← e]
  exact h
theorem map_vn (n : Nat) (f : Nat → Nat) : ((List.range n).map fun i => V.int ((f i : Nat) : Int)) = vn ((List.range n).map f) := by
  unfold vn
  rw [List.map_map]
  rfl
/-- xor of numbers -/
theorem xor_nat (i j : Nat) : Builtin.bitXor (i : Int) (j : Int) = ((i ^^^ j : Nat) : Int) := by
  rw [Bits.bitXor_pp (by omega) (by omega)]
  rfl
theorem ev_xor {i j : Nat} (ha : Ev ta σ H (.int (i : Int))) (hb : Ev tb σ H (.int (j : Int))) : Ev (tOp (rI0 fun i j => .int (Builtin.bitXor i j)) ta tb) σ H (.int ((i ^^^ j : Nat) : Int)) :=
  ev_is (ev_op ha hb rv_I0) (congrArg V.int (xor_nat i j))
end
/-! loops over pairs -/
section
variable {K : PySem.W.Frag} {σ : L2.St} {H H' : Hp} {te : TE} {D : Ends} {tu : TS}
theorem s_forE {a : Addr} {xs : List V} {ta : TA} {i j : Nat} (h : EvA ta σ H [.ref a]) (hx : SqL K H a xs) (Pv : Nat → L2.St → Hp → Prop) (h0 : ∀ H1, Ex H H1 → Pv 0 σ H1) (hl : ∀ n σ' H', n ≤ xs.length → Pv n σ' H' → SqL K H' a xs)
    (hs : ∀ n x σ' H' H2, xs[n]? = some x → Pv n σ' H' → Ex H' H2 → tu { D with nx := Pv (n + 1), ct := Pv (n + 1), bk := D.nx } ((σ'.set i (some (.int (n : Int)))).set j (some x)) H2) (hd : ∀ σ' H', Pv xs.length σ' H' → D.nx σ' H') :
    tFor (iEnum K ta) (gTup K 2 (gCons (gName i) (gCons (gName j) gNil))) tu D σ H :=
  h H (Ex.refl H) _ fun H1 e => ⟨a, xs, rfl, ex_l e hx, fun n m σ' H' => n + m = xs.length ∧ Pv n σ' H', ⟨xs.length, Nat.zero_add _, h0 H1 e⟩, fun n m σ' H' ⟨hn, p⟩ => by
    have hA := hl n σ' H' (by omega) p
    by_cases hi : n < xs.length
    · have hg : xs[n]? = some xs[n] := List.getElem?_eq_getElem hi
      refine .inr ⟨⟨xs, _, hA, hg⟩, Pv (n + 1), fun σ2 H2 q => ⟨m - 1, by omega, by omega, q⟩, fun x H2 hy => ?_⟩
      obtain ⟨T, y, rfl, nT, rfl, f⟩ := hy
      exact ⟨T, _, rfl, st_of upd_same, rfl, _, _, rfl, _, _, rfl, rfl, hs n y σ' H' _ (f xs hA) p (Ex.new nT)⟩
    · refine .inl ⟨⟨xs, hA, by omega⟩, hd σ' H' ?_⟩
      have e2 : n = xs.length := by omega
      rw [← e2]
      exact p⟩
theorem s_forZ {a b : Addr} {xs ys : List V} {ta : TA} {i j : Nat} (h : EvA ta σ H [.ref a, .ref b]) (hx : SqL K H a xs) (hy : SqL K H b ys) (Pv : Nat → L2.St → Hp → Prop) (h0 : ∀ H1, Ex H H1 → Pv 0 σ H1)
    (hl : ∀ n σ' H', Pv n σ' H' → SqL K H' a xs ∧ SqL K H' b ys)
    (hs : ∀ n x y σ' H' H2, xs[n]? = some x → ys[n]? = some y → Pv n σ' H' → Ex H' H2 → tu { D with nx := Pv (n + 1), ct := Pv (n + 1), bk := D.nx } ((σ'.set i (some x)).set j (some y)) H2) (hd : ∀ σ' H', Pv (min xs.length ys.length) σ' H' → D.nx σ' H') :
    tFor (iZip K ta) (gTup K 2 (gCons (gName i) (gCons (gName j) gNil))) tu D σ H :=
  h H (Ex.refl H) _ fun H1 e => ⟨a, b, xs, ys, rfl, ex_l e hx, ex_l e hy, fun n m σ' H' => n + m = min xs.length ys.length ∧ Pv n σ' H', ⟨min xs.length ys.length, Nat.zero_add _, h0 H1 e⟩, fun n m σ' H' ⟨hn, p⟩ => by
    obtain ⟨hA, hB⟩ := hl n σ' H' p
    by_cases hi : n < min xs.length ys.length
    · have h1 : n < xs.length := by omega
      have h2 : n < ys.length := by omega
      refine .inr ⟨⟨xs, ys, _, _, hA, hB, List.getElem?_eq_getElem h1, List.getElem?_eq_getElem h2⟩, Pv (n + 1), fun σ2 H2 q => ⟨m - 1, by omega, by omega, q⟩, fun x H2 hy => ?_⟩
      obtain ⟨T, u, w, rfl, nT, rfl, f, g⟩ := hy
      exact ⟨T, _, rfl, st_of upd_same, rfl, _, _, rfl, _, _, rfl, rfl, hs n u w σ' H' _ (f xs hA) (g ys hB) p (Ex.new nT)⟩
    · refine .inl ⟨⟨xs, ys, hA, hB, by omega⟩, hd σ' H' ?_⟩
      have e2 : n = min xs.length ys.length := by omega
      rw [← e2]
      exact p⟩
theorem s_forV {a : Addr} {xs : List V} {ta : TA} {j : Nat} (h : EvA ta σ H [.ref a]) (hx : SqL K H a xs) (Pv : Nat → L2.St → Hp → Prop) (h0 : ∀ H1, Ex H H1 → Pv 0 σ H1) (hl : ∀ n σ' H', Pv n σ' H' → SqL K H' a xs)
    (hs : ∀ n x σ' H', n < xs.length → xs[xs.length - 1 - n]? = some x → Pv n σ' H' → tu { D with nx := Pv (n + 1), ct := Pv (n + 1), bk := D.nx } (σ'.set j (some x)) H') (hd : ∀ σ' H', Pv xs.length σ' H' → D.nx σ' H') :
    tFor (iRev K ta) (gName j) tu D σ H :=
  h H (Ex.refl H) _ fun H1 e => ⟨a, xs, rfl, ex_l e hx, fun n m σ' H' => n + m = xs.length ∧ Pv n σ' H', ⟨xs.length, Nat.zero_add _, h0 H1 e⟩, fun n m σ' H' ⟨hn, p⟩ => by
    have hA := hl n σ' H' p
    by_cases hi : n < xs.length
    · have h1 : xs.length - 1 - n < xs.length := by omega
      refine .inr ⟨⟨hi, xs, _, hA, List.getElem?_eq_getElem h1⟩, Pv (n + 1), fun σ2 H2 q => ⟨m - 1, by omega, by omega, q⟩, fun x H2 hy => ?_⟩
      obtain ⟨rfl, f⟩ := hy
      exact hs n x σ' _ hi (f xs hA) p
    · refine .inl ⟨by show xs.length ≤ n; omega, hd σ' H' ?_⟩
      have e2 : n = xs.length := by omega
      rw [← e2]
      exact p⟩
section
variable {tz : TS}
theorem q_forE {a : Addr} {xs : List V} {ta : TA} {i j : Nat} (h : EvA ta σ H [.ref a]) (hx : SqL K H a xs) (Pv : Nat → L2.St → Hp → Prop) (h0 : ∀ H1, Ex H H1 → Pv 0 σ H1) (hl : ∀ n σ' H', n ≤ xs.length → Pv n σ' H' → SqL K H' a xs)
    (hs : ∀ n x σ' H' H2, xs[n]? = some x → Pv n σ' H' → Ex H' H2 → tu { D with nx := Pv (n + 1), ct := Pv (n + 1), bk := tz D } ((σ'.set i (some (.int (n : Int)))).set j (some x)) H2) (hd : ∀ σ' H', Pv xs.length σ' H' → tz D σ' H') :
    tSeq (tFor (iEnum K ta) (gTup K 2 (gCons (gName i) (gCons (gName j) gNil))) tu) tz D σ H := s_forE (D := { D with nx := tz D }) h hx Pv h0 hl hs hd
theorem q_forZ {a b : Addr} {xs ys : List V} {ta : TA} {i j : Nat} (h : EvA ta σ H [.ref a, .ref b]) (hx : SqL K H a xs) (hy : SqL K H b ys) (Pv : Nat → L2.St → Hp → Prop) (h0 : ∀ H1, Ex H H1 → Pv 0 σ H1)
    (hl : ∀ n σ' H', Pv n σ' H' → SqL K H' a xs ∧ SqL K H' b ys)
    (hs : ∀ n x y σ' H' H2, xs[n]? = some x → ys[n]? = some y → Pv n σ' H' → Ex H' H2 → tu { D with nx := Pv (n + 1), ct := Pv (n + 1), bk := tz D } ((σ'.set i (some x)).set j (some y)) H2) (hd : ∀ σ' H', Pv (min xs.length ys.length) σ' H' → tz D σ' H') :
    tSeq (tFor (iZip K ta) (gTup K 2 (gCons (gName i) (gCons (gName j) gNil))) tu) tz D σ H := s_forZ (D := { D with nx := tz D }) h hx hy Pv h0 hl hs hd
theorem q_forV {a : Addr} {xs : List V} {ta : TA} {j : Nat} (h : EvA ta σ H [.ref a]) (hx : SqL K H a xs) (Pv : Nat → L2.St → Hp → Prop) (h0 : ∀ H1, Ex H H1 → Pv 0 σ H1) (hl : ∀ n σ' H', Pv n σ' H' → SqL K H' a xs)
    (hs : ∀ n x σ' H', n < xs.length → xs[xs.length - 1 - n]? = some x → Pv n σ' H' → tu { D with nx := Pv (n + 1), ct := Pv (n + 1), bk := tz D } (σ'.set j (some x)) H') (hd : ∀ σ' H', Pv xs.length σ' H' → tz D σ' H') :
    tSeq (tFor (iRev K ta) (gName j) tu) tz D σ H := s_forV (D := { D with nx := tz D }) h hx Pv h0 hl hs hd
end
/-- [.. for x, y in zip(a, b)] -/
theorem el_lcZ {a b : Addr} {xs ys : List V} {ta : TA} {i j : Nat} {vs : List Nat} (f : Nat → V) (h : EvA ta σ H [.ref a, .ref b]) (hx : SqL K H a xs) (hy : SqL K H b ys) (hz : min xs.length ys.length ≤ 40000)
    (hw : ∀ x y, wipe (((wipe σ vs).set i (some x)).set j (some y)) vs = wipe σ vs)
    (he : ∀ (n : Nat) (x y : V) H1, Ex H H1 → xs[n]? = some x → ys[n]? = some y → Ev te (((wipe σ vs).set i (some x)).set j (some y)) H1 (f n)) :
    EvL (tLc (iZip K ta) (gTup K 2 (gCons (gName i) (gCons (gName j) gNil))) tYes te vs) σ H ((List.range (min xs.length ys.length)).map f) := fun H0 e Q q =>
  h H0 e _ fun H1 e1 => ⟨a, b, xs, ys, rfl, ex_l (e.trans e1) hx, ex_l (e.trans e1) hy, fun Dl hD => ⟨fun n m H' => n + m = min xs.length ys.length ∧ H1 Dl = none ∧ Ex H1 H' ∧ H' Dl = some (.lst ((List.range n).map f)),
    ⟨min xs.length ys.length, Nat.zero_add _, hD, Ex.new hD, upd_same⟩, fun n m H' ⟨hn, _, p, pd⟩ => by
    have hA : SqL K H' a xs := ex_l ((e.trans e1).trans p) hx
    have hB : SqL K H' b ys := ex_l ((e.trans e1).trans p) hy
    by_cases hi : n < min xs.length ys.length
    · have h1 : n < xs.length := by omega
      have h2 : n < ys.length := by omega
      refine .inr ⟨⟨xs, ys, _, _, hA, hB, List.getElem?_eq_getElem h1, List.getElem?_eq_getElem h2⟩, fun H2 => H1 Dl = none ∧ Ex H1 H2 ∧ H2 Dl = some (.lst ((List.range (n + 1)).map f)), fun H2 q => ⟨m - 1, by omega, by omega, q⟩, fun x H2 hy => ?_⟩
      obtain ⟨T, u, w, rfl, nT, rfl, f1, f2⟩ := hy
      refine ⟨T, _, rfl, st_of upd_same, rfl, _, _, rfl, _, _, rfl, rfl, hw u w, ?_⟩
      have e3 : Ex H1 (upd H' T (.tup [u, w])) := p.trans (Ex.new nT)
      refine he n u w H (Ex.refl H) (f1 xs hA) (f2 ys hB) _ ((e.trans e1).trans e3) _ fun H4 e4 => ?_
      have pd4 : H4 Dl = some (.lst ((List.range n).map f)) := e4 _ _ ((Ex.new nT) _ _ pd)
      refine ⟨_, pd4, ?_, hD, (e3.trans e4).mut hD, ?_⟩
      · rw [List.length_map, List.length_range]
        exact sz_lt (by omega)
      · rw [upd_same, List.range_succ, List.map_append]
        rfl
    · have e2 : n = min xs.length ys.length := by omega
      subst e2
      exact .inl ⟨⟨xs, ys, hA, hB, by omega⟩, q Dl H' (fresh_back e1 hD) (e1.trans p) pd⟩⟩⟩
theorem given_all (n : Nat) (v : Nat → V) : given n (fun _ => true) v = (List.range n).map v := by
  unfold given
  rw [List.filter_eq_self.mpr (fun _ _ => rfl)]
theorem et_yes : EvT tYes σ H true := fun H1 _ _ q => q H1 (Ex.refl H1)
end
theorem lk_here {k : Str} {v : V} {r : List (Str × V)} : List.lookup k ((k, v) :: r) = some v := by
  have e : (k == k) = true := beq_self_eq_true k
  simp only [List.lookup, e]
theorem lk_past {k g : Str} {v : V} {r : List (Str × V)} (h : (k == g) = false) : List.lookup k ((g, v) :: r) = List.lookup k r := by
  simp only [List.lookup, h]
theorem put_here {f : Str} {v x : V} {r : List (Str × V)} : putF f v ((f, x) :: r) = (f, v) :: r := if_pos rfl
theorem put_past {f g : Str} {v x : V} {r : List (Str × V)} (h : ¬ g = f) : putF f v ((g, x) :: r) = (g, x) :: putF f v r := if_neg h
/-- the context of a body is over K -/
theorem cxK {CX : CXT} {P : Program} {w : World} {K : PySem.W.Frag} {mg : Str → Option Value} {base : Heap} {N : List Str} {qual : Str} {scope : Scope} {f : Addr} {cd : Value} {A : Around} {outer : List Env} {s : Shared} {H : Hp} {E : XK} : (cxOf CX P w K mg base N qual scope f cd A outer s H E).nox.K = K := rfl
end Sl

namespace Sl
open PySem PySem.Spec PyProof.Rows L2 Evl
def fs_Field (powers places : V) : List (Str × V) := [("powers", powers), ("places", places)]
theorem at_Field_powers {powers : V} {places : V} : List.lookup ("powers" : Str) (fs_Field powers places) = some powers := lk_here
theorem at_Field_places {powers : V} {places : V} : List.lookup ("places" : Str) (fs_Field powers places) = some places := (lk_past (by decide +kernel)).trans (lk_here)
theorem put_Field_powers {powers : V} {places : V} {v_ : V} : putF "powers" v_ (fs_Field powers places) = fs_Field v_ places := put_here
theorem put_Field_places {powers : V} {places : V} {v_ : V} : putF "places" v_ (fs_Field powers places) = fs_Field powers v_ := (put_past (by decide +kernel)).trans (congrArg _ (put_here))
theorem new_Field {powers : V} {places : V} : (putF "places" places (putF "powers" powers [])) = fs_Field powers places := by
  have e0 : putF "powers" powers ([] : List (Str × V)) = ([("powers", powers)] : List (Str × V)) := rfl
  have e1 : putF "places" places ([(("powers" : Str), powers)] : List (Str × V)) = ([("powers", powers), ("places", places)] : List (Str × V)) := (put_past (by decide +kernel)).trans (congrArg _ (rfl))
  rw [e0, e1]
  all_goals rfl
theorem no_Field_power {powers : V} {places : V} : List.lookup ("power" : Str) (fs_Field powers places) = none := (lk_past (by decide +kernel)).trans ((lk_past (by decide +kernel)).trans (rfl))
theorem no_Field_times {powers : V} {places : V} : List.lookup ("times" : Str) (fs_Field powers places) = none := (lk_past (by decide +kernel)).trans ((lk_past (by decide +kernel)).trans (rfl))
theorem no_Field_scaled {powers : V} {places : V} : List.lookup ("scaled" : Str) (fs_Field powers places) = none := (lk_past (by decide +kernel)).trans ((lk_past (by decide +kernel)).trans (rfl))
end Sl
namespace Sl
open PySem PySem.Spec PyProof.Rows L2 Evl
/-- what the top has written -/
structure Txt (K : PySem.W.Frag) (mg : Str → Option Value) (C_Field : Addr) : Prop where
  cl_Field : Cls K C_Field
  n_Field_powers : NoAttr K C_Field "powers"
  n_Field_places : NoAttr K C_Field "places"
  g_Field : mg "Field" = some (.ref C_Field)
  g_REDUCER : ∃ t, mg "REDUCER" = some (.int 283 t)
  g_ROUND : ∃ t, mg "ROUND" = some (.int 255 t)
  g_PARITY : ∃ t, mg "PARITY" = some (.int 16 t)
  g_NOT_SO : ∃ t, mg "NOT_SO" = some (.int (-1) t)
  g_MOST_ROW : ∃ t, mg "MOST_ROW" = some (.int 255 t)
  b_range : mg "range" = none
  b_len : mg "len" = none
  b_enumerate : mg "enumerate" = none
  b_zip : mg "zip" = none
def top (i : Nat) : Stmt := PySem.Challenge.pw_sureline_s03_parity.main.body.getD i (.Pass ⟨0, 0, 0, 0⟩)
abbrev s_tripled : Stmt := top 4
abbrev s_Field___init__ : Stmt := inClass (top 5) 0
abbrev s_Field_power : Stmt := inClass (top 5) 1
abbrev s_Field_times : Stmt := inClass (top 5) 2
abbrev s_Field_scaled : Stmt := inClass (top 5) 5
abbrev s_added : Stmt := top 6
abbrev s_shared_row : Stmt := top 9
abbrev s_parity_of : Stmt := top 10
abbrev s_counted : Stmt := top 14
abbrev s_parity : Stmt := top 15
end Sl
/-! ### the field of bytes: the class Field -/
namespace Sl
open PySem PySem.Spec PyProof.Rows L2 Evl
structure But (p : Addr) (H H' : Hp) : Prop where
  k : ∀ b o, H b = some o → b ≠ p → H' b = some o
theorem But.refl {p : Addr} {H : Hp} : But p H H := ⟨fun _ _ e _ => e⟩
theorem But.ex {p : Addr} {H H1 H2 : Hp} (h : But p H H1) (e : Ex H1 H2) : But p H H2 := ⟨fun b o q n => e b o (h.k b o q n)⟩
theorem But.at_ {p : Addr} {H H1 : Hp} {o : HO} (h : But p H H1) : But p H (upd H1 p o) := ⟨fun b u q n => by
  rw [upd_ne n]
  exact h.k b u q n⟩
theorem But.new {p l : Addr} {H H1 : Hp} {o : HO} (h : But p H H1) (hl : H l = none) : But p H (upd H1 l o) := ⟨fun b u q n => by
  rw [upd_ne (ne_of_none q hl)]
  exact h.k b u q n⟩
/-- a new instance: all that stood stands -/
theorem But.made {x dx C : Addr} {H H1 : Hp} (nx : H x = none) (nd : H dx = none) (k : But x (upd (upd H dx (.own x)) x (.ins C dx [])) H1) : Ex H H1 := Same.made nx nd k.k
/-- a Field stands at a -/
structure FieldAt (C : Addr) (H : Hp) (a : Addr) : Prop where
  ex : ∃ dx p q, H a = some (.ins C dx (fs_Field (.ref p) (.ref q))) ∧ H p = some (.lst (vn GF.tableL)) ∧ H q = some (.lst (vn GF.placesL))
theorem FieldAt.mono {C : Addr} {H H' : Hp} {a : Addr} (h : FieldAt C H a) (e : Ex H H') : FieldAt C H' a := by
  obtain ⟨dx, p, q, h1, h2, h3⟩ := h.ex
  exact ⟨dx, p, q, e _ _ h1, e _ _ h2, e _ _ h3⟩
theorem trip : ∀ b, b < 256 → (if 255 < b ^^^ (b * 2) then (b ^^^ (b * 2)) ^^^ 283 else b ^^^ (b * 2)) = Fm11.times 3 b := by decide +kernel
theorem table_last (i : Nat) : vn ((List.range (i + 1)).map Fm11.power) = vn ((List.range i).map Fm11.power) ++ [.int (Fm11.power i : Nat)] := by
  rw [List.range_succ, List.map_append, vn_app]
  all_goals rfl
def spTripled : Sp := fun vs H Q _ => ∃ b : Nat, vs = [.int (b : Int)] ∧ b < 256 ∧ RetV (.int (Fm11.times 3 b : Nat)) H Q
def spField_init (C : Addr) : Sp := fun vs H Q _ => ∃ p dx, vs = [.ref p] ∧ H p = some (.ins C dx []) ∧ ∀ H', FieldAt C H' p → But p H H' → Q .non H'
def spField_power (C : Addr) : Sp := fun vs H Q _ => ∃ (a : Addr) (k : Int), vs = [.ref a, .int k] ∧ FieldAt C H a ∧ RetV (.int (Fm11.power (k % 255).toNat : Nat)) H Q
def spField_times (C : Addr) : Sp := fun vs H Q _ => ∃ (a : Addr) (x y : Nat), vs = [.ref a, .int (x : Int), .int (y : Int)] ∧ FieldAt C H a ∧ x < 256 ∧ y < 256 ∧ RetV (.int (Fm11.times x y : Nat)) H Q
section
variable {P : Program} {w : World} {K : PySem.W.Frag} {mg : Str → Option Value} {base : Heap} {C_Field : Addr}
/-- what a promise of a value asks, for a caller -/
theorem sv_tripled {b : Nat} {H : Hp} (hb : b < 256) : SpV spTripled [.int (b : Int)] H (.int (Fm11.times 3 b : Nat)) := fun _ _ _ k _ => ⟨b, rfl, hb, k⟩
theorem sv_power {C : Addr} {H : Hp} {a : Addr} {k : Int} (h : FieldAt C H a) : SpV (spField_power C) [.ref a, .int k] H (.int (Fm11.power (k % 255).toNat : Nat)) := fun _ e _ q _ => ⟨a, k, rfl, h.mono e, q⟩
theorem sv_times {C : Addr} {H : Hp} {a : Addr} {x y : Nat} (h : FieldAt C H a) (hx : x < 256) (hy : y < 256) : SpV (spField_times C) [.ref a, .int (x : Int), .int (y : Int)] H (.int (Fm11.times x y : Nat)) := fun _ e _ q _ => ⟨a, x, y, rfl, h.mono e, hx, hy, q⟩
theorem sc_tripled : FnScope ["byte", "found"] ["byte"] (defScope s_tripled) := ⟨rfl, rfl, rfl, by decide +kernel, rfl, by decide +kernel, by decide +kernel⟩
theorem ok_tripled {f : Addr} {fd : FuncData} (F : Fun K "tripled" "tripled" s_tripled f fd) (T : Txt K mg C_Field) : FnOk P w K mg base CX0 1 f fd ["byte"] spTripled := by
  refine F.ok sc_tripled (fun vs H Q E h => ?_) (fun cdv A outer s H vs Q E hr h => ?_)
  · obtain ⟨b, rfl, _⟩ := h
    rfl
  · obtain ⟨b, rfl, hb, k⟩ := h
    refine ⟨_, (pss_cons (ps_set (i := 1) sc_tripled.nd rfl (Or.inl rfl) (pe_op op_xor (pv 0) (pe_op op_shl (pv 0) pe_int)))
      (pss_cons (ps_if (pt_cmpR op_gt (pv 1) pe_int (nomark _))
      (pss_one (ps_ret (pe_op op_xor (pv 1) (pe_gI rfl T.g_REDUCER)))) pss_nil)
      (pss_one (ps_ret (pv 1))))), ?_⟩
    have e2 : ((b : Int) * 2 ^ (1 : Int).toNat) = ((b * 2 : Nat) : Int) := by
      show (b : Int) * 2 ^ 1 = _
      omega
    refine q_asg (v := .int ((b ^^^ (b * 2) : Nat) : Int)) (ev_xor (ev_var rfl) (ev_is (ev_op (ev_var rfl) ev_c (rv_I ⟨by decide, by decide, by omega⟩)) (congrArg V.int e2))) fun H1 e1 => ?_
    have tr := trip b hb
    refine q_when (b := decide ((255 : Int) < ((b ^^^ (b * 2) : Nat) : Int))) (et_test (ev_op (ev_var rfl) ev_c rv_I0)) (fun hc H2 e2 => ?_) (fun hc H2 e2 => ?_)
    · have hc' : 255 < b ^^^ (b * 2) := by
        have := of_decide_eq_true hc
        omega
      rw [if_pos hc'] at tr
      refine s_ret (ev_xor (j := 283) (ev_var rfl) ev_c) fun H3 e3 => ?_
      rw [tr]
      exact k H3 ((e1.trans e2).trans e3)
    · have hc' : ¬ 255 < b ^^^ (b * 2) := by
        have := of_decide_eq_false hc
        omega
      rw [if_neg hc'] at tr
      refine s_ret (ev_var rfl) fun H3 e3 => ?_
      rw [tr]
      exact k H3 ((e1.trans e2).trans e3)
theorem sc_Field___init__ : FnScope ["self", "k", "byte"] ["self"] (defScope s_Field___init__) := ⟨rfl, rfl, rfl, by decide +kernel, rfl, by decide +kernel, by decide +kernel⟩
theorem ok_Field_init {f : Addr} {fd : FuncData} (F : Fun K "__init__" "Field.__init__" s_Field___init__ f fd) (T : Txt K mg C_Field) (c_tripled : Ca P w K mg base 1 "tripled" spTripled) : FnOk P w K mg base CX0 2 f fd ["self"] (spField_init C_Field) := by
  refine F.ok sc_Field___init__ (fun vs H Q E h => ?_) (fun cdv A outer s H vs Q E hr h => ?_)
  · obtain ⟨p, dx, rfl, _⟩ := h
    rfl
  · obtain ⟨p, dx, rfl, hp, k⟩ := h
    refine ⟨_, (pss_cons (ps_fld (pv 0) (pe_lst (pa_cons pe_int pa_nil)) rfl)
      (pss_cons (ps_for PassesOwn.never rfl (pi_range1 (by rfl) T.b_range (pa_cons (pe_op op_sub (pe_gI rfl T.g_ROUND) pe_int) pa_nil)) (pg_name (i := 1) sc_Field___init__.nd rfl (Or.inl rfl))
      (pss_one (ps_expr (pe_bm PySem.F.plainAttrs_list PySem.F.slot_list_append PySem.F.type_list_append mt_append (pe_fld (pv 0) rfl) (pa_cons (pc c_tripled hr (by decide) rfl (pa_cons (pe_ix ix_list (pe_fld (pv 0) rfl) (pe_un un_neg pe_int) (fun _ _ => rfl)) pa_nil)) pa_nil)))))
      (pss_cons (ps_fld (pv 0) (pe_op op_rep (pe_lst (pa_cons pe_int pa_nil)) (pe_op op_add (pe_gI rfl T.g_ROUND) pe_int)) rfl)
      (pss_one (ps_for PassesOwn.never rfl (pi_enum (by rfl) T.b_enumerate (pa_cons (pe_fld (pv 0) rfl) pa_nil)) (pg_tup (n := 2) rfl (pgs_cons (pg_name (i := 1) sc_Field___init__.nd rfl (Or.inl rfl)) (pgs_cons (pg_name (i := 2) sc_Field___init__.nd rfl (Or.inl rfl)) pgs_nil)))
      (pss_one (ps_asg (pv 1) (pg_sub (pe_fld (pv 0) rfl) (pv 2) set_list)))))))), ?_⟩
    refine q_fldL (el_lst (ea_cons ev_c ea_nil) (by decide)) (ev_var rfl) hp T.cl_Field T.n_Field_powers (by decide) fun l H1 hl e1 h1 => ?_
    have npl : p ≠ l := ne_of_none hp hl
    refine q_forR1 (ea_cons (ev_op ev_c ev_c rv_I0) ea_nil) (by decide) (fun i σ H' => ∃ v : Option V, σ = [some (.ref p), v, none] ∧ But p H H' ∧ H' p = some (.ins C_Field dx [("powers", .ref l)]) ∧ H' l = some (.lst (vn ((List.range (i + 1)).map Fm11.power))))
      (fun H2 e2 => ⟨none, rfl, (But.refl.ex e1).at_.ex e2, e2 _ _ upd_same, e2 _ _ (by rw [upd_ne npl.symm]; exact h1)⟩) ?_ ?_
    · rintro i σ H' hi ⟨v, rfl, b', hp', hl'⟩
      refine s_app hl' (ev_fld (ev_var rfl) hp' T.cl_Field T.n_Field_powers lk_here) (ev_pc (ea_cons (ev_op (ev_fld (ev_var rfl) hp' T.cl_Field T.n_Field_powers lk_here) (ev_un ev_c ru_neg) (rv_ixL (sq_of hl') (by rw [table_last]; exact atI_last _ _))) ea_nil) (sv_tripled (GF.power_lt i))) ?_ fun H3 e3 => ?_
      · rw [vn_len, List.length_map, List.length_range]
        have : (i : Int) < 254 := hi
        omega
      · refine ⟨_, rfl, (b'.ex e3).new hl, ?_, ?_⟩
        · rw [upd_ne npl]
          exact e3 _ _ hp'
        · rw [upd_same, table_last (i + 1)]
          rfl
    · rintro σ H' ⟨v, rfl, b', hp', hl'⟩
      have hl2 : H' l = some (.lst (vn GF.tableL)) := by
        rw [hl', ← GF.table_lit, GF.table_eq]
        rfl
      refine q_fldL (el_rep (k := 256) (el_lst (ea_cons ev_c ea_nil) (by decide)) (ev_op ev_c ev_c rv_I0) (by decide) (by decide)) (ev_var rfl) hp' T.cl_Field T.n_Field_places (by show 1 < 1000; decide) fun m H3 hm e3 h3 => ?_
      rw [flat_rep] at h3
      have npm : p ≠ m := ne_of_none hp' hm
      have nlm : l ≠ m := ne_of_none hl' hm
      have hmH : H m = none := by
        cases q : H m with
        | none => rfl
        | some o =>
          have z := b'.k m o q npm.symm
          rw [hm] at z
          cases z
      have eF : putF "places" (.ref m) [("powers", V.ref l)] = fs_Field (.ref l) (.ref m) := (put_past (by decide +kernel)).trans rfl
      rw [eF]
      have h4 : (upd H3 p (.ins C_Field dx (fs_Field (.ref l) (.ref m)))) l = some (.lst (vn GF.tableL)) := by
        rw [upd_ne npl.symm]
        exact e3 _ _ hl2
      refine s_forE (xs := vn GF.tableL) (ea_cons (ev_fld (ev_var rfl) upd_same T.cl_Field T.n_Field_powers at_Field_powers) ea_nil) (sq_of h4)
        (fun i σ H' => ∃ v v2 : Option V, σ = [some (.ref p), v, v2] ∧ But p H H' ∧ H' p = some (.ins C_Field dx (fs_Field (.ref l) (.ref m))) ∧ H' l = some (.lst (vn GF.tableL)) ∧ H' m = some (.lst (vn ((List.range i).foldl (fun l k => l.set (GF.tableL.getD k 0) k) (List.replicate 256 0)))))
        (fun H5 e5 => ⟨_, _, rfl, ((b'.ex e3).at_).ex e5, e5 _ _ upd_same, e5 _ _ h4, e5 _ _ (by rw [upd_ne npm.symm, h3]; exact congrArg (fun z => some (HO.lst z)) (List.map_replicate (f := fun n : Nat => V.int (n : Int))).symm)⟩) (fun n σ' H' _ ⟨_, _, _, _, _, q, _⟩ => sq_of q) ?_ ?_
      · rintro i x σ' H5 H6 hx ⟨v1, v2, rfl, b5, hp5, hl5, hm5⟩ e6
        obtain ⟨n, hn, rfl⟩ := of_vn_get hx
        have hi : i < 255 := by
          have z : i < GF.tableL.length := (List.getElem?_eq_some_iff.mp hn).1
          rw [← GF.table_lit, GF.table_len] at z
          exact z
        have en : n = Fm11.power i := by
          rw [← GF.table_lit, GF.table_get hi] at hn
          exact (Option.some.inj hn).symm
        have gd : GF.tableL.getD i 0 = n := by
          rw [List.getD_eq_getElem?_getD, hn]
          rfl
        refine s_setL (j := n) (e6 _ _ hm5) (ev_var rfl) (ev_fld (ev_var rfl) (e6 _ _ hp5) T.cl_Field T.n_Field_places at_Field_places) (ev_var rfl) ?_ fun H7 e7 => ?_
        · rw [vn_len, en]
          have ln : ∀ (ks : List Nat) (l : List Nat), (ks.foldl (fun l k => l.set (GF.tableL.getD k 0) k) l).length = l.length := fun ks => by
            induction ks with
            | nil => exact fun _ => rfl
            | cons k r ih =>
              intro l
              rw [List.foldl_cons, ih, List.length_set]
          rw [ln, List.length_replicate]
          exact GF.power_lt i
        · refine ⟨_, _, rfl, ((b5.ex e6).ex e7).new hmH, ?_, ?_, ?_⟩
          · rw [upd_ne npm]
            exact e7 _ _ (e6 _ _ hp5)
          · rw [upd_ne nlm]
            exact e7 _ _ (e6 _ _ hl5)
          · rw [upd_same, List.range_succ, List.foldl_append]
            refine congrArg (fun z => some (HO.lst z)) ?_
            rw [List.foldl_cons, List.foldl_nil, gd]
            unfold vn
            rw [List.map_set]
      · rintro σ' H5 ⟨v1, v2, rfl, b5, hp5, hl5, hm5⟩
        have eL : (vn GF.tableL).length = 255 := by
          rw [vn_len, ← GF.table_lit, GF.table_len]
        rw [eL] at hm5
        exact k H5 ⟨dx, l, m, hp5, hl5, by rw [hm5, ← GF.places_lit]; rfl⟩ b5
theorem sc_Field_power : FnScope ["self", "k"] ["self", "k"] (defScope s_Field_power) := ⟨rfl, rfl, rfl, by decide +kernel, rfl, by decide +kernel, by decide +kernel⟩
theorem ok_Field_power {f : Addr} {fd : FuncData} (F : Fun K "power" "Field.power" s_Field_power f fd) (T : Txt K mg C_Field) : FnOk P w K mg base CX0 1 f fd ["self", "k"] (spField_power C_Field) := by
  refine F.ok sc_Field_power (fun vs H Q E h => ?_) (fun cdv A outer s H vs Q E hr h => ?_)
  · obtain ⟨a, n, rfl, _⟩ := h
    rfl
  · obtain ⟨a, n, rfl, hF, k⟩ := h
    obtain ⟨dx, p, q, h1, h2, h3⟩ := hF.ex
    refine ⟨_, (pss_one (ps_ret (pe_ix ix_list (pe_fld (pv 0) rfl) (pe_op op_mod (pv 1) (pe_gI rfl T.g_ROUND)) (fun _ _ => rfl)))), ?_⟩
    have hb : (n % 255).toNat < 255 := by omega
    refine s_ret (ev_op (ev_fld (ev_var rfl) h1 T.cl_Field T.n_Field_powers at_Field_powers) (ev_op (ev_var rfl) ev_c (rv_I (by decide))) (rv_ixL (sq_of h2) (at_of (j := (n % 255).toNat) (by omega) (vn_get (by rw [← GF.table_lit]; exact GF.table_get hb))))) fun H1 e1 => k H1 e1
theorem sc_Field_times : FnScope ["self", "a", "b"] ["self", "a", "b"] (defScope s_Field_times) := ⟨rfl, rfl, rfl, by decide +kernel, rfl, by decide +kernel, by decide +kernel⟩
theorem ok_Field_times {f : Addr} {fd : FuncData} (F : Fun K "times" "Field.times" s_Field_times f fd) (T : Txt K mg C_Field) (c_Field_power : Me P w K mg base 1 C_Field "power" (spField_power C_Field)) : FnOk P w K mg base CX0 2 f fd ["self", "a", "b"] (spField_times C_Field) := by
  refine F.ok sc_Field_times (fun vs H Q E h => ?_) (fun cdv A outer s H vs Q E hr h => ?_)
  · obtain ⟨a, x, y, rfl, _⟩ := h
    rfl
  · obtain ⟨a, x, y, rfl, hF, hx, hy, k⟩ := h
    obtain ⟨dx, p, q, h1, h2, h3⟩ := hF.ex
    have tt := GF.times_table hx hy
    refine ⟨_, (pss_cons (ps_if (PW.pt (pw_or (pt_cmpR op_eq (pv 1) pe_int (nomark _)) (pw_or1 (pt_cmpR op_eq (pv 2) pe_int (nomark _)))))
      (pss_one (ps_ret pe_int)) pss_nil)
      (pss_one (ps_ret (pm c_Field_power hr (by decide) (pv 0) (pa_cons (pe_op op_add (pe_ix ix_list (pe_fld (pv 0) rfl) (pv 1) (fun _ _ => rfl)) (pe_ix ix_list (pe_fld (pv 0) rfl) (pv 2) (fun _ _ => rfl))) pa_nil))))), ?_⟩
    refine q_when (b := decide (V.int (x : Int) = V.int 0) || decide (V.int (y : Int) = V.int 0)) (et_or (et_test (ev_op (ev_var rfl) ev_c (rv_eq rfl))) (fun _ => et_test (ev_op (ev_var rfl) ev_c (rv_eq rfl)))) (fun hc H2 e2 => ?_) (fun hc H2 e2 => ?_)
    · have hc' : x = 0 ∨ y = 0 := by
        rw [Bool.or_eq_true, decide_eq_true_eq, decide_eq_true_eq] at hc
        rcases hc with z | z
        · exact .inl (by have := V.int.inj z; omega)
        · exact .inr (by have := V.int.inj z; omega)
      rw [if_pos hc'] at tt
      refine s_ret ev_c fun H3 e3 => ?_
      have z := k H3 (e2.trans e3)
      rw [tt] at z
      exact z
    · rw [Bool.or_eq_false_iff, decide_eq_false_iff_not, decide_eq_false_iff_not] at hc
      have n0 : x ≠ 0 := fun z => hc.1 (by rw [z]; rfl)
      have n1 : y ≠ 0 := fun z => hc.2 (by rw [z]; rfl)
      rw [if_neg (fun z => z.elim n0 n1)] at tt
      have g : ∀ z : Nat, z < 256 → (vn GF.placesL)[z]? = some (V.int (GF.place z : Nat)) := fun z hz => vn_get (by
        have hl : z < GF.placesL.length := by
          rw [GF.places_len]
          exact hz
        unfold GF.place
        rw [List.getD_eq_getElem?_getD, List.getElem?_eq_getElem hl]
        rfl)
      have h1' := e2 _ _ h1
      have h3' := e2 _ _ h3
      refine s_ret (ev_meth (ev_var rfl) h1' no_Field_power (ea_cons (ev_op (ev_op (ev_fld (ev_var rfl) h1' T.cl_Field T.n_Field_places at_Field_places) (ev_var rfl) (rv_ixL (sq_of h3') (atI_nat (g x hx)))) (ev_op (ev_fld (ev_var rfl) h1' T.cl_Field T.n_Field_places at_Field_places) (ev_var rfl) (rv_ixL (sq_of h3') (atI_nat (g y hy)))) rv_I0) ea_nil) (sv_power (hF.mono e2))) fun H3 e3 => ?_
      have ek : (((GF.place x : Nat) : Int) + ((GF.place y : Nat) : Int)) % 255 = (((GF.place x + GF.place y) % 255 : Nat) : Int) := by omega
      rw [ek, Int.toNat_natCast, ← tt]
      exact k H3 (e2.trans e3)
end
end Sl

/-! ### rows: scaled, added -/
namespace Sl
open PySem PySem.Spec PyProof.Rows L2 Evl
def spScaled (C : Addr) (K : PySem.W.Frag) : Sp := fun vs H Q _ => ∃ (a b : Addr) (ns : List Nat) (x : Nat), vs = [.ref a, .ref b, .int (x : Int)] ∧ FieldAt C H a ∧ SqL K H b (vn ns) ∧ (∀ n ∈ ns, n < 256) ∧ x < 256 ∧ ns.length ≤ 40000 ∧ RetL (vn (ns.map fun n => Fm11.times n x)) H Q
def spAdded (K : PySem.W.Frag) : Sp := fun vs H Q _ => ∃ (a b : Addr) (xs ys : List Nat), vs = [.ref a, .ref b] ∧ SqL K H a (vn xs) ∧ SqL K H b (vn ys) ∧ xs.length ≤ 40000 ∧ RetL (vn (List.zipWith (fun x y => x ^^^ y) xs ys)) H Q
theorem map_range_get {α : Type} (l : List Nat) (f : Nat → α) : (List.range l.length).map (fun i => f (l.getD i 0)) = l.map f := by
  refine List.ext_getElem? fun i => ?_
  rw [List.getElem?_map, List.getElem?_map]
  by_cases h : i < l.length
  · rw [List.getElem?_range h, List.getElem?_eq_getElem h]
    show some (f (l.getD i 0)) = some (f l[i])
    rw [List.getD_eq_getElem?_getD, List.getElem?_eq_getElem h]
    rfl
  · rw [List.getElem?_eq_none (by rw [List.length_range]; omega), List.getElem?_eq_none (by omega)]
    rfl
theorem zip_range (xs ys : List Nat) : (List.range (min xs.length ys.length)).map (fun i => xs.getD i 0 ^^^ ys.getD i 0) = List.zipWith (fun x y => x ^^^ y) xs ys := by
  refine List.ext_getElem? fun i => ?_
  rw [List.getElem?_map, List.getElem?_zipWith]
  by_cases h : i < min xs.length ys.length
  · have h1 : i < xs.length := by omega
    have h2 : i < ys.length := by omega
    rw [List.getElem?_range h, List.getElem?_eq_getElem h1, List.getElem?_eq_getElem h2]
    show some (xs.getD i 0 ^^^ ys.getD i 0) = some (xs[i] ^^^ ys[i])
    rw [List.getD_eq_getElem?_getD, List.getD_eq_getElem?_getD, List.getElem?_eq_getElem h1, List.getElem?_eq_getElem h2]
    rfl
  · rw [List.getElem?_eq_none (by rw [List.length_range]; omega)]
    by_cases h1 : i < xs.length
    · rw [List.getElem?_eq_getElem h1, List.getElem?_eq_none (show ys.length ≤ i by omega)]
      rfl
    · rw [List.getElem?_eq_none (show xs.length ≤ i by omega)]
      rfl
theorem mem_get {l : List Nat} {i n : Nat} (h : l[i]? = some n) : n ∈ l := List.mem_of_getElem? h
theorem get_getD {l : List Nat} {i n : Nat} (h : l[i]? = some n) : l.getD i 0 = n := by
  rw [List.getD_eq_getElem?_getD, h]
  rfl
section
variable {P : Program} {w : World} {K : PySem.W.Frag} {mg : Str → Option Value} {base : Heap} {C_Field : Addr}
theorem sv_scaled {C : Addr} {H : Hp} {a b : Addr} {ns : List Nat} {x : Nat} (hF : FieldAt C H a) (hS : SqL K H b (vn ns)) (hb : ∀ n ∈ ns, n < 256) (hx : x < 256) (hl : ns.length ≤ 40000) : SpL (spScaled C K) [.ref a, .ref b, .int (x : Int)] H (vn (ns.map fun n => Fm11.times n x)) := fun _ e _ k _ => ⟨a, b, ns, x, rfl, hF.mono e, ex_l e hS, hb, hx, hl, k⟩
theorem sv_added {H : Hp} {a b : Addr} {xs ys : List Nat} (h1 : SqL K H a (vn xs)) (h2 : SqL K H b (vn ys)) (hl : xs.length ≤ 40000) : SpL (spAdded K) [.ref a, .ref b] H (vn (List.zipWith (fun x y => x ^^^ y) xs ys)) := fun _ e _ k _ => ⟨a, b, xs, ys, rfl, ex_l e h1, ex_l e h2, hl, k⟩
/-- a new Field as an argument -/
theorem eap_F {C : Addr} {σ : L2.St} {H : Hp} {tr : TA} {R : List V → Hp → Prop} (hr : EvAP tr σ H R) : EvAP (tCons (tMake C (spField_init C) [] E0 tNil) tr) σ H (fun vs H2 => ∃ a r, vs = .ref a :: r ∧ FieldAt C H2 a ∧ R r H2) := fun H1 e _ q => by
  intro x dx nx nd ne
  refine ⟨x, dx, rfl, upd_same, fun H2 hF hB => ⟨rfl, ?_⟩⟩
  have e2 : Ex H1 H2 := But.made nx nd hB
  exact hr H2 (e.trans e2) _ fun r H3 e3 p => q _ H3 (e2.trans e3) ⟨x, r, rfl, hF.mono e3, p⟩
theorem sc_Field_scaled : FnScope ["self", "row", "by", "byte"] ["self", "row", "by"] (defScope s_Field_scaled) := ⟨rfl, rfl, rfl, by decide +kernel, rfl, by decide +kernel, by decide +kernel⟩
theorem ok_Field_scaled {f : Addr} {fd : FuncData} (F : Fun K "scaled" "Field.scaled" s_Field_scaled f fd) (T : Txt K mg C_Field) (c_Field_times : Me P w K mg base 2 C_Field "times" (spField_times C_Field)) : FnOk P w K mg base CX0 3 f fd ["self", "row", "by"] (spScaled C_Field K) := by
  refine F.ok sc_Field_scaled (fun vs H Q E h => ?_) (fun cdv A outer s H vs Q E hr h => ?_)
  · obtain ⟨a, b, ns, x, rfl, _⟩ := h
    rfl
  · obtain ⟨a, b, ns, x, rfl, hF, hS, hb, hx, hl, k⟩ := h
    obtain ⟨dx, p, q, h1, h2, h3⟩ := hF.ex
    refine ⟨_, (pss_one (ps_ret (pe_lc (own := [("byte", 3)]) (g := gName 3) (tt := tYes) rfl sc_Field_scaled.nd (pi_list (pv 1)) (blkOk_by (N := ["self", "row", "by", "byte"]) (sc := defScope s_Field_scaled) (by decide +kernel)) (fun _ _ _ _ _ => (pg_name (i := 3) sc_Field_scaled.nd rfl (Or.inl rfl))) (fun _ _ _ _ _ => pts_nil) (fun _ _ _ _ _ => (pm c_Field_times hr (by decide) (pv 0) (pa_cons (pv 3) (pa_cons (pv 2) pa_nil))))))), ?_⟩
    refine s_retL (el_is (el_lcL (xs := vn ns) (fun _ => true) (fun i => V.int ((Fm11.times (ns.getD i 0) x : Nat) : Int)) (ev_var rfl) hS (by rw [vn_len]; exact hl) (fun _ => rfl) (fun _ _ _ _ _ => et_yes) (fun i y H1 e1 hi _ => ?_)) ?_) fun l H1 hl1 e1 h1 => k l H1 hl1 e1 h1
    · obtain ⟨n, hn, rfl⟩ := of_vn_get hi
      rw [get_getD hn]
      exact ev_meth (ev_var rfl) (e1 _ _ h1) no_Field_times (ea_cons (ev_var rfl) (ea_cons (ev_var rfl) ea_nil)) (sv_times (hF.mono e1) (hb n (mem_get hn)) hx)
    · rw [given_all, vn_len]
      show ((List.range ns.length).map fun i => V.int ((Fm11.times (ns.getD i 0) x : Nat) : Int)) = _
      rw [map_vn ns.length fun i => Fm11.times (ns.getD i 0) x, map_range_get ns fun n => Fm11.times n x]
theorem sc_added : FnScope ["one", "other", "a", "b"] ["one", "other"] (defScope s_added) := ⟨rfl, rfl, rfl, by decide +kernel, rfl, by decide +kernel, by decide +kernel⟩
theorem ok_added {f : Addr} {fd : FuncData} (F : Fun K "added" "added" s_added f fd) (T : Txt K mg C_Field) : FnOk P w K mg base CX0 1 f fd ["one", "other"] (spAdded K) := by
  refine F.ok sc_added (fun vs H Q E h => ?_) (fun cdv A outer s H vs Q E hr h => ?_)
  · obtain ⟨a, b, xs, ys, rfl, _⟩ := h
    rfl
  · obtain ⟨a, b, xs, ys, rfl, h1, h2, hl, k⟩ := h
    refine ⟨_, (pss_one (ps_ret (pe_lc (own := [("a", 2), ("b", 3)]) (g := gTup K 2 (gCons (gName 2) (gCons (gName 3) gNil))) (tt := tYes) rfl sc_added.nd (pi_zip (by rfl) T.b_zip (pa_cons (pv 0) (pa_cons (pv 1) pa_nil))) (blkOk_by (N := ["one", "other", "a", "b"]) (sc := defScope s_added) (by decide +kernel)) (fun _ _ _ _ _ => (pg_tup (n := 2) rfl (pgs_cons (pg_name (i := 2) sc_added.nd rfl (Or.inl rfl)) (pgs_cons (pg_name (i := 3) sc_added.nd rfl (Or.inl rfl)) pgs_nil)))) (fun _ _ _ _ _ => pts_nil) (fun _ _ _ _ _ => (pe_op op_xor (pv 2) (pv 3)))))), ?_⟩
    refine s_retL (el_is (el_lcZ (xs := vn xs) (ys := vn ys) (fun i => V.int ((xs.getD i 0 ^^^ ys.getD i 0 : Nat) : Int)) (ea_cons (ev_var rfl) (ea_cons (ev_var rfl) ea_nil)) h1 h2 (by rw [vn_len, vn_len]; omega) (fun _ _ => rfl) (fun i x y H1 e1 hx hy => ?_)) ?_) fun l H1 hl1 e1 h1 => k l H1 hl1 e1 h1
    · obtain ⟨m, hm, rfl⟩ := of_vn_get hx
      obtain ⟨n, hn, rfl⟩ := of_vn_get hy
      rw [get_getD hm, get_getD hn]
      exact ev_xor (ev_var rfl) (ev_var rfl)
    · rw [vn_len, vn_len, map_vn _ fun i => xs.getD i 0 ^^^ ys.getD i 0, zip_range]
end
end Sl

/-! ### the sixteen bytes behind others -/
namespace Sl
open PySem PySem.Spec PyProof.Rows L2 Evl
theorem roots_len : ∀ n, (Fm11.roots n).length = n + 1
  | 0 => rfl
  | n + 1 => by
    show ((((Fm11.roots n) ++ [0]).zip (0 :: Fm11.roots n)).map fun (y : Nat × Nat) => y.1 ^^^ Fm11.times (Fm11.power n) y.2).length = _
    simp only [List.length_map, List.length_zip, List.length_append, List.length_cons, List.length_nil, roots_len n]
    omega
theorem zip_row {p g : List Nat} {f : Nat} (hg : ∀ n ∈ g, n < 256) (hf : f < 256) : (p.zip g).map (fun (y : Nat × Nat) => y.1 ^^^ Fm11.times f y.2) = List.zipWith (fun x y => x ^^^ y) p (g.map fun n => Fm11.times n f) := by
  refine List.ext_getElem? fun i => ?_
  rw [List.getElem?_map, List.getElem?_zipWith, List.getElem?_map]
  cases e1 : p[i]? with
  | none =>
    rw [List.getElem?_eq_none (by rw [List.length_zip]; have := List.getElem?_eq_none_iff.mp e1; omega)]
    rfl
  | some x =>
    cases e2 : g[i]? with
    | none =>
      rw [List.getElem?_eq_none (by rw [List.length_zip]; have := List.getElem?_eq_none_iff.mp e2; omega)]
      rfl
    | some y =>
      have hz : (p.zip g)[i]? = some (x, y) := by
        rw [List.getElem?_zip_eq_some]
        exact ⟨e1, e2⟩
      rw [hz]
      show some (x ^^^ Fm11.times f y) = some (x ^^^ Fm11.times y f)
      rw [GF.times_comm hf (hg y (mem_get e2))]
theorem xor_row_lt {p g : List Nat} (hp : ∀ n ∈ p, n < 256) (hg : ∀ n ∈ g, n < 256) : ∀ n ∈ List.zipWith (fun x y => x ^^^ y) p g, n < 256 := fun n hn => by
  obtain ⟨i, hi⟩ := List.getElem?_of_mem hn
  rw [List.getElem?_zipWith] at hi
  cases e1 : p[i]? with
  | none =>
    rw [e1] at hi
    cases hi
  | some x =>
    cases e2 : g[i]? with
    | none =>
      rw [e1, e2] at hi
      cases hi
    | some y =>
      rw [e1, e2] at hi
      have e : x ^^^ y = n := Option.some.inj hi
      rw [← e]
      exact GF.xor_lt (hp x (mem_get e1)) (hg y (mem_get e2))
theorem row_lt {g : List Nat} {f : Nat} (hg : ∀ n ∈ g, n < 256) : ∀ n ∈ g.map (fun n => Fm11.times n f), n < 256 := fun n hn => by
  obtain ⟨m, hm, rfl⟩ := List.mem_map.mp hn
  exact GF.times_lt (hg m hm) f
theorem app_lt {p q : List Nat} (hp : ∀ n ∈ p, n < 256) (hq : ∀ n ∈ q, n < 256) : ∀ n ∈ p ++ q, n < 256 := fun n hn => by
  rcases List.mem_append.mp hn with h | h
  · exact hp n h
  · exact hq n h
theorem one_lt {m : Nat} (h : m < 256) : ∀ n ∈ [m], n < 256 := fun n hn => by
  rw [List.mem_singleton] at hn
  omega
theorem rep_lt (k : Nat) : ∀ n ∈ List.replicate k 0, n < 256 := fun n hn => by
  rw [List.mem_replicate] at hn
  omega
theorem drop_lt {p : List Nat} (k : Nat) (hp : ∀ n ∈ p, n < 256) : ∀ n ∈ p.drop k, n < 256 := fun n hn => hp n (List.mem_of_mem_drop hn)
theorem take_lt {p : List Nat} (k : Nat) (hp : ∀ n ∈ p, n < 256) : ∀ n ∈ p.take k, n < 256 := fun n hn => hp n (List.mem_of_mem_take hn)
/-- the next root's polynomial, as the program makes it -/
theorem roots_lt : ∀ n, ∀ m ∈ Fm11.roots n, m < 256
  | 0 => one_lt (by decide)
  | n + 1 => by
    have ih := roots_lt n
    have h0 : ∀ m ∈ 0 :: Fm11.roots n, m < 256 := fun m hm => by
      rcases List.mem_cons.mp hm with e | e
      · omega
      · exact ih m e
    show ∀ m ∈ (((Fm11.roots n) ++ [0]).zip (0 :: Fm11.roots n)).map (fun (y : Nat × Nat) => y.1 ^^^ Fm11.times (Fm11.power n) y.2), m < 256
    rw [zip_row h0 (GF.power_lt n)]
    exact xor_row_lt (app_lt ih (one_lt (by decide))) (row_lt h0)
theorem roots_next (n : Nat) : Fm11.roots (n + 1) = List.zipWith (fun x y => x ^^^ y) (Fm11.roots n ++ [0]) ([0] ++ (Fm11.roots n).map fun m => Fm11.times m (Fm11.power n)) := by
  have h0 : ∀ m ∈ 0 :: Fm11.roots n, m < 256 := fun m hm => by
    rcases List.mem_cons.mp hm with e | e
    · omega
    · exact roots_lt n m e
  show (((Fm11.roots n) ++ [0]).zip (0 :: Fm11.roots n)).map (fun (y : Nat × Nat) => y.1 ^^^ Fm11.times (Fm11.power n) y.2) = _
  rw [zip_row h0 (GF.power_lt n), List.map_cons, GF.zero_times _ (GF.power_lt n)]
  rfl
/-- one turn of the division -/
def divTurn (r : List Nat) (c : Nat) : List Nat := (((r.drop 1) ++ [0]).zip ((Fm11.roots 16).drop 1)).map fun (y : Nat × Nat) => y.1 ^^^ Fm11.times (c ^^^ r.headD 0) y.2
theorem parity_eq (b : List Nat) : Fm11.parity b = b.foldl divTurn (List.replicate 16 0) := rfl
theorem divTurn_len {r : List Nat} {c : Nat} (h : r.length = 16) : (divTurn r c).length = 16 := by
  unfold divTurn
  rw [List.length_map, List.length_zip, List.length_append, List.length_drop, List.length_drop, roots_len, h]
  rfl
theorem divTurn_eq {r : List Nat} {c : Nat} (hr : ∀ n ∈ r, n < 256) (hc : c < 256) : divTurn r c = List.zipWith (fun x y => x ^^^ y) (r.drop 1 ++ [0]) (((Fm11.roots 16).drop 1).map fun n => Fm11.times n (c ^^^ r.headD 0)) := by
  have h0 : r.headD 0 < 256 := by
    cases r with
    | nil => decide
    | cons x r => exact hr x List.mem_cons_self
  exact zip_row (drop_lt 1 (roots_lt 16)) (GF.xor_lt hc h0)
theorem divTurn_lt {r : List Nat} {c : Nat} (hr : ∀ n ∈ r, n < 256) (hc : c < 256) : ∀ n ∈ divTurn r c, n < 256 := by
  rw [divTurn_eq hr hc]
  exact xor_row_lt (app_lt (drop_lt 1 hr) (one_lt (by decide))) (row_lt (drop_lt 1 (roots_lt 16)))
theorem div_ok : ∀ (b : List Nat) (r : List Nat), (∀ n ∈ b, n < 256) → (∀ n ∈ r, n < 256) → r.length = 16 → (b.foldl divTurn r).length = 16 ∧ ∀ n ∈ b.foldl divTurn r, n < 256
  | [], _, _, hr, hl => ⟨hl, hr⟩
  | c :: b, r, hb, hr, hl => by
    rw [List.foldl_cons]
    exact div_ok b _ (fun n hn => hb n (List.mem_cons_of_mem _ hn)) (divTurn_lt hr (hb c List.mem_cons_self)) (divTurn_len hl)
theorem parity_ok {b : List Nat} (hb : ∀ n ∈ b, n < 256) : (Fm11.parity b).length = 16 ∧ ∀ n ∈ Fm11.parity b, n < 256 := div_ok b _ hb (rep_lt 16) (List.length_replicate ..)
def spShared (C : Addr) : Sp := fun vs H Q _ => ∃ a : Addr, vs = [.ref a] ∧ FieldAt C H a ∧ RetL (vn (Fm11.roots 16)) H Q
def spParityOf (C : Addr) (K : PySem.W.Frag) : Sp := fun vs H Q _ => ∃ (a b : Addr) (ns : List Nat), vs = [.ref a, .ref b] ∧ FieldAt C H a ∧ SqL K H b (vn ns) ∧ (∀ n ∈ ns, n < 256) ∧ RetL (vn (Fm11.parity ns)) H Q
section
variable {P : Program} {w : World} {K : PySem.W.Frag} {mg : Str → Option Value} {base : Heap} {C_Field : Addr}
theorem sv_shared {C : Addr} {H : Hp} {a : Addr} (hF : FieldAt C H a) : SpL (spShared C) [.ref a] H (vn (Fm11.roots 16)) := fun _ e _ k _ => ⟨a, rfl, hF.mono e, k⟩
theorem sv_parity_of {C : Addr} {H : Hp} {a b : Addr} {ns : List Nat} (hF : FieldAt C H a) (hS : SqL K H b (vn ns)) (hb : ∀ n ∈ ns, n < 256) : SpL (spParityOf C K) [.ref a, .ref b] H (vn (Fm11.parity ns)) := fun _ e _ k _ => ⟨a, b, ns, rfl, hF.mono e, ex_l e hS, hb, k⟩
theorem sc_shared_row : FnScope ["field", "found", "k"] ["field"] (defScope s_shared_row) := ⟨rfl, rfl, rfl, by decide +kernel, rfl, by decide +kernel, by decide +kernel⟩
theorem ok_shared_row {f : Addr} {fd : FuncData} (F : Fun K "shared_row" "shared_row" s_shared_row f fd) (T : Txt K mg C_Field) (c_added : Ca P w K mg base 1 "added" (spAdded K)) (c_Field_scaled : Me P w K mg base 3 C_Field "scaled" (spScaled C_Field K)) (c_Field_power : Me P w K mg base 1 C_Field "power" (spField_power C_Field)) : FnOk P w K mg base CX0 4 f fd ["field"] (spShared C_Field) := by
  refine F.ok sc_shared_row (fun vs H Q E h => ?_) (fun cdv A outer s H vs Q E hr h => ?_)
  · obtain ⟨a, rfl, _⟩ := h
    rfl
  · obtain ⟨a, rfl, hF, k⟩ := h
    refine ⟨_, (pss_cons (ps_set (i := 1) sc_shared_row.nd rfl (Or.inl rfl) (pe_lst (pa_cons pe_int pa_nil)))
      (pss_cons (ps_for PassesOwn.never rfl (pi_range1 (by rfl) T.b_range (pa_cons (pe_gI rfl T.g_PARITY) pa_nil)) (pg_name (i := 2) sc_shared_row.nd rfl (Or.inl rfl))
      (pss_one (ps_set (i := 1) sc_shared_row.nd rfl (Or.inl rfl) (pc c_added hr (by decide) rfl (pa_cons (pe_op op_cat (pv 1) (pe_lst (pa_cons pe_int pa_nil))) (pa_cons (pe_op op_cat (pe_lst (pa_cons pe_int pa_nil)) (pm c_Field_scaled hr (by decide) (pv 0) (pa_cons (pv 1) (pa_cons (pm c_Field_power hr (by decide) (pv 0) (pa_cons (pv 2) pa_nil)) pa_nil)))) pa_nil))))))
      (pss_one (ps_ret (pv 1))))), ?_⟩
    refine q_asgL (el_lst (ea_cons ev_c ea_nil) (by decide)) fun l0 H1 hl0 e1 h1 => ?_
    refine q_forR1 (ea_cons ev_c ea_nil) (by decide) (fun i σ H' => ∃ (l : Addr) (v : Option V), σ = [some (.ref a), some (.ref l), v] ∧ Ex H H' ∧ H l = none ∧ H' l = some (.lst (vn (Fm11.roots i))))
      (fun H2 e2 => ⟨l0, _, rfl, e1.trans e2, hl0, e2 _ _ h1⟩) ?_ ?_
    · rintro i σ H2 hi ⟨l, v, rfl, e2, hl, h2⟩
      have hF2 := hF.mono e2
      obtain ⟨dx, p, q, g1, g2, g3⟩ := hF2.ex
      have hi' : i < 16 := by
        have : (i : Int) < 16 := hi
        omega
      have e16 : (((i : Int) % 255).toNat) = i := by omega
      refine s_asgL (xs := vn (Fm11.roots (i + 1))) (el_pcP (eap_L (el_catVL (ev_var rfl) (el_lst (ea_cons ev_c ea_nil) (by decide)) h2 (by rw [vn_len, roots_len]; show i + 1 + 1 ≤ sizeLine; exact sz_of (by omega)))
          (eap_L (el_cat (el_lst (ea_cons ev_c ea_nil) (by decide)) (el_meth (ev_var rfl) g1 no_Field_scaled (ea_cons (ev_var rfl) (ea_cons (ev_meth (ev_var rfl) g1 no_Field_power (ea_cons (ev_var rfl) ea_nil) (sv_power hF2)) ea_nil)) (sv_scaled hF2 (sq_of h2) (roots_lt i) (GF.power_lt _) (by rw [roots_len]; omega))) (by rw [vn_len, List.length_map, roots_len]; show 1 + (i + 1) ≤ sizeLine; exact sz_of (by omega)))
          eap_nil)) ?_) fun l' H3 hl' e3 h3 => ⟨l', _, rfl, e2.trans e3, fresh_back e2 hl', h3⟩
      rintro vs H4 e4 ⟨p1, r1, rfl, hp1, p2, r2, rfl, hp2, rfl⟩
      rw [e16] at hp2
      have z := sv_added (K := K) (xs := Fm11.roots i ++ [0]) (ys := [0] ++ (Fm11.roots i).map fun m => Fm11.times m (Fm11.power i)) (H := H4) (a := p1) (b := p2) (sq_of (by rw [vn_app]; exact hp1)) (sq_of (by rw [vn_app]; exact hp2)) (by rw [List.length_append, roots_len]; show i + 1 + 1 ≤ 40000; omega)
      rw [← roots_next] at z
      exact z
    · rintro σ H2 ⟨l, v, rfl, e2, hl, h2⟩
      exact k.go (Ex.refl H) hl e2 h2 |> fun z => ⟨_, rfl, z⟩
theorem sc_parity_of : FnScope ["field", "row", "divisor", "left", "byte", "factor"] ["field", "row"] (defScope s_parity_of) := ⟨rfl, rfl, rfl, by decide +kernel, rfl, by decide +kernel, by decide +kernel⟩
theorem ok_parity_of {f : Addr} {fd : FuncData} (F : Fun K "parity_of" "parity_of" s_parity_of f fd) (T : Txt K mg C_Field) (c_shared_row : Ca P w K mg base 4 "shared_row" (spShared C_Field)) (c_added : Ca P w K mg base 1 "added" (spAdded K)) (c_Field_scaled : Me P w K mg base 3 C_Field "scaled" (spScaled C_Field K)) : FnOk P w K mg base CX0 5 f fd ["field", "row"] (spParityOf C_Field K) := by
  refine F.ok sc_parity_of (fun vs H Q E h => ?_) (fun cdv A outer s H vs Q E hr h => ?_)
  · obtain ⟨a, b, ns, rfl, _⟩ := h
    rfl
  · obtain ⟨a, b, ns, rfl, hF, hS, hb, k⟩ := h
    refine ⟨_, (pss_cons (ps_set (i := 2) sc_parity_of.nd rfl (Or.inl rfl) (pe_slice sl_list (pc c_shared_row hr (by decide) rfl (pa_cons (pv 0) pa_nil)) (po_some pe_int) po_none))
      (pss_cons (ps_set (i := 3) sc_parity_of.nd rfl (Or.inl rfl) (pe_op op_rep (pe_lst (pa_cons pe_int pa_nil)) (pe_gI rfl T.g_PARITY)))
      (pss_cons (ps_for PassesOwn.never rfl (pi_list (pv 1)) (pg_name (i := 4) sc_parity_of.nd rfl (Or.inl rfl))
      (pss_cons (ps_set (i := 5) sc_parity_of.nd rfl (Or.inl rfl) (pe_op op_xor (pv 4) (pe_ix ix_list (pv 3) pe_int (fun _ _ => rfl))))
      (pss_one (ps_set (i := 3) sc_parity_of.nd rfl (Or.inl rfl) (pc c_added hr (by decide) rfl (pa_cons (pe_op op_cat (pe_slice sl_list (pv 3) (po_some pe_int) po_none) (pe_lst (pa_cons pe_int pa_nil))) (pa_cons (pm c_Field_scaled hr (by decide) (pv 0) (pa_cons (pv 2) (pa_cons (pv 5) pa_nil))) pa_nil)))))))
      (pss_one (ps_ret (pv 3)))))), ?_⟩
    refine q_asgL (xs := vn ((Fm11.roots 16).drop 1)) ?_ fun g H1 hg e1 h1 => ?_
    · refine fun H1 e1 Q q => el_pc (ea_cons (ev_var rfl) ea_nil) (sv_shared hF) H1 e1 _ fun p H2 hp e2 h2 => ?_
      refine ⟨1, rfl, p, _, rfl, sq_of h2, fun l hl => q l _ (fresh_back e2 hl) (e2.trans (Ex.new hl)) ?_⟩
      rw [upd_same, ← vn_drop]
      exact congrArg (fun z => some (HO.lst z)) (cut_from _ 1)
    refine q_asgL (xs := vn (List.replicate 16 0)) (el_is (el_rep (k := 16) (el_lst (ea_cons ev_c ea_nil) (by decide)) ev_c (by decide) (by decide)) (by rw [flat_rep]; exact (List.map_replicate (f := fun n : Nat => V.int (n : Int))).symm)) fun l0 H2 hl0 e2 h2 => ?_
    have hS2 : SqL K H2 b (vn ns) := ex_l (e1.trans e2) hS
    refine q_forLn (xs := vn ns) (ev_var rfl) hS2 (fun i σ H' => ∃ (l : Addr) (v5 v6 : Option V), σ = [some (.ref a), some (.ref b), some (.ref g), some (.ref l), v5, v6] ∧ Ex H2 H' ∧ H l = none ∧ H' l = some (.lst (vn ((ns.take i).foldl divTurn (List.replicate 16 0)))))
      (fun H3 e3 => ⟨l0, none, none, rfl, e3, fresh_back e1 hl0, e3 _ _ h2⟩) (fun i σ H' _ ⟨_, _, _, _, e, _⟩ => ex_l e hS2) ?_ ?_
    · rintro i x σ H3 hx ⟨l, v5, v6, rfl, e3, hl, h3⟩
      obtain ⟨n, hn, rfl⟩ := of_vn_get hx
      have hn2 : n < 256 := hb n (mem_get hn)
      obtain ⟨r, hrr⟩ : ∃ r, r = (ns.take i).foldl divTurn (List.replicate 16 0) := ⟨_, rfl⟩
      have hd := div_ok (ns.take i) (List.replicate 16 0) (take_lt i hb) (rep_lt 16) (List.length_replicate ..)
      rw [← hrr] at h3 hd
      have h0 : r[0]? = some (r.headD 0) := by
        cases r with
        | nil => exact absurd hd.1 (by decide)
        | cons y r => rfl
      have hF3 := hF.mono ((e1.trans e2).trans e3)
      obtain ⟨dx, p, q, g1, g2, g3⟩ := hF3.ex
      have hh : r.headD 0 < 256 := hd.2 _ (mem_get h0)
      refine q_asg (ev_xor (j := r.headD 0) (ev_var rfl) (ev_op (ev_var rfl) ev_c (rv_ixL (sq_of h3) (atI_nat (j := 0) (vn_get h0))))) fun H4 e4 => ?_
      have hg4 : H4 g = some (.lst (vn ((Fm11.roots 16).drop 1))) := e4 _ _ (e3 _ _ (e2 _ _ h1))
      have ht : (ns.take (i + 1)).foldl divTurn (List.replicate 16 0) = divTurn r n := by
        rw [take_more hn, List.foldl_append, ← hrr]
        rfl
      refine s_asgL (xs := vn (divTurn r n)) (el_pcP (eap_L (el_cat (el_is (el_sl (ev_var rfl) (eo_some ev_c) eo_none (sq_of (e4 _ _ h3))) ((cut_from _ 1).trans (vn_drop r 1))) (el_lst (ea_cons ev_c ea_nil) (by decide)) (by rw [vn_len, List.length_drop, hd.1]; decide))
          (eap_L (el_meth (ev_var rfl) (e4 _ _ g1) no_Field_scaled (ea_cons (ev_var rfl) (ea_cons (ev_var rfl) ea_nil)) (sv_scaled (hF3.mono e4) (sq_of hg4) (drop_lt 1 (roots_lt 16)) (GF.xor_lt hn2 hh) (by rw [List.length_drop, roots_len]; decide))) eap_nil)) ?_) fun l' H5 hl' e5 h5 => ?_
      · rintro vs H6 e6 ⟨p1, r1, rfl, hp1, p2, r2, rfl, hp2, rfl⟩
        have z := sv_added (K := K) (xs := r.drop 1 ++ [0]) (ys := ((Fm11.roots 16).drop 1).map fun m => Fm11.times m (n ^^^ r.headD 0)) (H := H6) (a := p1) (b := p2) (sq_of (by rw [vn_app]; exact hp1)) (sq_of hp2) (by rw [List.length_append, List.length_drop, hd.1]; decide)
        rw [← divTurn_eq hd.2 hn2] at z
        exact z
      · refine ⟨l', _, _, rfl, (e3.trans e4).trans e5, fresh_back (((e1.trans e2).trans e3).trans e4) hl', ?_⟩
        rw [ht]
        exact h5
    · rintro σ H3 ⟨l, v5, v6, rfl, e3, hl, h3⟩
      rw [vn_len, List.take_length] at h3
      exact ⟨_, rfl, k.go (Ex.refl H) hl ((e1.trans e2).trans e3) h3⟩
end
end Sl

/-! ### codes.counted -/
namespace Sl
open PySem PySem.Spec PyProof.Rows L2 Evl
def spCounted : Sp := fun vs H Q _ => ∃ (a : Addr) (xs : List V), vs = [.ref a] ∧ H a = some (.lst xs) ∧ xs.length ≤ 40000 ∧ RetL (.int xs.length :: xs) H Q
section
variable {P : Program} {w : World} {K : PySem.W.Frag} {mg : Str → Option Value} {base : Heap} {C_Field : Addr}
theorem sv_counted {H : Hp} {a : Addr} {xs : List V} (h : H a = some (.lst xs)) (hl : xs.length ≤ 40000) : SpL spCounted [.ref a] H (.int xs.length :: xs) := fun _ e _ k _ => ⟨a, xs, rfl, e _ _ h, hl, k⟩
theorem sc_counted : FnScope ["row"] ["row"] (defScope s_counted) := ⟨rfl, rfl, rfl, by decide +kernel, rfl, by decide +kernel, by decide +kernel⟩
theorem ok_counted {f : Addr} {fd : FuncData} (F : Fun K "counted" "counted" s_counted f fd) (T : Txt K mg C_Field) : FnOk P w K mg base CX0 1 f fd ["row"] spCounted := by
  refine F.ok sc_counted (fun vs H Q E h => ?_) (fun cdv A outer s H vs Q E hr h => ?_)
  · obtain ⟨a, xs, rfl, _⟩ := h
    rfl
  · obtain ⟨a, xs, rfl, h1, hl, k⟩ := h
    refine ⟨_, (pss_one (ps_ret (pe_op op_cat (pe_lst (pa_cons (pe_callB call_len_seq (by rfl) T.b_len PySem.boot_len (pa_cons (pv 0) pa_nil)) pa_nil)) (pv 0)))), ?_⟩
    exact s_retL (xs := .int xs.length :: xs) (el_catLV (el_lst (ea_cons (ev_lenS (ev_var rfl) (sq_of h1) rfl) ea_nil) (by show 1 ≤ 100000; decide)) (ev_var rfl) h1 (by show 1 + xs.length ≤ sizeLine; exact sz_of (by omega))) fun l H1 hl1 e1 h1 => k l H1 hl1 e1 h1
end
end Sl

/-! ### a request of one list of bytes -/
namespace Sl
open PySem PySem.Spec PyProof.Rows L2 Evl
open PySem.W (Codec WData)
/-- bytes as the words have them -/
def ni (l : List Nat) : List Int := l.map fun (n : Nat) => (n : Int)
theorem vn_ni (l : List Nat) : (ni l).map V.int = vn l := by
  unfold ni vn
  rw [List.map_map]
  rfl
theorem ni_len (l : List Nat) : (ni l).length = l.length := by
  unfold ni
  rw [List.length_map]
theorem nats_ni (l : List Nat) : Fm11Neutral.nats (ni l) = l := by
  unfold Fm11Neutral.nats ni
  rw [List.map_map]
  have e : (Int.toNat ∘ fun (n : Nat) => (n : Int)) = id := rfl
  rw [e, List.map_id]
theorem bytes_of : ∀ {l : List Int}, l.all (Codec.inInt 0 255) = true → ∃ ns : List Nat, l = ni ns ∧ ∀ n ∈ ns, n < 256
  | [], _ => ⟨[], rfl, fun _ h => absurd h (by simp)⟩
  | x :: l, h => by
    rw [List.all_cons, Bool.and_eq_true] at h
    obtain ⟨ns, rfl, hn⟩ := bytes_of h.2
    have q := Codec.inInt_iff.mp h.1
    obtain ⟨m, rfl⟩ := Int.eq_ofNat_of_zero_le q.1
    refine ⟨m :: ns, rfl, fun n hm => ?_⟩
    rcases List.mem_cons.mp hm with e | e
    · omega
    · exact hn n e
theorem all_byte {ns : List Nat} (h : ∀ n ∈ ns, n < 256) : ns.all Fm11.isByte = true := List.all_eq_true.mpr fun n hn => decide_eq_true (h n hn)
theorem bytesOk_iff {ns : List Nat} {most : Nat} (h : ∀ n ∈ ns, n < 256) : Fm11.bytesOk ns most = decide (ns.length ≤ most) := by
  unfold Fm11.bytesOk
  rw [all_byte h, Bool.true_and]
def sp1 (due : List Int → List Int) (K : PySem.W.Frag) : Sp := fun vs H Q _ => ∃ (a : Addr) (ns : List Nat), vs = [.ref a] ∧ SqL K H a (vn ns) ∧ (∀ n ∈ ns, n < 256) ∧ ns.length ≤ 300 ∧
  ∀ (H' : Hp) (p : Addr), H' p = some (.lst ((due (ni ns)).map V.int)) → Q (.ref p) H'
theorem end1 {K : PySem.W.Frag} {H : Hp} {xs : List V} {a : Codec.denoteAll PySem.Challenge.fa_sureline_s03_parity} (hwi : Codec.withinAll PySem.Challenge.fa_sureline_s03_parity a = true) (hx : DwAll K H xs (Codec.encAll PySem.Challenge.fa_sureline_s03_parity a)) :
    sp1 PyFm11.parity K xs H (fun v H' => Dw K H' v (PySem.Challenge.fr_sureline_s03_parity.enc (Codec.app PySem.Challenge.fa_sureline_s03_parity PyFm11.parity a))) fun _ _ _ => False := by
  obtain ⟨l, u⟩ := a
  cases hx with
  | cons h1 h2 =>
    cases h2
    cases h1 with
    | lst hs ha =>
      have e := ints_dw l _ ha
      subst e
      have q : ((Codec.inLen 0 300 l && l.all (Codec.inInt 0 255)) && true) = true := hwi
      rw [Bool.and_eq_true, Bool.and_eq_true] at q
      obtain ⟨ns, rfl, hn⟩ := bytes_of q.1.2
      have ql := (Codec.inNat_iff.mp q.1.1).2
      rw [vn_ni] at hs
      exact ⟨_, ns, rfl, hs, hn, by rw [← ni_len]; exact ql, fun H' p hp => .lst (SqL.of hp) (dw_ints _)⟩
end Sl

/-! ### codes.parity -/
namespace Sl
open PySem PySem.Spec PyProof.Rows L2 Evl
theorem due_parity {ns : List Nat} (h : ∀ n ∈ ns, n < 256) : PyFm11.parity (ni ns) = if 239 < ns.length then [-1] else 0 :: 16 :: ni (Fm11.parity ns) := by
  show (let a := (if Fm11.bytesOk (Fm11Neutral.nats (ni ns)) 239 = true then (⟨0, [Fm11.parity (Fm11Neutral.nats (ni ns))]⟩ : Fm11.Ans) else Fm11.says (-1)); a.code :: a.rows.flatMap fun r => ((r.length : Nat) : Int) :: Fm11Neutral.ints r) = _
  rw [nats_ni, bytesOk_iff h]
  by_cases c : 239 < ns.length
  · rw [if_pos c, if_neg (by rw [decide_eq_true_eq]; omega)]
    rfl
  · rw [if_neg c, if_pos (by rw [decide_eq_true_eq]; omega)]
    show (0 : Int) :: ([Fm11.parity ns].flatMap fun r => ((r.length : Nat) : Int) :: Fm11Neutral.ints r) = _
    rw [List.flatMap_cons, List.flatMap_nil, List.append_nil, (parity_ok h).1]
    rfl
section
variable {P : Program} {w : World} {K : PySem.W.Frag} {mg : Str → Option Value} {base : Heap} {C_Field : Addr}
theorem sc_parity : FnScope ["octets"] ["octets"] (defScope s_parity) := ⟨rfl, rfl, rfl, by decide +kernel, rfl, by decide +kernel, by decide +kernel⟩
theorem ok_parity {f : Addr} {fd : FuncData} (F : Fun K "parity" "parity" s_parity f fd) (T : Txt K mg C_Field) (c_Field : Ma P w K mg base 2 "Field" C_Field (spField_init C_Field)) (c_parity_of : Ca P w K mg base 5 "parity_of" (spParityOf C_Field K)) (c_counted : Ca P w K mg base 1 "counted" spCounted) : FnOk P w K mg base CX0 6 f fd ["octets"] (sp1 PyFm11.parity K) := by
  refine F.ok sc_parity (fun vs H Q E h => ?_) (fun cdv A outer s H vs Q E hr h => ?_)
  · obtain ⟨a, ns, rfl, _⟩ := h
    rfl
  · obtain ⟨a, ns, rfl, hS, hb, hl, k⟩ := h
    refine ⟨_, (pss_cons (ps_if (pt_cmpR op_gt (pe_callB call_len_seq (by rfl) T.b_len PySem.boot_len (pa_cons (pv 0) pa_nil)) (pe_op op_sub (pe_gI rfl T.g_MOST_ROW) (pe_gI rfl T.g_PARITY)) (nomark _))
      (pss_one (ps_ret (pe_lst (pa_cons (pe_gI rfl T.g_NOT_SO) pa_nil)))) pss_nil)
      (pss_one (ps_ret (pe_op op_cat (pe_lst (pa_cons pe_int pa_nil)) (pc c_counted hr (by decide) rfl (pa_cons (pc c_parity_of hr (by decide) rfl (pa_cons (pk0 c_Field hr (by decide) rfl) (pa_cons (pv 0) pa_nil))) pa_nil)))))), ?_⟩
    have due := due_parity hb
    refine q_when (b := decide ((239 : Int) < (ns.length : Int))) (et_test (ev_op (ev_lenS (ev_var rfl) hS (by rw [vn_len])) (ev_op ev_c ev_c rv_I0) rv_I0)) (fun hc H2 e2 => ?_) (fun hc H2 e2 => ?_)
    · have hc' : 239 < ns.length := by
        have := of_decide_eq_true hc
        omega
      rw [if_pos hc'] at due
      refine s_retL (el_lst (ea_cons ev_c ea_nil) (by decide)) fun p H3 _ _ h3 => k H3 p ?_
      rw [h3, due]
      rfl
    · have hc' : ¬ 239 < ns.length := by
        have := of_decide_eq_false hc
        omega
      rw [if_neg hc'] at due
      have po := parity_ok hb
      have hl16 : (vn (Fm11.parity ns)).length = 16 := by rw [vn_len, po.1]
      refine s_retL (xs := [.int 0] ++ (.int ((vn (Fm11.parity ns)).length : Int) :: vn (Fm11.parity ns))) (el_cat (el_lst (ea_cons ev_c ea_nil) (by decide)) (el_pcP (eap_L (xs := vn (Fm11.parity ns)) (el_pcP (eap_F (eap_V (ev_var rfl) eap_nil)) ?_) eap_nil) ?_) ?_) fun p H3 _ _ h3 => k H3 p ?_
      · rintro vs H3 e3 ⟨p, r, rfl, hF, r2, rfl, rfl⟩
        exact sv_parity_of hF (ex_l (e2.trans e3) hS) hb
      · rintro vs H3 e3 ⟨p, r, rfl, hp, rfl⟩
        exact sv_counted hp (by rw [hl16]; decide)
      · simp only [List.length_cons, List.length_nil, hl16]
        decide
      · rw [h3, due, hl16]
        refine congrArg (fun z => some (HO.lst z)) ?_
        show _ = V.int 0 :: V.int 16 :: (ni (Fm11.parity ns)).map V.int
        rw [vn_ni]
        rfl
end
end Sl

namespace Sl
open PySem PySem.Spec PyProof.Rows L2 Evl
theorem all_mk {P : Program} {w : World} {K : PySem.W.Frag} {h : Heap} {mg : Str → Option Value} {fa C_Field f0 f1 f2 f3 f4 f5 f6 f7 f8 f9 : Addr} (X : K.In h) (G : h.Ns mainGlobals mg) (hfa : mg "parity" = some (.ref fa))
    {od0 an0 od1 an1 od2 an2 od3 an3 od4 an4 od5 an5 od6 an6 od7 an7 od8 an8 od9 an9 : Option Addr} {sl0 sl1 sl2 sl3 sl4 sl5 sl6 sl7 sl8 sl9 : Array (Option Value)} {oc0 kV0 dc0 pm0 cd0 ct0 oc1 kV1 dc1 pm1 cd1 ct1 oc2 kV2 dc2 pm2 cd2 ct2 oc3 kV3 dc3 pm3 cd3 ct3 oc4 kV4 dc4 pm4 cd4 ct4 oc5 kV5 dc5 pm5 cd5 ct5 oc6 kV6 dc6 pm6 cd6 ct6 oc7 kV7 dc7 pm7 cd7 ct7 oc8 kV8 dc8 pm8 cd8 ct8 oc9 kV9 dc9 pm9 cd9 ct9 : Value} {t_REDUCER t_ROUND t_PARITY t_NOT_SO t_MOST_ROW : Tok}
    (aC_Field : PySem.W.nsIn K mainGlobals "Field" = some (some (.ref C_Field)))
    (a0 : PySem.W.nsIn K mainGlobals "tripled" = some (some (.ref f0)))
    (l0 : K.lookup f0 = some ⟨oc0, od0, .func (PySem.W.fnOf "tripled" "tripled" (defArgs s_tripled) (defBody s_tripled) (defScope s_tripled) .none kV0 dc0 pm0 an0 cd0 ct0), sl0⟩)
    (c0 : PySem.W.codeIn K cd0 "tripled" = true)
    (k0 : PySem.W.keepIn K (.ref f0) = true)
    (a1 : PySem.W.findIn K (.ref C_Field) "__init__" = some (some (.ref f1)))
    (i1 : PySem.W.isFn K (.ref f1) = true)
    (l1 : K.lookup f1 = some ⟨oc1, od1, .func (PySem.W.fnOf "__init__" "Field.__init__" (defArgs s_Field___init__) (defBody s_Field___init__) (defScope s_Field___init__) .none kV1 dc1 pm1 an1 cd1 ct1), sl1⟩)
    (c1 : PySem.W.codeIn K cd1 "Field.__init__" = true)
    (k1 : PySem.W.keepIn K (.ref f1) = true)
    (a2 : PySem.W.findIn K (.ref C_Field) "power" = some (some (.ref f2)))
    (i2 : PySem.W.isFn K (.ref f2) = true)
    (l2 : K.lookup f2 = some ⟨oc2, od2, .func (PySem.W.fnOf "power" "Field.power" (defArgs s_Field_power) (defBody s_Field_power) (defScope s_Field_power) .none kV2 dc2 pm2 an2 cd2 ct2), sl2⟩)
    (c2 : PySem.W.codeIn K cd2 "Field.power" = true)
    (k2 : PySem.W.keepIn K (.ref f2) = true)
    (a3 : PySem.W.findIn K (.ref C_Field) "times" = some (some (.ref f3)))
    (i3 : PySem.W.isFn K (.ref f3) = true)
    (l3 : K.lookup f3 = some ⟨oc3, od3, .func (PySem.W.fnOf "times" "Field.times" (defArgs s_Field_times) (defBody s_Field_times) (defScope s_Field_times) .none kV3 dc3 pm3 an3 cd3 ct3), sl3⟩)
    (c3 : PySem.W.codeIn K cd3 "Field.times" = true)
    (k3 : PySem.W.keepIn K (.ref f3) = true)
    (a4 : PySem.W.findIn K (.ref C_Field) "scaled" = some (some (.ref f4)))
    (i4 : PySem.W.isFn K (.ref f4) = true)
    (l4 : K.lookup f4 = some ⟨oc4, od4, .func (PySem.W.fnOf "scaled" "Field.scaled" (defArgs s_Field_scaled) (defBody s_Field_scaled) (defScope s_Field_scaled) .none kV4 dc4 pm4 an4 cd4 ct4), sl4⟩)
    (c4 : PySem.W.codeIn K cd4 "Field.scaled" = true)
    (k4 : PySem.W.keepIn K (.ref f4) = true)
    (a5 : PySem.W.nsIn K mainGlobals "added" = some (some (.ref f5)))
    (l5 : K.lookup f5 = some ⟨oc5, od5, .func (PySem.W.fnOf "added" "added" (defArgs s_added) (defBody s_added) (defScope s_added) .none kV5 dc5 pm5 an5 cd5 ct5), sl5⟩)
    (c5 : PySem.W.codeIn K cd5 "added" = true)
    (k5 : PySem.W.keepIn K (.ref f5) = true)
    (a6 : PySem.W.nsIn K mainGlobals "shared_row" = some (some (.ref f6)))
    (l6 : K.lookup f6 = some ⟨oc6, od6, .func (PySem.W.fnOf "shared_row" "shared_row" (defArgs s_shared_row) (defBody s_shared_row) (defScope s_shared_row) .none kV6 dc6 pm6 an6 cd6 ct6), sl6⟩)
    (c6 : PySem.W.codeIn K cd6 "shared_row" = true)
    (k6 : PySem.W.keepIn K (.ref f6) = true)
    (a7 : PySem.W.nsIn K mainGlobals "parity_of" = some (some (.ref f7)))
    (l7 : K.lookup f7 = some ⟨oc7, od7, .func (PySem.W.fnOf "parity_of" "parity_of" (defArgs s_parity_of) (defBody s_parity_of) (defScope s_parity_of) .none kV7 dc7 pm7 an7 cd7 ct7), sl7⟩)
    (c7 : PySem.W.codeIn K cd7 "parity_of" = true)
    (k7 : PySem.W.keepIn K (.ref f7) = true)
    (a8 : PySem.W.nsIn K mainGlobals "counted" = some (some (.ref f8)))
    (l8 : K.lookup f8 = some ⟨oc8, od8, .func (PySem.W.fnOf "counted" "counted" (defArgs s_counted) (defBody s_counted) (defScope s_counted) .none kV8 dc8 pm8 an8 cd8 ct8), sl8⟩)
    (c8 : PySem.W.codeIn K cd8 "counted" = true)
    (k8 : PySem.W.keepIn K (.ref f8) = true)
    (a9 : PySem.W.nsIn K mainGlobals "parity" = some (some (.ref f9)))
    (l9 : K.lookup f9 = some ⟨oc9, od9, .func (PySem.W.fnOf "parity" "parity" (defArgs s_parity) (defBody s_parity) (defScope s_parity) .none kV9 dc9 pm9 an9 cd9 ct9), sl9⟩)
    (c9 : PySem.W.codeIn K cd9 "parity" = true)
    (k9 : PySem.W.keepIn K (.ref f9) = true)
    (pg_Field : PySem.W.plainGet K C_Field Str.empty = true)
    (hd_Field : PySem.W.hasDictIn K C_Field = true)
    (po_Field : PySem.W.plainOver K C_Field = true)
    (sa_Field : PySem.W.findIn K (.ref C_Field) "__setattr__" = some (some (.builtin "object.__setattr__")))
    (mk_Field : PySem.W.makesIn K C_Field = true)
    (kc_Field : PySem.W.keepIn K (.ref C_Field) = true)
    (n_Field_powers : PySem.W.findIn K (.ref C_Field) "powers" = some none)
    (n_Field_places : PySem.W.findIn K (.ref C_Field) "places" = some none)
    (g_REDUCER : PySem.W.nsIn K mainGlobals "REDUCER" = some (some (.int 283 t_REDUCER)))
    (g_ROUND : PySem.W.nsIn K mainGlobals "ROUND" = some (some (.int 255 t_ROUND)))
    (g_PARITY : PySem.W.nsIn K mainGlobals "PARITY" = some (some (.int 16 t_PARITY)))
    (g_NOT_SO : PySem.W.nsIn K mainGlobals "NOT_SO" = some (some (.int (-1) t_NOT_SO)))
    (g_MOST_ROW : PySem.W.nsIn K mainGlobals "MOST_ROW" = some (some (.int 255 t_MOST_ROW)))
    (b_range : PySem.W.nsIn K mainGlobals "range" = some none)
    (b_len : PySem.W.nsIn K mainGlobals "len" = some none)
    (b_enumerate : PySem.W.nsIn K mainGlobals "enumerate" = some none)
    (b_zip : PySem.W.nsIn K mainGlobals "zip" = some none) :
    ∃ fd : FuncData, (∀ (s : Shared) (us : List Value), us.length = (["octets"] : List Str).length → BindsTo s fd ⟨us, []⟩ ((["octets"] : List Str).zip us)) ∧ ∀ base : Heap, K.In base → base.Ns mainGlobals mg → FnOk P w K mg base CX0 6 fa fd ["octets"] (sp1 PyFm11.parity K) := by
  have e := hfa.symm.trans (PySem.W.mg_of X G a9)
  cases e
  have T : Txt K mg C_Field := ⟨⟨pg_Field, hd_Field, po_Field, sa_Field⟩, n_Field_powers, n_Field_places, PySem.W.mg_of X G aC_Field, ⟨_, PySem.W.mg_of X G g_REDUCER⟩, ⟨_, PySem.W.mg_of X G g_ROUND⟩, ⟨_, PySem.W.mg_of X G g_PARITY⟩, ⟨_, PySem.W.mg_of X G g_NOT_SO⟩, ⟨_, PySem.W.mg_of X G g_MOST_ROW⟩, PySem.W.mg_none_of X G b_range, PySem.W.mg_none_of X G b_len, PySem.W.mg_none_of X G b_enumerate, PySem.W.mg_none_of X G b_zip⟩
  have F0 := fun_mk (st := s_tripled) l0 c0 k0
  have b0 := F0.binds (ps := ["byte"]) fun _ _ _ _ _ _ us hl => match us, hl with | [_], _ => rfl
  have F1 := fun_mk (st := s_Field___init__) l1 c1 k1
  have b1 := F1.binds (ps := ["self"]) fun _ _ _ _ _ _ us hl => match us, hl with | [_], _ => rfl
  have F2 := fun_mk (st := s_Field_power) l2 c2 k2
  have b2 := F2.binds (ps := ["self", "k"]) fun _ _ _ _ _ _ us hl => match us, hl with | [_, _], _ => rfl
  have F3 := fun_mk (st := s_Field_times) l3 c3 k3
  have b3 := F3.binds (ps := ["self", "a", "b"]) fun _ _ _ _ _ _ us hl => match us, hl with | [_, _, _], _ => rfl
  have F4 := fun_mk (st := s_Field_scaled) l4 c4 k4
  have b4 := F4.binds (ps := ["self", "row", "by"]) fun _ _ _ _ _ _ us hl => match us, hl with | [_, _, _], _ => rfl
  have F5 := fun_mk (st := s_added) l5 c5 k5
  have b5 := F5.binds (ps := ["one", "other"]) fun _ _ _ _ _ _ us hl => match us, hl with | [_, _], _ => rfl
  have F6 := fun_mk (st := s_shared_row) l6 c6 k6
  have b6 := F6.binds (ps := ["field"]) fun _ _ _ _ _ _ us hl => match us, hl with | [_], _ => rfl
  have F7 := fun_mk (st := s_parity_of) l7 c7 k7
  have b7 := F7.binds (ps := ["field", "row"]) fun _ _ _ _ _ _ us hl => match us, hl with | [_, _], _ => rfl
  have F8 := fun_mk (st := s_counted) l8 c8 k8
  have b8 := F8.binds (ps := ["row"]) fun _ _ _ _ _ _ us hl => match us, hl with | [_], _ => rfl
  have F9 := fun_mk (st := s_parity) l9 c9 k9
  have b9 := F9.binds (ps := ["octets"]) fun _ _ _ _ _ _ us hl => match us, hl with | [_], _ => rfl
  refine ⟨PySem.W.fnOf "parity" "parity" (defArgs s_parity) (defBody s_parity) (defScope s_parity) .none kV9 dc9 pm9 an9 cd9 ct9, fun s us hu => match us, hu with | [_], _ => .of_eq rfl, fun base _ _ => ?_⟩
  have c_tripled : Ca P w K mg base 1 "tripled" (spTripled) := ⟨f0, _, _, ok_tripled F0 T, PySem.W.mg_of X G a0, k0, b0⟩
  have c_Field : Ma P w K mg base 2 "Field" C_Field (spField_init C_Field) := ⟨f1, _, _, ⟨mk_Field, a1, i1, kc_Field⟩, ok_Field_init F1 T c_tripled, PySem.W.mg_of X G aC_Field, b1⟩
  have c_Field_power : Me P w K mg base 1 C_Field "power" (spField_power C_Field) := ⟨f2, _, _, T.cl_Field, ⟨a2, i2, k2⟩, ok_Field_power F2 T, b2⟩
  have c_Field_times : Me P w K mg base 2 C_Field "times" (spField_times C_Field) := ⟨f3, _, _, T.cl_Field, ⟨a3, i3, k3⟩, ok_Field_times F3 T c_Field_power, b3⟩
  have c_Field_scaled : Me P w K mg base 3 C_Field "scaled" (spScaled C_Field K) := ⟨f4, _, _, T.cl_Field, ⟨a4, i4, k4⟩, ok_Field_scaled F4 T c_Field_times, b4⟩
  have c_added : Ca P w K mg base 1 "added" (spAdded K) := ⟨f5, _, _, ok_added F5 T, PySem.W.mg_of X G a5, k5, b5⟩
  have c_shared_row : Ca P w K mg base 4 "shared_row" (spShared C_Field) := ⟨f6, _, _, ok_shared_row F6 T c_added c_Field_scaled c_Field_power, PySem.W.mg_of X G a6, k6, b6⟩
  have c_parity_of : Ca P w K mg base 5 "parity_of" (spParityOf C_Field K) := ⟨f7, _, _, ok_parity_of F7 T c_shared_row c_added c_Field_scaled, PySem.W.mg_of X G a7, k7, b7⟩
  have c_counted : Ca P w K mg base 1 "counted" (spCounted) := ⟨f8, _, _, ok_counted F8 T, PySem.W.mg_of X G a8, k8, b8⟩
  exact ok_parity F9 T c_Field c_parity_of c_counted
end Sl
open PySem PySem.W PyProof.Rows
set_option maxRecDepth 100000 in
set_option maxHeartbeats 0 in
theorem PySem.Challenge.cw_sureline_s03_parity_holds : PySem.Challenge.rw_sureline_s03_parity.Holds := by
  w_on; k_headS; (case hw => exact ⟨[.list []], by decide +kernel, by decide +kernel⟩)
  k_fillS
  refine L2.walk_specK (r := PySem.Challenge.rw_sureline_s03_parity) (k := 6) (CX := L2.CX0) (ps := ["octets"]) (sp := Sl.sp1 PyFm11.parity) (by decide +kernel) rfl rfl ⟨rfl, by decide, by decide⟩ (fun w h Y => PySem.W.kIn_of Y) ?F ?S (fun _ _ _ _ z => z)
  case F =>
    intro w mg fa h Y KX G hmg
    refine' Sl.all_mk KX G hmg ?aC_Field ?a0 ?l0 ?c0 ?k0 ?a1 ?i1 ?l1 ?c1 ?k1 ?a2 ?i2 ?l2 ?c2 ?k2 ?a3 ?i3 ?l3 ?c3 ?k3 ?a4 ?i4 ?l4 ?c4 ?k4 ?a5 ?l5 ?c5 ?k5 ?a6 ?l6 ?c6 ?k6 ?a7 ?l7 ?c7 ?k7 ?a8 ?l8 ?c8 ?k8 ?a9 ?l9 ?c9 ?k9 ?pg_Field ?hd_Field ?po_Field ?sa_Field ?mk_Field ?kc_Field ?n_Field_powers ?n_Field_places ?g_REDUCER ?g_ROUND ?g_PARITY ?g_NOT_SO ?g_MOST_ROW ?b_range ?b_len ?b_enumerate ?b_zip
    (case aC_Field => k_is)
    (case a0 => k_is)
    (case l0 => k_is)
    (case c0 => k_is)
    (case k0 => k_is)
    (case a1 => k_is)
    (case i1 => k_is)
    (case l1 => k_is)
    (case c1 => k_is)
    (case k1 => k_is)
    (case a2 => k_is)
    (case i2 => k_is)
    (case l2 => k_is)
    (case c2 => k_is)
    (case k2 => k_is)
    (case a3 => k_is)
    (case i3 => k_is)
    (case l3 => k_is)
    (case c3 => k_is)
    (case k3 => k_is)
    (case a4 => k_is)
    (case i4 => k_is)
    (case l4 => k_is)
    (case c4 => k_is)
    (case k4 => k_is)
    (case a5 => k_is)
    (case l5 => k_is)
    (case c5 => k_is)
    (case k5 => k_is)
    (case a6 => k_is)
    (case l6 => k_is)
    (case c6 => k_is)
    (case k6 => k_is)
    (case a7 => k_is)
    (case l7 => k_is)
    (case c7 => k_is)
    (case k7 => k_is)
    (case a8 => k_is)
    (case l8 => k_is)
    (case c8 => k_is)
    (case k8 => k_is)
    (case a9 => k_is)
    (case l9 => k_is)
    (case c9 => k_is)
    (case k9 => k_is)
    (case pg_Field => k_is)
    (case hd_Field => k_is)
    (case po_Field => k_is)
    (case sa_Field => k_is)
    (case mk_Field => k_is)
    (case kc_Field => k_is)
    (case n_Field_powers => k_is)
    (case n_Field_places => k_is)
    (case g_REDUCER => k_is)
    (case g_ROUND => k_is)
    (case g_PARITY => k_is)
    (case g_NOT_SO => k_is)
    (case g_MOST_ROW => k_is)
    (case b_range => k_is)
    (case b_len => k_is)
    (case b_enumerate => k_is)
    (case b_zip => k_is)
  case S =>
    intro K H xs a hO hwi hask hx
    exact Sl.end1 hwi hx
#print axioms PySem.Challenge.cw_sureline_s03_parity_holds
