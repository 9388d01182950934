/- Scores of violations: the plain law. -/
import Derived.IntWalk
set_option linter.unusedVariables false
set_option linter.unusedSimpArgs false
namespace Go.P36
open Go

def big : Int := 4611686018427387904
def sc (n : Int) : List Int → Int
  | [] => n
  | v :: r => if big - n < max v 0 then big else sc (n + max v 0) r
def rsStep (n v : Int) : Int := if min (IntKind.i64.wrap (n + min (max v 0) big)) big < 0 then big else min (IntKind.i64.wrap (n + min (max v 0) big)) big
def rs (n : Int) : List Int → Int
  | [] => n
  | v :: r => rs (rsStep n v) r
def tot : List Int → Int
  | [] => 0
  | v :: r => max v 0 + tot r

theorem tot_nonneg : ∀ l, 0 ≤ tot l
  | [] => by simp [tot]
  | v :: r => by have := tot_nonneg r; simp only [tot]; omega
theorem tot_append : ∀ a b, tot (a ++ b) = tot a + tot b
  | [], b => by simp [tot]
  | v :: r, b => by have := tot_append r b; simp only [List.cons_append, tot]; omega
theorem sc_eq : ∀ (l : List Int) (n : Int), 0 ≤ n → n ≤ big → sc n l = min big (n + tot l)
  | [], n, h0, h1 => by simp only [sc, tot]; omega
  | v :: r, n, h0, h1 => by
    have ht := tot_nonneg r
    simp only [sc, tot]
    split
    · unfold big at *; omega
    · rw [sc_eq r _ (by omega) (by unfold big at *; omega)]; omega
theorem rs_eq : ∀ (l : List Int) (n : Int), 0 ≤ n → n ≤ big → rs n l = min big (n + tot l)
  | [], n, h0, h1 => by simp only [rs, tot]; omega
  | v :: r, n, h0, h1 => by
    have ht := tot_nonneg r
    have key : rsStep n v = min big (n + max v 0) := by
      unfold rsStep
      by_cases hb : n + min (max v 0) big < 9223372036854775808
      · rw [IntWalk.i64_in _ (by unfold big at *; omega)]
        unfold big at *
        split <;> omega
      · have e : n + min (max v 0) big = 9223372036854775808 := by unfold big at *; omega
        have e2 : IntKind.i64.wrap (n + min (max v 0) big) = -9223372036854775808 := by rw [e]; rfl
        rw [e2]
        unfold big at *
        rw [if_pos (by omega)]; omega
    simp only [rs, tot]
    rw [key, rs_eq r _ (by omega) (by omega)]
    omega
theorem rs_sc (l : List Int) : rs 0 l = sc 0 l := by
  rw [rs_eq l 0 (by omega) (by unfold big; omega), sc_eq l 0 (by omega) (by unfold big; omega)]
end Go.P36
