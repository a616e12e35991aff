/- Plain laws of days and weeks: what date, week and the references compute, as functions on integers. -/
namespace Dt

def leap (y : Int) : Bool := (y % 4 == 0 && !(y % 100 == 0)) || y % 400 == 0
def lp (y : Int) : Int := if leap y = true then 1 else 0
theorem lp_01 (y : Int) : 0 ≤ lp y ∧ lp y ≤ 1 := by unfold lp; split <;> omega
theorem lp_iff (y : Int) : (lp y = 1 ∧ ((y % 4 = 0 ∧ y % 100 ≠ 0) ∨ y % 400 = 0)) ∨ (lp y = 0 ∧ ¬ ((y % 4 = 0 ∧ y % 100 ≠ 0) ∨ y % 400 = 0)) := by
  unfold lp leap
  by_cases h : (y % 4 = 0 ∧ y % 100 ≠ 0) ∨ y % 400 = 0
  · left
    refine ⟨?_, h⟩
    rw [if_pos]
    simpa using h
  · right
    refine ⟨?_, h⟩
    rw [if_neg]
    simpa using h

/-- how many days are ahead of a year -/
def year (y : Int) : Int := 365 * (y - 1) + (y - 1) / 4 - (y - 1) / 100 + (y - 1) / 400
theorem year_succ (y : Int) : year (y + 1) = year y + 365 + lp y := by
  unfold year
  have := lp_iff y
  omega
theorem year_mono {a b : Int} (h : a ≤ b) : year a ≤ year b := by
  unfold year; omega
theorem year_lt {a b : Int} (h : a < b) : year a + 365 ≤ year b := by
  unfold year; omega
theorem year_bd (y : Int) (h0 : 1 ≤ y) (h : y ≤ 10001) : 0 ≤ year y ∧ year y ≤ 3652425 := by unfold year; omega

/-- ahead of a month in a common year -/
def ahead (m : Int) : Int := [0, 31, 59, 90, 120, 151, 181, 212, 243, 273, 304, 334, 365].getD (m - 1).toNat 0
def before (y m : Int) : Int := ahead m + if m > 2 ∧ leap y = true then 1 else 0
/-- how many days a month has -/
def dim (y m : Int) : Int := if m = 2 then 28 + lp y else if m = 4 ∨ m = 6 ∨ m = 9 ∨ m = 11 then 30 else 31

theorem m_cases {m : Int} (h1 : 1 ≤ m) (h2 : m ≤ 12) : m = 1 ∨ m = 2 ∨ m = 3 ∨ m = 4 ∨ m = 5 ∨ m = 6 ∨ m = 7 ∨ m = 8 ∨ m = 9 ∨ m = 10 ∨ m = 11 ∨ m = 12 := by omega
theorem before_succ (y m : Int) (h1 : 1 ≤ m) (h2 : m ≤ 12) : before y (m + 1) = before y m + dim y m := by
  unfold before dim lp
  rcases m_cases h1 h2 with rfl | rfl | rfl | rfl | rfl | rfl | rfl | rfl | rfl | rfl | rfl | rfl <;> cases leap y <;> rfl
theorem dim_bd (y m : Int) : 28 ≤ dim y m ∧ dim y m ≤ 31 := by
  unfold dim; have := lp_01 y; repeat' split
  all_goals omega
theorem before_one (y : Int) : before y 1 = 0 := rfl
theorem before_13 (y : Int) : before y 13 = 365 + lp y := by
  unfold before lp; cases leap y <;> rfl
theorem before_bd (y m : Int) (h1 : 1 ≤ m) (h2 : m ≤ 13) : 0 ≤ before y m ∧ before y m ≤ 366 ∧ before y m + 31 * (13 - m) ≥ 365 := by
  have h : m = 13 ∨ m ≤ 12 := by omega
  rcases h with rfl | h
  · rw [before_13]; have := lp_01 y; omega
  · unfold before
    rcases m_cases h1 h with rfl | rfl | rfl | rfl | rfl | rfl | rfl | rfl | rfl | rfl | rfl | rfl <;> simp only [ahead] <;> (try split) <;> simp
theorem before_lt (y m : Int) (h1 : 1 ≤ m) (h2 : m ≤ 12) : before y m + dim y m ≤ 365 + lp y := by
  have h : m = 12 ∨ m ≤ 11 := by omega
  unfold before dim lp
  rcases m_cases h1 h2 with rfl | rfl | rfl | rfl | rfl | rfl | rfl | rfl | rfl | rfl | rfl | rfl <;> cases leap y <;> decide

/-- is it a day? -/
def ok (y m d : Int) : Prop := 1 ≤ y ∧ y ≤ 9999 ∧ 1 ≤ m ∧ m ≤ 12 ∧ 1 ≤ d ∧ d ≤ dim y m
instance (y m d : Int) : Decidable (ok y m d) := by unfold ok; infer_instance
/-- its number -/
def num (y m d : Int) : Int := year y + before y m + d - 1
theorem num_bd (y m d : Int) (h : ok y m d) : year y ≤ num y m d ∧ num y m d < year (y + 1) ∧ 0 ≤ num y m d ∧ num y m d < 3652059 := by
  obtain ⟨h1, h2, h3, h4, h5, h6⟩ := h
  have a := before_bd y m h3 (by omega)
  have b := before_lt y m h3 h4
  have c := year_succ y
  have e : year 1 ≤ year y := year_mono h1
  have f : year (y + 1) ≤ year 10000 := year_mono (by omega)
  have e1 : year 1 = 0 := rfl
  have f1 : year 10000 = 3652059 := rfl
  unfold num; omega

/-- the Monday of the first week -/
def first (y : Int) : Int := year y + 3 - (year y + 3) % 7
theorem first_mono {a b : Int} (h : a ≤ b) : first a ≤ first b := by
  have := year_mono h; unfold first; omega
theorem first_iff (y n : Int) : first y ≤ n ↔ year y ≤ n - n % 7 + 3 := by unfold first; omega
/-- the year of a day's week: the one that has its Thursday -/
def IsWeekYear (n y : Int) : Prop := first y ≤ n ∧ n < first (y + 1)
theorem weekYear_unique {n y z : Int} (h : IsWeekYear n y) (g : IsWeekYear n z) : y = z := by
  unfold IsWeekYear at h g
  by_cases e : y < z
  · have := first_mono (a := y + 1) (b := z) (by omega); omega
  · by_cases e : z < y
    · have := first_mono (a := z + 1) (b := y) (by omega); omega
    · omega

/-- the year of the week of a day of the year y -/
def wy (y n : Int) : Int := if first (y + 1) ≤ n then y + 1 else if first y ≤ n then y else y - 1
theorem first_near (y : Int) : year y - 3 ≤ first y ∧ first y ≤ year y + 3 := by unfold first; omega
theorem wy_is (y n : Int) (h1 : year y ≤ n) (h2 : n < year (y + 1)) : IsWeekYear n (wy y n) := by
  have a := first_near (y + 1 + 1)
  have b := first_near (y - 1)
  have c := year_lt (a := y + 1) (b := y + 1 + 1) (by omega)
  have d := year_lt (a := y - 1) (b := y) (by omega)
  unfold wy IsWeekYear
  split
  · omega
  · split
    · omega
    · have e : y - 1 + 1 = y := by omega
      rw [e]; omega
theorem wy_bd (y n : Int) (h0 : 1 ≤ y) (h3 : y ≤ 9999) (h1 : year y ≤ n) (h2 : n < year (y + 1)) (h4 : 0 ≤ n) (h5 : n < 3652059) : 1 ≤ wy y n ∧ wy y n ≤ y + 1 ∧ wy y n ≤ 9999 ∧ y - 1 ≤ wy y n := by
  have f1 : first 1 = 0 := by decide
  have f2 : first 10000 = 3652061 := by decide
  unfold wy
  split
  · rename_i h
    have : ¬ y = 9999 := by
      intro e; subst e
      have h' : first 10000 ≤ n := h
      omega
    omega
  · split
    · omega
    · rename_i h
      have : ¬ y = 1 := by
        intro e; subst e; omega
      omega
theorem first_bd (y : Int) (h0 : 1 ≤ y) (h : y ≤ 10001) : 0 ≤ first y ∧ first y ≤ 3652430 := by
  have f1 : first 1 = 0 := by decide
  have := first_mono h0
  have := first_near y
  have := year_bd y h0 h
  omega
theorem first_mod (y : Int) : first y % 7 = 0 := by unfold first; omega
end Dt
