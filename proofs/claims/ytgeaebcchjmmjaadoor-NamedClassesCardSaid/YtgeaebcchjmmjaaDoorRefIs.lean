/- The page's test of a byte, name by name. -/
import Derived.Test.YtgeaebcchjmmjaaDoorRefEsc2
namespace Go.Proofs.YtgeaebcchjmmjaaDoor
open Go.RowKit
def isP : Nat → Int → Bool
  | 0, b => upB b || loB b || dgB b
  | 1, b => upB b || loB b
  | 2, b => (b == 9) || (b == 32)
  | 3, b => decide (b < 32) || (b == 127)
  | 4, b => dgB b
  | 5, b => decide (33 ≤ b) && decide (b ≤ 126)
  | 6, b => loB b
  | 7, b => decide (32 ≤ b) && decide (b ≤ 126)
  | 8, b => decide (33 ≤ b) && decide (b ≤ 126) && !upB b && !loB b && !dgB b
  | 9, b => spB b
  | 10, b => upB b
  | 11, b => dgB b || (decide (65 ≤ b) && decide (b ≤ 70)) || (decide (97 ≤ b) && decide (b ≤ 102))
  | _, _ => false
set_option maxRecDepth 100000 in
set_option maxHeartbeats 4000000 in
theorem is_0 (b : Int) (w : World) : Calls Tryd.prog 43 #[.string ⟨#[97, 108, 110, 117, 109]⟩, .int .i64 b] w fun e w' => e = .returned (.tuple #[.bool (isP 0 b), .bool true]) ∧ w = w' := by
  cases hu : upB b <;> cases hl : loB b <;> cases hd : dgB b
  all_goals
    try omega
  all_goals
    go_enter Tryd.func43, Tryd.ntmps43
    go_wp2_with (first | (go_at_call 37; refine (upper_any _ _).mono ?_; rw [hu]; rintro e w' ⟨rfl, rfl⟩) | (go_at_call 39; refine (lower_any _ _).mono ?_; rw [hl]; rintro e w' ⟨rfl, rfl⟩) | (go_at_call 44; refine (digit_any _ _).mono ?_; rw [hd]; rintro e w' ⟨rfl, rfl⟩))
    go_ret2
    exact ⟨by first | (simp [isP, *]; done) | (simp [isP, *]; omega), rfl⟩
set_option maxRecDepth 100000 in
set_option maxHeartbeats 4000000 in
theorem is_1 (b : Int) (w : World) : Calls Tryd.prog 43 #[.string ⟨#[97, 108, 112, 104, 97]⟩, .int .i64 b] w fun e w' => e = .returned (.tuple #[.bool (isP 1 b), .bool true]) ∧ w = w' := by
  cases hu : upB b <;> cases hl : loB b <;> cases hd : dgB b
  all_goals
    try omega
  all_goals
    go_enter Tryd.func43, Tryd.ntmps43
    go_wp2_with (first | (go_at_call 37; refine (upper_any _ _).mono ?_; rw [hu]; rintro e w' ⟨rfl, rfl⟩) | (go_at_call 39; refine (lower_any _ _).mono ?_; rw [hl]; rintro e w' ⟨rfl, rfl⟩) | (go_at_call 44; refine (digit_any _ _).mono ?_; rw [hd]; rintro e w' ⟨rfl, rfl⟩))
    go_ret2
    exact ⟨by first | (simp [isP, *]; done) | (simp [isP, *]; omega), rfl⟩
set_option maxRecDepth 100000 in
set_option maxHeartbeats 4000000 in
theorem is_2 (b : Int) (w : World) : Calls Tryd.prog 43 #[.string ⟨#[98, 108, 97, 110, 107]⟩, .int .i64 b] w fun e w' => e = .returned (.tuple #[.bool (isP 2 b), .bool true]) ∧ w = w' := by
  cases he9 : (b == 9) <;> cases he32 : (b == 32)
  all_goals
    try omega
  all_goals
    go_enter Tryd.func43, Tryd.ntmps43
    go_wp2
    go_ret2
    exact ⟨by first | (simp [isP, *]; done) | (simp [isP, *]; omega), rfl⟩
set_option maxRecDepth 100000 in
set_option maxHeartbeats 4000000 in
theorem is_3 (b : Int) (w : World) : Calls Tryd.prog 43 #[.string ⟨#[99, 110, 116, 114, 108]⟩, .int .i64 b] w fun e w' => e = .returned (.tuple #[.bool (isP 3 b), .bool true]) ∧ w = w' := by
  by_cases hl32 : b < 32 <;> cases he127 : (b == 127)
  all_goals
    try omega
  all_goals
    go_enter Tryd.func43, Tryd.ntmps43
    go_wp2
    go_ret2
    exact ⟨by first | (simp [isP, *]; done) | (simp [isP, *]; omega), rfl⟩
set_option maxRecDepth 100000 in
set_option maxHeartbeats 4000000 in
theorem is_4 (b : Int) (w : World) : Calls Tryd.prog 43 #[.string ⟨#[100, 105, 103, 105, 116]⟩, .int .i64 b] w fun e w' => e = .returned (.tuple #[.bool (isP 4 b), .bool true]) ∧ w = w' := by
  cases hu : upB b <;> cases hl : loB b <;> cases hd : dgB b
  all_goals
    try omega
  all_goals
    go_enter Tryd.func43, Tryd.ntmps43
    go_wp2_with (first | (go_at_call 37; refine (upper_any _ _).mono ?_; rw [hu]; rintro e w' ⟨rfl, rfl⟩) | (go_at_call 39; refine (lower_any _ _).mono ?_; rw [hl]; rintro e w' ⟨rfl, rfl⟩) | (go_at_call 44; refine (digit_any _ _).mono ?_; rw [hd]; rintro e w' ⟨rfl, rfl⟩))
    go_ret2
    exact ⟨by first | (simp [isP, *]; done) | (simp [isP, *]; omega), rfl⟩
set_option maxRecDepth 100000 in
set_option maxHeartbeats 4000000 in
theorem is_5 (b : Int) (w : World) : Calls Tryd.prog 43 #[.string ⟨#[103, 114, 97, 112, 104]⟩, .int .i64 b] w fun e w' => e = .returned (.tuple #[.bool (isP 5 b), .bool true]) ∧ w = w' := by
  by_cases hg33 : 33 ≤ b <;> by_cases hu126 : b ≤ 126
  all_goals
    try omega
  all_goals
    go_enter Tryd.func43, Tryd.ntmps43
    go_wp2
    go_ret2
    exact ⟨by first | (simp [isP, *]; done) | (simp [isP, *]; omega), rfl⟩
set_option maxRecDepth 100000 in
set_option maxHeartbeats 4000000 in
theorem is_6 (b : Int) (w : World) : Calls Tryd.prog 43 #[.string ⟨#[108, 111, 119, 101, 114]⟩, .int .i64 b] w fun e w' => e = .returned (.tuple #[.bool (isP 6 b), .bool true]) ∧ w = w' := by
  cases hu : upB b <;> cases hl : loB b <;> cases hd : dgB b
  all_goals
    try omega
  all_goals
    go_enter Tryd.func43, Tryd.ntmps43
    go_wp2_with (first | (go_at_call 37; refine (upper_any _ _).mono ?_; rw [hu]; rintro e w' ⟨rfl, rfl⟩) | (go_at_call 39; refine (lower_any _ _).mono ?_; rw [hl]; rintro e w' ⟨rfl, rfl⟩) | (go_at_call 44; refine (digit_any _ _).mono ?_; rw [hd]; rintro e w' ⟨rfl, rfl⟩))
    go_ret2
    exact ⟨by first | (simp [isP, *]; done) | (simp [isP, *]; omega), rfl⟩
set_option maxRecDepth 100000 in
set_option maxHeartbeats 4000000 in
theorem is_7 (b : Int) (w : World) : Calls Tryd.prog 43 #[.string ⟨#[112, 114, 105, 110, 116]⟩, .int .i64 b] w fun e w' => e = .returned (.tuple #[.bool (isP 7 b), .bool true]) ∧ w = w' := by
  by_cases hg32 : 32 ≤ b <;> by_cases hu126 : b ≤ 126
  all_goals
    try omega
  all_goals
    go_enter Tryd.func43, Tryd.ntmps43
    go_wp2
    go_ret2
    exact ⟨by first | (simp [isP, *]; done) | (simp [isP, *]; omega), rfl⟩
set_option maxRecDepth 100000 in
set_option maxHeartbeats 4000000 in
theorem is_8 (b : Int) (w : World) : Calls Tryd.prog 43 #[.string ⟨#[112, 117, 110, 99, 116]⟩, .int .i64 b] w fun e w' => e = .returned (.tuple #[.bool (isP 8 b), .bool true]) ∧ w = w' := by
  cases hu : upB b <;> cases hl : loB b <;> cases hd : dgB b <;> by_cases hg33 : 33 ≤ b <;> by_cases hu126 : b ≤ 126
  all_goals
    try omega
  all_goals
    go_enter Tryd.func43, Tryd.ntmps43
    go_wp2_with (first | (go_at_call 37; refine (upper_any _ _).mono ?_; rw [hu]; rintro e w' ⟨rfl, rfl⟩) | (go_at_call 39; refine (lower_any _ _).mono ?_; rw [hl]; rintro e w' ⟨rfl, rfl⟩) | (go_at_call 44; refine (digit_any _ _).mono ?_; rw [hd]; rintro e w' ⟨rfl, rfl⟩))
    go_ret2
    exact ⟨by first | (simp [isP, *]; done) | (simp [isP, *]; omega), rfl⟩
set_option maxRecDepth 100000 in
set_option maxHeartbeats 4000000 in
theorem is_9 (b : Int) (w : World) : Calls Tryd.prog 43 #[.string ⟨#[115, 112, 97, 99, 101]⟩, .int .i64 b] w fun e w' => e = .returned (.tuple #[.bool (isP 9 b), .bool true]) ∧ w = w' := by
  exact is_space b w
set_option maxRecDepth 100000 in
set_option maxHeartbeats 4000000 in
theorem is_10 (b : Int) (w : World) : Calls Tryd.prog 43 #[.string ⟨#[117, 112, 112, 101, 114]⟩, .int .i64 b] w fun e w' => e = .returned (.tuple #[.bool (isP 10 b), .bool true]) ∧ w = w' := by
  cases hu : upB b <;> cases hl : loB b <;> cases hd : dgB b
  all_goals
    try omega
  all_goals
    go_enter Tryd.func43, Tryd.ntmps43
    go_wp2_with (first | (go_at_call 37; refine (upper_any _ _).mono ?_; rw [hu]; rintro e w' ⟨rfl, rfl⟩) | (go_at_call 39; refine (lower_any _ _).mono ?_; rw [hl]; rintro e w' ⟨rfl, rfl⟩) | (go_at_call 44; refine (digit_any _ _).mono ?_; rw [hd]; rintro e w' ⟨rfl, rfl⟩))
    go_ret2
    exact ⟨by first | (simp [isP, *]; done) | (simp [isP, *]; omega), rfl⟩
set_option maxRecDepth 100000 in
set_option maxHeartbeats 4000000 in
theorem is_11 (b : Int) (w : World) : Calls Tryd.prog 43 #[.string ⟨#[120, 100, 105, 103, 105, 116]⟩, .int .i64 b] w fun e w' => e = .returned (.tuple #[.bool (isP 11 b), .bool true]) ∧ w = w' := by
  cases hd : dgB b <;> by_cases hg65 : 65 ≤ b <;> by_cases hu70 : b ≤ 70 <;> by_cases hg97 : 97 ≤ b <;> by_cases hu102 : b ≤ 102
  all_goals
    try omega
  all_goals
    go_enter Tryd.func43, Tryd.ntmps43
    go_wp2_with (first | (go_at_call 44; refine (digit_any _ _).mono ?_; rw [hd]; rintro e w' ⟨rfl, rfl⟩))
    go_ret2
    exact ⟨by first | (simp [isP, *]; done) | (simp [isP, *]; omega), rfl⟩
end Go.Proofs.YtgeaebcchjmmjaaDoor
