/- The walks of the small functions that the four statements about package site call. -/
import Derived.Test.YtgheokocdfgjpaaRows
import Derived.Test.YtgheokocdfgjpaaMaps
import Derived.Deep.QuietTactic
import Derived.BigQuiet
import Derived.Lib.Hide
namespace Go.Proofs.Ytgheokocdfgjpaa
open Go.RowKit Go.MapKept Go.ChangeMaps Go.Maps

/-! ### pick -/
def pickI (c n : Int) : Int := if c < 0 then (-(c + 1)) % n else c % n

theorem pickI_bd (c n : Int) (hn : 1 ≤ n) : 0 ≤ pickI c n ∧ pickI c n < n := by
  unfold pickI
  split
  · exact ⟨Int.emod_nonneg _ (by omega), Int.emod_lt_of_pos _ (by omega)⟩
  · exact ⟨Int.emod_nonneg _ (by omega), Int.emod_lt_of_pos _ (by omega)⟩

set_option maxHeartbeats 400000 in
theorem pick_any (c n : Int) (w : World) (h0 : -9223372036854775808 ≤ c) (h1 : c ≤ 9223372036854775807) (hn : 1 ≤ n) :
    Calls Try.prog 13 #[.int .i64 c, .int .i64 n] w fun e w' => e = .returned (.int .i64 (pickI c n)) ∧ w = w' := by
  by_cases hc : c < 0
  · go_enter Try.func13, Try.ntmps13
    go_wp2
    go_ret
    have e : (c + 1).tmod n = -(-(c + 1) % n) := by
      rw [← Int.tmod_eq_emod_of_nonneg (by omega), Int.neg_tmod, Int.neg_neg]
    refine ⟨?_, rfl⟩
    unfold pickI
    rw [if_pos hc]
    simp only [e, Int.neg_neg]
    rfl
  · go_enter Try.func13, Try.ntmps13
    go_wp2
    go_ret
    refine ⟨?_, rfl⟩
    unfold pickI
    rw [if_neg (by omega)]
    rfl

/-! ### class, session -/
def classI (c : Int) : Int := if pickI c 6 = 5 then -1 else pickI c 6

theorem classI_bd (c : Int) : -1 ≤ classI c ∧ classI c ≤ 4 := by
  have := pickI_bd c 6 (by omega)
  unfold classI
  split <;> omega

theorem class_any (c : Int) (w : World) (h0 : -9223372036854775808 ≤ c) (h1 : c ≤ 9223372036854775807) :
    Calls Try.prog 14 #[.int .i64 c] w fun e w' => e = .returned (.int .i64 (classI c)) ∧ w = w' := by
  by_cases hc : pickI c 6 = 5
  · have hb : (pickI c 6 == 5) = true := by simpa using hc
    have Hc : Hid (classI c = -1) := by show classI c = -1; unfold classI; rw [if_pos hc]
    clear hc
    go_enter Try.func14, Try.ntmps14
    go_wp2_with (go_at_call 13; refine (pick_any c 6 _ h0 h1 (by omega)).mono ?_; rintro e w' ⟨rfl, rfl⟩)
    go_ret
    exact ⟨by rw [Hc.out]; rfl, rfl⟩
  · have hb : (pickI c 6 == 5) = false := by simpa using hc
    have Hc : Hid (classI c = pickI c 6) := by show classI c = _; unfold classI; rw [if_neg hc]
    clear hc
    go_enter Try.func14, Try.ntmps14
    go_wp2_with (go_at_call 13; refine (pick_any c 6 _ h0 h1 (by omega)).mono ?_; rintro e w' ⟨rfl, rfl⟩)
    go_ret
    exact ⟨by rw [Hc.out]; rfl, rfl⟩

theorem session_any (n o : Int) (w : World) (h0 : -9223372036854775808 ≤ n) (h1 : n ≤ 9223372036854775807) (ho : 0 ≤ o) (ho1 : o ≤ 1000) :
    Calls Try.prog 17 #[.int .i64 n, .int .i64 o] w fun e w' => e = .returned (.int .i64 (pickI n (o + 2))) ∧ w = w' := by
  go_enter Try.func17, Try.ntmps17
  go_wp2_with (go_at_call 13; refine (pick_any n _ _ h0 h1 (by omega)).mono ?_; rintro e w' ⟨rfl, rfl⟩)
  go_ret
  exact ⟨rfl, rfl⟩

/-! ### errorText, exists -/
def none5 : ByteArray := ⟨#[33, 110, 111, 110, 101]⟩
def site5 : ByteArray := ⟨#[33, 115, 105, 116, 101]⟩
def emptyB : ByteArray := ⟨#[]⟩

theorem errorText_ok (w : World) : Calls Try.prog 24 #[.int .i64 0] w fun e w' => e = .returned (.string emptyB) ∧ w = w' := by
  go_enter Try.func24, Try.ntmps24
  go_wp2
  go_ret
  exact ⟨rfl, rfl⟩
theorem errorText_none (w : World) : Calls Try.prog 24 #[.int .i64 251] w fun e w' => e = .returned (.string none5) ∧ w = w' := by
  go_enter Try.func24, Try.ntmps24
  go_wp2
  go_ret
  exact ⟨rfl, rfl⟩
theorem errorText_site (w : World) : Calls Try.prog 24 #[.int .i64 250] w fun e w' => e = .returned (.string site5) ∧ w = w' := by
  go_enter Try.func24, Try.ntmps24
  go_wp2
  go_ret
  exact ⟨rfl, rfl⟩

def isClass (c : Int) : Bool := decide (0 ≤ c ∧ c < 4)

theorem exists_any (c : Int) (w : World) : Calls Try.prog 26 #[.int .i64 c] w fun e w' => e = .returned (.bool (isClass c)) ∧ w = w' := by
  by_cases h0 : 0 ≤ c
  · by_cases h1 : c < 4
    · have Hc : Hid (isClass c = true) := by show isClass c = true; simp [isClass, h0, h1]
      go_enter Try.func26, Try.ntmps26
      go_wp2
      go_ret
      exact ⟨by rw [Hc.out]; rfl, rfl⟩
    · have Hc : Hid (isClass c = false) := by show isClass c = false; simp [isClass]; omega
      go_enter Try.func26, Try.ntmps26
      go_wp2
      go_ret
      exact ⟨by rw [Hc.out]; rfl, rfl⟩
  · have Hc : Hid (isClass c = false) := by show isClass c = false; simp [isClass]; omega
    go_enter Try.func26, Try.ntmps26
    go_wp2
    go_ret
    exact ⟨by rw [Hc.out]; rfl, rfl⟩

/-! ### few, addresses -/
theorem few_nil (w : World) : Calls Try.prog 9 #[.slice none 0 0] w fun e w' => e = .returned (.slice none 0 0) ∧ w = w' := by
  go_enter Try.func9, Try.ntmps9
  go_wp2
  go_ret
  exact ⟨rfl, rfl⟩

theorem few_any (a : Addr) (n c : Nat) (w : World) (hn : n ≤ c) : Calls Try.prog 9 #[.slice (some a) n c] w fun e w' => e = .returned (.slice (some a) (min n 40) c) ∧ w = w' := by
  by_cases h : n ≤ 40
  · have hm : Hid (min n 40 = n) := by show min n 40 = n; omega
    go_enter Try.func9, Try.ntmps9
    go_wp2
    go_ret
    exact ⟨by rw [hm.out]; rfl, rfl⟩
  · have hm : Hid (min n 40 = 40) := by show min n 40 = 40; omega
    go_enter Try.func9, Try.ntmps9
    go_wp2
    go_ret
    exact ⟨by rw [hm.out]; rfl, rfl⟩

def ad (i : Nat) : ByteArray := match i with
  | 0 => ⟨#[102, 114, 111, 110, 116]⟩
  | 1 => ⟨#[115, 116, 111, 114, 121, 45, 49]⟩
  | 2 => ⟨#[115, 116, 111, 114, 121, 45, 50]⟩
  | 3 => ⟨#[116, 111, 112, 105, 99]⟩
  | _ => ⟨#[102, 101, 101, 100]⟩

theorem addresses_any (w : World) : Calls Try.prog 10 #[] w fun e w' => e = .returned (.slice (some ⟨w.heap.size, 0, none⟩) 5 5) ∧ w' = w.alloc (.cells #[.string (ad 0), .string (ad 1), .string (ad 2), .string (ad 3), .string (ad 4)] 9) := by
  go_enter Try.func10, Try.ntmps10
  go_wp2
  go_ret
  exact ⟨rfl, rfl⟩

end Go.Proofs.Ytgheokocdfgjpaa
