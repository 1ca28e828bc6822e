/- PlanOnly: whatever the two strings and the number are, the call answers true, and nothing older is turned. -/
import Derived.Test.YthodfojhbbendaaGreatDoorPo1
import Derived.Test.YthodfojhbbendaaGreatDoorPo2
import Derived.Test.YthodfojhbbendaaGreatDoorPo3
import Derived.Test.YthodfojhbbendaaGreatDoorPo4
import Derived.Laws.Entries
namespace Go.Proofs.YthodfojhbbendaaGreatDoor.planOnly
open Go Go.Ev Go.RowKit

theorem all0 (r : Int) (hr : 0 ≤ r ∧ r < 64) : only strS strS r = true := by
  have key : ∀ n : Nat, (List.range 8).all (fun i => only strS strS (Int.ofNat (n + i))) = true → (n : Int) ≤ r → r < (n : Int) + 8 → only strS strS r = true := fun n h h1 h2 => by
    have := List.all_eq_true.1 h (r.toNat - n) (List.mem_range.2 (by omega))
    rwa [show Int.ofNat (n + (r.toNat - n)) = r by simp only [Int.ofNat_eq_natCast]; omega] at this
  rcases Int.lt_or_le r 8 with h0 | h0
  · exact key 0 only0at0 (by omega) (by omega)
  rcases Int.lt_or_le r 16 with h1 | h1
  · exact key 8 only0at1 (by omega) (by omega)
  rcases Int.lt_or_le r 24 with h2 | h2
  · exact key 16 only0at2 (by omega) (by omega)
  rcases Int.lt_or_le r 32 with h3 | h3
  · exact key 24 only0at3 (by omega) (by omega)
  rcases Int.lt_or_le r 40 with h4 | h4
  · exact key 32 only0at4 (by omega) (by omega)
  rcases Int.lt_or_le r 48 with h5 | h5
  · exact key 40 only0at5 (by omega) (by omega)
  rcases Int.lt_or_le r 56 with h6 | h6
  · exact key 48 only0at6 (by omega) (by omega)
  exact key 56 only0at7 (by omega) (by omega)
theorem all1 (r : Int) (hr : 0 ≤ r ∧ r < 64) : only strL strA r = true := by
  have key : ∀ n : Nat, (List.range 8).all (fun i => only strL strA (Int.ofNat (n + i))) = true → (n : Int) ≤ r → r < (n : Int) + 8 → only strL strA r = true := fun n h h1 h2 => by
    have := List.all_eq_true.1 h (r.toNat - n) (List.mem_range.2 (by omega))
    rwa [show Int.ofNat (n + (r.toNat - n)) = r by simp only [Int.ofNat_eq_natCast]; omega] at this
  rcases Int.lt_or_le r 8 with h0 | h0
  · exact key 0 only1at0 (by omega) (by omega)
  rcases Int.lt_or_le r 16 with h1 | h1
  · exact key 8 only1at1 (by omega) (by omega)
  rcases Int.lt_or_le r 24 with h2 | h2
  · exact key 16 only1at2 (by omega) (by omega)
  rcases Int.lt_or_le r 32 with h3 | h3
  · exact key 24 only1at3 (by omega) (by omega)
  rcases Int.lt_or_le r 40 with h4 | h4
  · exact key 32 only1at4 (by omega) (by omega)
  rcases Int.lt_or_le r 48 with h5 | h5
  · exact key 40 only1at5 (by omega) (by omega)
  rcases Int.lt_or_le r 56 with h6 | h6
  · exact key 48 only1at6 (by omega) (by omega)
  exact key 56 only1at7 (by omega) (by omega)
theorem all2 (r : Int) (hr : 0 ≤ r ∧ r < 64) : only strS strL r = true := by
  have key : ∀ n : Nat, (List.range 8).all (fun i => only strS strL (Int.ofNat (n + i))) = true → (n : Int) ≤ r → r < (n : Int) + 8 → only strS strL r = true := fun n h h1 h2 => by
    have := List.all_eq_true.1 h (r.toNat - n) (List.mem_range.2 (by omega))
    rwa [show Int.ofNat (n + (r.toNat - n)) = r by simp only [Int.ofNat_eq_natCast]; omega] at this
  rcases Int.lt_or_le r 8 with h0 | h0
  · exact key 0 only2at0 (by omega) (by omega)
  rcases Int.lt_or_le r 16 with h1 | h1
  · exact key 8 only2at1 (by omega) (by omega)
  rcases Int.lt_or_le r 24 with h2 | h2
  · exact key 16 only2at2 (by omega) (by omega)
  rcases Int.lt_or_le r 32 with h3 | h3
  · exact key 24 only2at3 (by omega) (by omega)
  rcases Int.lt_or_le r 40 with h4 | h4
  · exact key 32 only2at4 (by omega) (by omega)
  rcases Int.lt_or_le r 48 with h5 | h5
  · exact key 40 only2at5 (by omega) (by omega)
  rcases Int.lt_or_le r 56 with h6 | h6
  · exact key 48 only2at6 (by omega) (by omega)
  exact key 56 only2at7 (by omega) (by omega)

theorem str_rep (lo hi : Nat) (s : ByteArray) (h : lo ≤ s.size ∧ s.size ≤ hi) (G : Gh) (st : St) (w : World) : Rep G st w (.strx [] lo hi) (.string s) := by
  simp only [Rep]
  refine ⟨s.data.toList, by simp, fun _ h => (by cases h), ?_, ?_⟩
  · simpa using h.1
  · simpa using h.2
theorem walk (a b : ByteArray) (n : Int) (ya : a.size ≤ 9223372036854775807) (yb : b.size ≤ 9223372036854775807) (wn : (Lit.int .i64 n).wf = true) (W : World) :
    Calls Tryz.prog 4 #[.string a, .string b, .int .i64 n] W fun e W' => e = .returned (.bool true) ∧ Below W.heap.size W W' := by
  have hr : 0 ≤ n % 64 ∧ n % 64 < 64 := ⟨by omega, by omega⟩
  by_cases ha : a.size ≤ 50
  · by_cases hb : b.size ≤ 50
    · have h := all0 (n % 64) hr
      unfold only go at h
      exact run0_true ext1_ok W (fun _ _ _ => RepL.cons (str_rep 0 50 a ⟨by omega, ha⟩ _ _ _) (RepL.cons (str_rep 0 50 b ⟨by omega, hb⟩ _ _ _) (RepL.cons (full_rep wn _ _ _) RepL.nil))) h (by kernel_rfl)
    · have h := all2 (n % 64) hr
      unfold only go at h
      exact run0_true ext1_ok W (fun _ _ _ => RepL.cons (str_rep 0 50 a ⟨by omega, ha⟩ _ _ _) (RepL.cons (str_rep 51 9223372036854775807 b ⟨by omega, yb⟩ _ _ _) (RepL.cons (full_rep wn _ _ _) RepL.nil))) h (by kernel_rfl)
  · have h := all1 (n % 64) hr
    unfold only go at h
    exact run0_true ext1_ok W (fun _ _ _ => RepL.cons (str_rep 51 9223372036854775807 a ⟨by omega, ya⟩ _ _ _) (RepL.cons (str_rep 0 9223372036854775807 b ⟨by omega, yb⟩ _ _ _) (RepL.cons (full_rep wn _ _ _) RepL.nil))) h (by kernel_rfl)
end Go.Proofs.YthodfojhbbendaaGreatDoor.planOnly
