/- The string of a share, in the program and in the reference; the reference's Element, Valid. -/
import Derived.Test.YtbefcipeojahfaaGreatDoorShares
import Derived.Test.YtbefcipeojahfaaGreatDoorPure07
import Derived.Test.YtbefcipeojahfaaGreatDoorQuietC
import Derived.Test.YtbefcipeojahfaaGreatDoorRef03
namespace Go.Proofs.YtbefcipeojahfaaGreatDoor
open Go.RowKit

theorem dec_size (n : Nat) (h : n ≤ 9223372036854775807) : (dec n).size ≤ 19 := by
  have := dec_len n 18 (by omega)
  have e : (dec n).size = (Go.Lib.decDigits n).length := rfl
  omega

theorem relement_any (a : Int) (w : World) :
    Calls Tryz.prog 28 #[.int .i64 a] w fun e w' => e = .returned (.bool (elemB a)) ∧ w = w' := by
  by_cases h0 : 0 ≤ a
  · by_cases h1 : a < 2147483647
    · go_enter Tryz.func28, Tryz.ntmps28
      go_wp2
      go_ret
      exact ⟨by simp [elemB, h0, h1], rfl⟩
    · go_enter Tryz.func28, Tryz.ntmps28
      go_wp2
      go_ret
      exact ⟨by simp [elemB, h0, h1], rfl⟩
  · go_enter Tryz.func28, Tryz.ntmps28
    go_wp2
    go_ret
    exact ⟨by simp [elemB]; omega, rfl⟩

theorem rvalid_any (x y : Int) (w : World) :
    Calls Tryz.prog 32 #[.agg #[.int .i64 x, .int .i64 y]] w fun e w' => e = .returned (.bool (validB (x, y))) ∧ w.alloc (.cells #[.int .i64 x, .int .i64 y] 25) = w' := by
  by_cases h0 : 1 ≤ x
  · by_cases h1 : x ≤ 16
    · go_enter Tryz.func32, Tryz.ntmps32
      go_wp2_with (go_at_call 28; refine (relement_any _ _).mono ?_; rintro e w' ⟨rfl, rfl⟩)
      go_ret
      exact ⟨ret_bool (by simp [validB, h0, h1]), rfl⟩
    · go_enter Tryz.func32, Tryz.ntmps32
      go_wp2
      go_ret
      exact ⟨ret_bool (by simp [validB]; omega), rfl⟩
  · go_enter Tryz.func32, Tryz.ntmps32
    go_wp2
    go_ret
    exact ⟨ret_bool (by simp [validB]; omega), rfl⟩
set_option maxHeartbeats 4000000 in
theorem stext_any (s : Int × Int) (w : World) (h1 : 0 ≤ s.1 ∧ s.1 ≤ 9223372036854775807) (h2 : 0 ≤ s.2 ∧ s.2 ≤ 9223372036854775807) (hT : Tabs w) :
    Calls Tryz.prog 35 #[.agg #[.int .i64 s.1, .int .i64 s.2]] w fun e w' => e = .returned (.string (shT s)) ∧ Below w.heap.size w w' := by
  obtain ⟨x, y⟩ := s
  simp only at h1 h2 ⊢
  obtain ⟨X, rfl⟩ : ∃ X : Nat, x = X := ⟨x.toNat, by omega⟩
  obtain ⟨Y, rfl⟩ : ∃ Y : Nat, y = Y := ⟨y.toNat, by omega⟩
  have hsh : shT ((X : Int), (Y : Int)) = dec X ++ ⟨#[32]⟩ ++ dec Y := by
    unfold shT bSp
    rw [Int.toNat_natCast, Int.toNat_natCast]
  rw [hsh]
  obtain ⟨w0, hw0⟩ : ∃ w0, w.alloc (.cells #[.int .i64 (X : Int), .int .i64 (Y : Int)] 25) = w0 := ⟨_, rfl⟩
  have HB0 : Hid (Below w.heap.size w w0) := Lib.hid (by rw [← hw0]; exact below_alloc (Below.refl _ _) _)
  have HK : Hid (∀ W, Below w0.heap.size w0 W → W.cell? ⟨w.heap.size, 0, none⟩ = some (.int .i64 (X : Int)) ∧ W.cell? ⟨w.heap.size, 1, none⟩ = some (.int .i64 (Y : Int))) := Lib.hid (fun W hW => by
    have hb : Blk w0 w.heap.size 25 #[.int .i64 (X : Int), .int .i64 (Y : Int)] := by rw [← hw0]; exact Blk.new w _ _ _ rfl
    exact ⟨kept_cell hW (hb.of_cell rfl), kept_cell hW (hb.of_cell rfl)⟩)
  have HD : Hid (∀ (n : Nat) (W : World), n ≤ 9223372036854775807 → Below w.heap.size w W → Calls Tryz.prog 58 #[.int .i64 (n : Int)] W fun e w' => e = .returned (.string (dec n)) ∧ Below W.heap.size W w') := Lib.hid (fun n W h hW => itoa_any n h W (hT.below hW))
  have HDX := Lib.hid (fun W (hW : Below w0.heap.size w0 W) => (HD.out X W (by omega) (below_trans HB0.out hW)).mono fun _ _ ⟨he, hb⟩ => (⟨he, below_trans hW hb⟩ : _ ∧ Below w0.heap.size w0 _))
  have HDY := Lib.hid (fun W (hW : Below w0.heap.size w0 W) => (HD.out Y W (by omega) (below_trans HB0.out hW)).mono fun _ _ ⟨he, hb⟩ => (⟨he, below_trans hW hb⟩ : _ ∧ Below w0.heap.size w0 _))
  have z1 := dec_size X (by omega)
  have z2 := dec_size Y (by omega)
  have HW0 := Lib.hid hw0
  clear hw0 h1 h2 hsh HD
  generalize dec X = dx at *
  generalize dec Y = dy at *
  have s1 : ¬ 9223372036854775807 < dx.size + 1 := by omega
  have s2 : ¬ 9223372036854775807 < (dx ++ ⟨#[32]⟩ : ByteArray).size + dy.size := by
    rw [ByteArray.size_append]
    have : (⟨#[32]⟩ : ByteArray).size = 1 := rfl
    omega
  have s3 : ¬ 9223372036854775807 < dx.size + 1 + dy.size := by omega
  go_enter Tryz.func35, Tryz.ntmps35
  go_wp2_with fail
  have hw0 := HW0.out
  rw [hw0]
  clear hw0
  refine wp_region_belowC (by kernel_rfl) (by kernel_rfl) (fun WQ HQS HQN => ?_)
  refine HQS.go (fun K hK => ?_)
  go_simp
  apply Exists.intro
  refine ⟨fun W hW => ?_, hK _ ?_⟩
  · (try go_simp)
    exact rfl
  clear hK K
  refine HQS.go (fun K hK => ?_)
  go_simp
  apply Exists.intro
  refine ⟨fun W hW => ?_, hK _ ?_⟩
  · obtain ⟨q1, q2⟩ := HK.out W hW
    have ql := lt_of_cell q1
    go_simp
    exact rfl
  clear hK K
  refine HQS.go (fun K hK => ?_)
  go_simp
  apply Exists.intro
  refine ⟨fun W hW => ?_, hK _ ?_⟩
  · exact HDX.out W hW
  clear hK K
  refine HQS.go (fun K hK => ?_)
  go_simp
  apply Exists.intro
  refine ⟨fun W hW => ?_, hK _ ?_⟩
  · (try go_simp)
    exact rfl
  clear hK K
  refine HQS.go (fun K hK => ?_)
  go_simp
  apply Exists.intro
  refine ⟨fun W hW => ?_, hK _ ?_⟩
  · (try go_simp)
    exact rfl
  clear hK K
  refine HQS.go (fun K hK => ?_)
  go_simp
  apply Exists.intro
  refine ⟨fun W hW => ?_, hK _ ?_⟩
  · obtain ⟨q1, q2⟩ := HK.out W hW
    have ql := lt_of_cell q1
    go_simp
    exact rfl
  clear hK K
  refine HQS.go (fun K hK => ?_)
  go_simp
  apply Exists.intro
  refine ⟨fun W hW => ?_, hK _ ?_⟩
  · exact HDY.out W hW
  clear hK K
  refine HQS.go (fun K hK => ?_)
  go_simp
  apply Exists.intro
  refine ⟨fun W hW => ?_, hK _ ?_⟩
  · (try go_simp)
    exact rfl
  clear hK K
  refine HQS.go (fun K hK => ?_)
  go_simp
  apply Exists.intro
  refine ⟨fun W hW => ?_, hK _ ?_⟩
  · (try go_simp)
    exact rfl
  clear hK K
  refine HQN.go ?_
  intro W hW
  go_wp2
  go_ret
  exact ⟨rfl, below_trans HB0.out hW⟩
set_option maxHeartbeats 4000000 in
theorem rtext_any (s : Int × Int) (w : World) (h1 : 0 ≤ s.1 ∧ s.1 ≤ 9223372036854775807) (h2 : 0 ≤ s.2 ∧ s.2 ≤ 9223372036854775807) :
    Calls Tryz.prog 21 #[.agg #[.int .i64 s.1, .int .i64 s.2]] w fun e w' => e = .returned (.string (shT s)) ∧ Below w.heap.size w w' := by
  obtain ⟨x, y⟩ := s
  simp only at h1 h2 ⊢
  obtain ⟨X, rfl⟩ : ∃ X : Nat, x = X := ⟨x.toNat, by omega⟩
  obtain ⟨Y, rfl⟩ : ∃ Y : Nat, y = Y := ⟨y.toNat, by omega⟩
  have hsh : shT ((X : Int), (Y : Int)) = dec X ++ ⟨#[32]⟩ ++ dec Y := by
    unfold shT bSp
    rw [Int.toNat_natCast, Int.toNat_natCast]
  rw [hsh]
  obtain ⟨w0, hw0⟩ : ∃ w0, w.alloc (.cells #[.int .i64 (X : Int), .int .i64 (Y : Int)] 25) = w0 := ⟨_, rfl⟩
  have HB0 : Hid (Below w.heap.size w w0) := Lib.hid (by rw [← hw0]; exact below_alloc (Below.refl _ _) _)
  have HK : Hid (∀ W, Below w0.heap.size w0 W → W.cell? ⟨w.heap.size, 0, none⟩ = some (.int .i64 (X : Int)) ∧ W.cell? ⟨w.heap.size, 1, none⟩ = some (.int .i64 (Y : Int))) := Lib.hid (fun W hW => by
    have hb : Blk w0 w.heap.size 25 #[.int .i64 (X : Int), .int .i64 (Y : Int)] := by rw [← hw0]; exact Blk.new w _ _ _ rfl
    exact ⟨kept_cell hW (hb.of_cell rfl), kept_cell hW (hb.of_cell rfl)⟩)
  have HD : Hid (∀ (n : Nat) (W : World), n ≤ 9223372036854775807 → Below w.heap.size w W → Calls Tryz.prog 44 #[.int .i64 (n : Int)] W fun e w' => e = .returned (.string (dec n)) ∧ Below W.heap.size W w') := Lib.hid (fun n W h hW => (rdecimal n h W).mono fun _ _ ⟨he, hw⟩ => ⟨he, hw ▸ Below.refl _ _⟩)
  have HDX := Lib.hid (fun W (hW : Below w0.heap.size w0 W) => (HD.out X W (by omega) (below_trans HB0.out hW)).mono fun _ _ ⟨he, hb⟩ => (⟨he, below_trans hW hb⟩ : _ ∧ Below w0.heap.size w0 _))
  have HDY := Lib.hid (fun W (hW : Below w0.heap.size w0 W) => (HD.out Y W (by omega) (below_trans HB0.out hW)).mono fun _ _ ⟨he, hb⟩ => (⟨he, below_trans hW hb⟩ : _ ∧ Below w0.heap.size w0 _))
  have z1 := dec_size X (by omega)
  have z2 := dec_size Y (by omega)
  have HW0 := Lib.hid hw0
  clear hw0 h1 h2 hsh HD
  generalize dec X = dx at *
  generalize dec Y = dy at *
  have s1 : ¬ 9223372036854775807 < dx.size + 1 := by omega
  have s2 : ¬ 9223372036854775807 < (dx ++ ⟨#[32]⟩ : ByteArray).size + dy.size := by
    rw [ByteArray.size_append]
    have : (⟨#[32]⟩ : ByteArray).size = 1 := rfl
    omega
  have s3 : ¬ 9223372036854775807 < dx.size + 1 + dy.size := by omega
  go_enter Tryz.func21, Tryz.ntmps21
  go_wp2_with fail
  have hw0 := HW0.out
  rw [hw0]
  clear hw0
  refine wp_region_belowC (by kernel_rfl) (by kernel_rfl) (fun WQ HQS HQN => ?_)
  refine HQS.go (fun K hK => ?_)
  go_simp
  apply Exists.intro
  refine ⟨fun W hW => ?_, hK _ ?_⟩
  · (try go_simp)
    exact rfl
  clear hK K
  refine HQS.go (fun K hK => ?_)
  go_simp
  apply Exists.intro
  refine ⟨fun W hW => ?_, hK _ ?_⟩
  · obtain ⟨q1, q2⟩ := HK.out W hW
    have ql := lt_of_cell q1
    go_simp
    exact rfl
  clear hK K
  refine HQS.go (fun K hK => ?_)
  go_simp
  apply Exists.intro
  refine ⟨fun W hW => ?_, hK _ ?_⟩
  · exact HDX.out W hW
  clear hK K
  refine HQS.go (fun K hK => ?_)
  go_simp
  apply Exists.intro
  refine ⟨fun W hW => ?_, hK _ ?_⟩
  · (try go_simp)
    exact rfl
  clear hK K
  refine HQS.go (fun K hK => ?_)
  go_simp
  apply Exists.intro
  refine ⟨fun W hW => ?_, hK _ ?_⟩
  · (try go_simp)
    exact rfl
  clear hK K
  refine HQS.go (fun K hK => ?_)
  go_simp
  apply Exists.intro
  refine ⟨fun W hW => ?_, hK _ ?_⟩
  · obtain ⟨q1, q2⟩ := HK.out W hW
    have ql := lt_of_cell q1
    go_simp
    exact rfl
  clear hK K
  refine HQS.go (fun K hK => ?_)
  go_simp
  apply Exists.intro
  refine ⟨fun W hW => ?_, hK _ ?_⟩
  · exact HDY.out W hW
  clear hK K
  refine HQS.go (fun K hK => ?_)
  go_simp
  apply Exists.intro
  refine ⟨fun W hW => ?_, hK _ ?_⟩
  · (try go_simp)
    exact rfl
  clear hK K
  refine HQS.go (fun K hK => ?_)
  go_simp
  apply Exists.intro
  refine ⟨fun W hW => ?_, hK _ ?_⟩
  · (try go_simp)
    exact rfl
  clear hK K
  refine HQN.go ?_
  intro W hW
  go_wp2
  go_ret
  exact ⟨rfl, below_trans HB0.out hW⟩
end Go.Proofs.YtbefcipeojahfaaGreatDoor
