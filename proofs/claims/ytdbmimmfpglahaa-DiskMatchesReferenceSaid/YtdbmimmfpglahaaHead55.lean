/- The examples of observatorylaw55.head. -/
import Derived.Test.YtdbmimmfpglahaaOwn55
namespace Go.Proofs.Ytdbmimmfpglahaa
open Go.RowKit

def fa : ByteArray := AC.txt ⟨0, 0, 0, ⟨#[97]⟩, false, 0⟩
def fb : ByteArray := AC.txt ⟨0, 0, 0, ⟨#[98]⟩, false, 0⟩
def f0 : ByteArray := AC.txt ⟨0, 0, 0, ⟨#[0]⟩, false, 0⟩
def abf : ByteArray := ⟨#[97, 98]⟩ ++ fa.extract 2 64
def bbf : ByteArray := ⟨#[98, 98]⟩ ++ fa.extract 2 64

theorem fill_a (w : World) : Calls Try.prog 14 #[.string { data := #[97] }] w fun e w' => e = .returned (.string fa) ∧ Below w.heap.size w w' := fill_any ⟨#[97]⟩ w (by decide)
theorem fill_b (w : World) : Calls Try.prog 14 #[.string { data := #[98] }] w fun e w' => e = .returned (.string fb) ∧ Below w.heap.size w w' := fill_any ⟨#[98]⟩ w (by decide)
theorem fill_0 (w : World) : Calls Try.prog 14 #[.string { data := #[0] }] w fun e w' => e = .returned (.string f0) ∧ Below w.heap.size w w' := fill_any ⟨#[0]⟩ w (by decide)

def s0 : DS := DS.new 2
def s1 : DS := (s0.write 0 fa).2
def s2 : DS := s1.sync.2
def s3 : DS := (s2.write 0 fb).2
def s4 : DS := s3.fail 0 2
def s5 : DS := s4.sync.2
def s6 : DS := s5.start
def s7 : DS := (s6.write 1 ⟨#[115, 104, 111, 114, 116]⟩).2
def x0 : DS := DS.new 1
def x1 : DS := (x0.write 0 fa).2
def x2 : DS := x1.sync.2
def x3 : DS := x2.rot 0 1 3
def x4 : DS := (x3.write 0 fb).2
def k0 : DS := DS.new 1
def k1 : DS := k0.setArm 1 1 2
def k2 : DS := (k1.write 0 fa).2
def k3 : DS := (k2.write 0 fb).2
def k4 : DS := k3.start
theorem head_h_fa : fa.size = 64 := by kernel_rfl
theorem head_h1 : (s0.write 0 fa).1 = 0 := by kernel_rfl
theorem head_h2 : s1.sync.1 = 0 := by kernel_rfl
theorem head_h3 : (s2.write 0 fb).1 = 0 := by kernel_rfl
theorem head_h3r : s3.read 0 = (fb, 0) := by kernel_rfl
theorem head_h5 : s4.sync.1 = 28 := by kernel_rfl
theorem head_h6r : s6.read 0 = (bbf, 0) := by kernel_rfl
theorem head_h6q : s6.read 1 = (f0, 0) := by kernel_rfl
theorem head_h6z : s6.read 2 = (ByteArray.empty, 1) := by kernel_rfl
theorem head_h7 : (s6.write 1 ⟨#[115, 104, 111, 114, 116]⟩).1 = 1 := by kernel_rfl
theorem head_hx1 : (x0.write 0 fa).1 = 0 := by kernel_rfl
theorem head_hx3 : x3.read 0 = (abf, 0) := by kernel_rfl
theorem head_hx4 : x4.raw = abf := by kernel_rfl
theorem head_hk2 : (k1.write 0 fa).1 = 0 := by kernel_rfl
theorem head_hk3 : (k2.write 0 fb).1 = 28 := by kernel_rfl
theorem head_hk4 : k4.read 0 = (bbf, 0) := by kernel_rfl
theorem head_qs0 : s0.q.length < 1000000 := Nat.lt_of_le_of_lt (Nat.le_of_eq (by kernel_rfl : s0.q.length = s0.q.length)) (by decide +kernel)
theorem head_qs2 : s2.q.length < 1000000 := Nat.lt_of_le_of_lt (Nat.le_of_eq (by kernel_rfl : s2.q.length = s2.q.length)) (by decide +kernel)
theorem head_qs6 : s6.q.length < 1000000 := Nat.lt_of_le_of_lt (Nat.le_of_eq (by kernel_rfl : s6.q.length = s6.q.length)) (by decide +kernel)
theorem head_qx0 : x0.q.length < 1000000 := Nat.lt_of_le_of_lt (Nat.le_of_eq (by kernel_rfl : x0.q.length = x0.q.length)) (by decide +kernel)
theorem head_qx3 : x3.q.length < 1000000 := Nat.lt_of_le_of_lt (Nat.le_of_eq (by kernel_rfl : x3.q.length = x3.q.length)) (by decide +kernel)
theorem head_qk1 : k1.q.length < 1000000 := Nat.lt_of_le_of_lt (Nat.le_of_eq (by kernel_rfl : k1.q.length = k1.q.length)) (by decide +kernel)
theorem head_qk2 : k2.q.length < 1000000 := Nat.lt_of_le_of_lt (Nat.le_of_eq (by kernel_rfl : k2.q.length = k2.q.length)) (by decide +kernel)

theorem head_ab : (abf.toList == (({ data := #[97, 98] } : ByteArray) ++ fa.extract 2 fa.size).toList) = true := by
  rw [head_h_fa, beq_bytes]; simp [abf]
theorem head_bb : (bbf.toList == (({ data := #[98, 98] } : ByteArray) ++ fa.extract 2 fa.size).toList) = true := by
  rw [head_h_fa, beq_bytes]; simp [bbf]

set_option maxHeartbeats 16000000 in
set_option maxRecDepth 100000 in
theorem head_any (w : World) : Calls Try.prog 4 #[] w fun e w' => e = .returned (.bool true) ∧ Below w.heap.size w w' := by
  have e1 := head_ab
  have e2 := head_bb
  go_enter Try.func4, Try.ntmps4
  go_wp2_with fail
  refine (new_own w 2 (by decide) (by decide) _ (Below.refl _ _)).mono ?_
  rintro e w1 ⟨d1, rfl, ho⟩
  have H1 := Lib.hid ho
  clear ho
  go_wp2_with fail
  refine (fill_a _).mono ?_
  rintro e w2 ⟨rfl, hb⟩
  have H2 := Lib.hid (Own.below H1.out hb)
  clear hb
  go_wp2_with fail
  refine (write_own (S := s0) 0 fa H2.out.acc head_qs0).mono ?_
  rintro e w3 ⟨rfl, ho⟩
  have H3 := Lib.hid ho
  clear ho
  rw [head_h1]
  go_wp2_with fail
  refine (sync_own (S := s1) H3.out.acc).mono ?_
  rintro e w4 ⟨rfl, ho⟩
  have H4 := Lib.hid ho
  clear ho
  rw [head_h2]
  go_wp2_with fail
  refine (fill_b _).mono ?_
  rintro e w5 ⟨rfl, hb⟩
  have H5 := Lib.hid (Own.below H4.out hb)
  clear hb
  go_wp2_with fail
  refine (write_own (S := s2) 0 fb H5.out.acc head_qs2).mono ?_
  rintro e w6 ⟨rfl, ho⟩
  have H6 := Lib.hid ho
  clear ho
  rw [head_h3]
  go_wp2_with fail
  refine (read_own (S := s3) 0 H6.out.acc).mono ?_
  rintro e w7 ⟨rfl, ho⟩
  have H7 := Lib.hid ho
  clear ho
  rw [head_h3r]
  go_wp2_with fail
  refine (fail_own (S := s3) 0 2 H7.out.acc).mono ?_
  rintro e w8 ⟨rfl, ho⟩
  have H8 := Lib.hid ho
  clear ho
  go_wp2_with fail
  refine (sync_own (S := s4) H8.out.acc).mono ?_
  rintro e w9 ⟨rfl, ho⟩
  have H9 := Lib.hid ho
  clear ho
  rw [head_h5]
  go_wp2_with fail
  refine (start_own (S := s5) H9.out.acc).mono ?_
  rintro e w10 ⟨rfl, ho⟩
  have H10 := Lib.hid ho
  clear ho
  go_wp2_with fail
  refine (read_own (S := s6) 0 H10.out.acc).mono ?_
  rintro e w11 ⟨rfl, ho⟩
  have H11 := Lib.hid ho
  clear ho
  rw [head_h6r]
  go_wp2_with fail
  refine (read_own (S := s6) 1 H11.out.acc).mono ?_
  rintro e w12 ⟨rfl, ho⟩
  have H12 := Lib.hid ho
  clear ho
  rw [head_h6q]
  go_wp2_with fail
  refine (read_own (S := s6) 2 H12.out.acc).mono ?_
  rintro e w13 ⟨rfl, ho⟩
  have H13 := Lib.hid ho
  clear ho
  rw [head_h6z]
  go_wp2_with fail
  refine (write_own (S := s6) 1 ⟨#[115, 104, 111, 114, 116]⟩ H13.out.acc head_qs6).mono ?_
  rintro e w14 ⟨rfl, ho⟩
  have H14 := Lib.hid ho
  clear ho
  rw [head_h7]
  go_wp2_with fail
  refine (fail_nil 1 1 _).mono ?_
  rintro e w15 ⟨rfl, rfl⟩
  go_wp2_with fail
  refine (start_nil _).mono ?_
  rintro e w15 ⟨rfl, rfl⟩
  go_wp2_with fail
  refine (arm_nil 0 1 1 _).mono ?_
  rintro e w15 ⟨rfl, rfl⟩
  go_wp2_with fail
  refine (rot_nil 0 0 1 _).mono ?_
  rintro e w15 ⟨rfl, hb⟩
  have H15 := Lib.hid (Own.below H14.out hb)
  clear hb
  go_wp2_with fail
  refine (new_own w 1 (by decide) (by decide) _ H15.out.base).mono ?_
  rintro e w16 ⟨d16, rfl, ho⟩
  have H16 := Lib.hid ho
  clear ho
  go_wp2_with fail
  refine (fill_a _).mono ?_
  rintro e w17 ⟨rfl, hb⟩
  have H17 := Lib.hid (Own.below H16.out hb)
  clear hb
  go_wp2_with fail
  refine (write_own (S := x0) 0 fa H17.out.acc head_qx0).mono ?_
  rintro e w18 ⟨rfl, ho⟩
  have H18 := Lib.hid ho
  clear ho
  rw [head_hx1]
  go_wp2_with fail
  refine (sync_own (S := x1) H18.out.acc).mono ?_
  rintro e w19 ⟨rfl, ho⟩
  have H19 := Lib.hid ho
  clear ho
  go_wp2_with fail
  refine (rot_own (S := x2) 0 1 3 H19.out.acc).mono ?_
  rintro e w20 ⟨rfl, ho⟩
  have H20 := Lib.hid ho
  clear ho
  go_wp2_with fail
  refine (read_own (S := x3) 0 H20.out.acc).mono ?_
  rintro e w21 ⟨rfl, ho⟩
  have H21 := Lib.hid ho
  clear ho
  rw [head_hx3]
  go_wp2_with fail
  refine (fill_b _).mono ?_
  rintro e w22 ⟨rfl, hb⟩
  have H22 := Lib.hid (Own.below H21.out hb)
  clear hb
  go_wp2_with fail
  refine (write_own (S := x3) 0 fb H22.out.acc head_qx3).mono ?_
  rintro e w23 ⟨rfl, ho⟩
  have H23 := Lib.hid ho
  clear ho
  go_wp2_with fail
  refine (fill_a _).mono ?_
  rintro e w24 ⟨rfl, hb⟩
  have H24 := Lib.hid (Own.below H23.out hb)
  clear hb
  go_wp2_with fail
  refine (raw_own (S := x4) H24.out.acc).mono ?_
  rintro e w25 ⟨rfl, rfl⟩
  rw [head_hx4]
  go_wp2_with fail
  refine (raw_nil _).mono ?_
  rintro e w25 ⟨rfl, rfl⟩
  go_wp2_with fail
  refine (new_own w 1 (by decide) (by decide) _ H24.out.base).mono ?_
  rintro e w25 ⟨d25, rfl, ho⟩
  have H25 := Lib.hid ho
  clear ho
  go_wp2_with fail
  refine (arm_own (S := k0) 1 1 2 H25.out.acc (by decide)).mono ?_
  rintro e w26 ⟨rfl, ho⟩
  have H26 := Lib.hid ho
  clear ho
  go_wp2_with fail
  refine (fill_a _).mono ?_
  rintro e w27 ⟨rfl, hb⟩
  have H27 := Lib.hid (Own.below H26.out hb)
  clear hb
  go_wp2_with fail
  refine (write_own (S := k1) 0 fa H27.out.acc head_qk1).mono ?_
  rintro e w28 ⟨rfl, ho⟩
  have H28 := Lib.hid ho
  clear ho
  rw [head_hk2]
  go_wp2_with fail
  refine (fill_b _).mono ?_
  rintro e w29 ⟨rfl, hb⟩
  have H29 := Lib.hid (Own.below H28.out hb)
  clear hb
  go_wp2_with fail
  refine (write_own (S := k2) 0 fb H29.out.acc head_qk2).mono ?_
  rintro e w30 ⟨rfl, ho⟩
  have H30 := Lib.hid ho
  clear ho
  rw [head_hk3]
  go_wp2_with fail
  refine (start_own (S := k3) H30.out.acc).mono ?_
  rintro e w31 ⟨rfl, ho⟩
  have H31 := Lib.hid ho
  clear ho
  go_wp2_with fail
  refine (read_own (S := k4) 0 H31.out.acc).mono ?_
  rintro e w32 ⟨rfl, ho⟩
  have H32 := Lib.hid ho
  clear ho
  rw [head_hk4]
  go_wp2_with fail
  refine (fill_a _).mono ?_
  rintro e w33 ⟨rfl, hb⟩
  have H33 := Lib.hid (Own.below H32.out hb)
  clear hb
  go_wp2_with fail
  refine (fill_b _).mono ?_
  rintro e w34 ⟨rfl, hb⟩
  have H34 := Lib.hid (Own.below H33.out hb)
  clear hb
  go_wp2_with fail
  refine (fill_a _).mono ?_
  rintro e w35 ⟨rfl, hb⟩
  have H35 := Lib.hid (Own.below H34.out hb)
  clear hb
  go_wp2_with fail
  refine (fill_0 _).mono ?_
  rintro e w36 ⟨rfl, hb⟩
  have H36 := Lib.hid (Own.below H35.out hb)
  clear hb
  go_wp2_with fail
  refine (sync_nil _).mono ?_
  rintro e w37 ⟨rfl, rfl⟩
  go_wp2_with fail
  refine (fill_a _).mono ?_
  rintro e w37 ⟨rfl, hb⟩
  have H37 := Lib.hid (Own.below H36.out hb)
  clear hb
  go_wp2_with fail
  refine (write_nil 0 fa _).mono ?_
  rintro e w38 ⟨rfl, hb⟩
  have H38 := Lib.hid (Own.below H37.out hb)
  clear hb
  go_wp2_with fail
  refine (new_bad 0 (by decide) _).mono ?_
  rintro e w39 ⟨rfl, rfl⟩
  go_wp2_with fail
  refine (new_bad 4001 (by decide) _).mono ?_
  rintro e w39 ⟨rfl, rfl⟩
  go_wp2
  go_ret
  exact ⟨rfl, H38.out.base⟩

end Go.Proofs.Ytdbmimmfpglahaa
