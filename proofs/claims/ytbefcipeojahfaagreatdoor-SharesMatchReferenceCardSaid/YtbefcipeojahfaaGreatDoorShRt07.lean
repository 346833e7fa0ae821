/- Root, Check of the program; Leaves, Check of the reference. -/
import Derived.Test.YtbefcipeojahfaaGreatDoorShTx07
import Derived.Test.YtbefcipeojahfaaGreatDoorJoin
import Derived.Test.YtbefcipeojahfaaGreatDoorTreeMC02
import Derived.Test.YtbefcipeojahfaaGreatDoorTreePl02
namespace Go.Proofs.YtbefcipeojahfaaGreatDoor
open Go.RowKit

theorem valid_nat {s : Int × Int} (h : validB s = true) : (1 ≤ s.1 ∧ s.1 ≤ 16) ∧ 0 ≤ s.2 ∧ s.2 < 2147483647 := by
  obtain ⟨h1, h2, h3⟩ := (validB_iff s).1 h
  have := (elemB_iff _).1 h3
  exact ⟨⟨h1, h2⟩, this⟩
theorem shT_sm {s : Int × Int} (h : validB s = true) : (shT s).size ≤ 200 := by
  obtain ⟨h1, h2⟩ := valid_nat h
  have := shT_size s h1.2 h2.2
  omega
theorem shLf_eq (s : Int × Int) : shLf s = dg (jb [bLeaf, shT s]) := by unfold shLf lf; rfl
theorem shLf_isD (s : Int × Int) : isD (shLf s) = true := by rw [shLf_eq]; exact isD_dg _
theorem shLf_D (l : List (Int × Int)) : allD (l.map shLf) = true := by
  unfold allD
  rw [List.all_eq_true]
  intro t ht
  obtain ⟨s, _, rfl⟩ := List.mem_map.1 ht
  exact shLf_isD s
theorem shLf_sm (l : List (Int × Int)) : sm (l.map shLf) := by
  intro s hs
  obtain ⟨t, _, rfl⟩ := List.mem_map.1 hs
  rw [shLf_eq, dg_size]; omega
set_option maxHeartbeats 8000000 in
theorem rleaves_any (A : Option Addr) (c : Nat) (l : List (Int × Int)) (w : World) (hA : Prs w A l) (hl : l.length ≤ 1000) (hv : l.all validB = true) :
    Calls Tryz.prog 18 #[.slice A l.length c] w fun e w' => ∃ v, e = .returned v ∧ w'.ownsRow w.heap.size 9 1 v l.length ((l.map shLf).map Value.string) ∧ Below w.heap.size w w' := by
  have HA := Lib.hid hA
  have HVA : Hid (∀ k s, l[k]? = some s → validB s = true) := Lib.hid (fun k s h => List.all_eq_true.1 hv s (List.mem_of_getElem? h))
  obtain ⟨ip, hj1, hy0, hy1, hy2⟩ := info_parts info_strg
  have HI := Lib.hid (And.intro hj1 (And.intro hy0 (And.intro hy1 hy2)))
  clear hj1 hy0 hy1 hy2 hA hv
  have HO : Hid (w.ownsRow w.heap.size 9 1 (.slice none 0 0) 0 []) := ⟨rfl, .inl ⟨rfl, rfl⟩⟩
  go_enter Tryz.func18, Tryz.ntmps18
  go_wp2_with fail
  go_loopw [3, 4] (fun u3 u4 wr => ∃ k : Nat, k ≤ l.length ∧ u4 = .int .i64 k ∧ Below w.heap.size w wr ∧ wr.ownsRow w.heap.size 9 1 u3 k (((l.take k).map shLf).map Value.string)) (fun _ u4 _ => l.length - (intOf u4).toNat)
  case atStart => exact ⟨0, Nat.zero_le _, rfl, Below.refl _ _, HO.out⟩
  case round =>
  obtain ⟨k, hk, rfl, hbw, how⟩ := hrel
  have HBW := Lib.hid hbw
  have HOW := Lib.hid how
  clear hbw how
  by_cases hlt : k < l.length
  · obtain ⟨s, hs⟩ := get_some l k hlt
    obtain ⟨b, off, rfl, hc1, hc2⟩ := (HA.out.below HBW.out).at_ hs
    have hcl := lt_of_cell hc1
    have hvs := HVA.out k s hs
    obtain ⟨g1, g2⟩ := valid_nat hvs
    have HTX := Lib.hid (rtext_any s wr ⟨by omega, by omega⟩ ⟨by omega, by omega⟩)
    have HLF := Lib.hid (fun W => rleaf_any (shT s) (shT_sm hvs) W)
    have HS := Lib.hid hs
    clear hs hvs
    obtain ⟨y, hy⟩ : ∃ y, shLf s = y := ⟨_, rfl⟩
    have HY := Lib.hid hy
    unfold shLf at hy
    rw [hy] at HLF
    clear hy
    generalize shT s = ts at *
    go_wp2_with fail
    refine HTX.out.mono ?_
    rintro e w1 ⟨rfl, hb1⟩
    have HB1 := Lib.hid (below_trans HBW.out hb1)
    have HO1 := Lib.hid (row_below HOW.out hb1)
    clear hb1
    go_wp2_with fail
    refine (HLF.out w1).mono ?_
    rintro e w2 ⟨rfl, hb2⟩
    have HB2 := Lib.hid (below_trans HB1.out hb2)
    have HO2 : Hid ((w2.alloc (.cells #[.string y] 9)).ownsRow w.heap.size 9 1 u3 k (((l.take k).map shLf).map Value.string)) := Lib.hid (row_below (row_below HO1.out hb2) (below_alloc (Below.refl _ _) _))
    clear hb2
    go_wp2_with (at_builtin; refine wpList_app _ rfl (.tmp 11) (.tmp 18) 26 26 rfl w.heap.size 9 9 ip _ 1 16 Tryz.underlying26 Tryz.underlying26 HI.out.1 HI.out.2.1 HI.out.2.2.1 HI.out.2.2.2 rfl (by omega) u3 k _ rfl HO2.out (some ⟨w2.heap.size, 0, none⟩) 1 1 [.string y] rfl (Rd_new w2 #[.string y] _ 1 1 _ rfl rfl) (by simp [Value.oneCell']) (by simp only [maxLen]; omega) (by omega) (by have := HB2.out.size; simp; omega) ?_)
    intro v4 w4 hown4 hg4
    have HB4 : Hid (Below w.heap.size w w4) := Lib.hid ((below_alloc HB2.out _).grown hg4 (by have := HB2.out.size; simp; omega) (fun j hj => (HO2.out.lt j hj).1))
    have HO4 := Lib.hid hown4
    clear hown4 hg4
    go_wp2
    go_roundw
    case rel => exact ⟨k + 1, by omega, by go_num, HB4.out, by rw [take_snoc _ _ _ HS.out]; simpa [HY.out] using HO4.out⟩
    case measure => simp [intOf]; omega
  · obtain rfl : k = l.length := by omega
    rw [List.take_of_length_le (Nat.le_refl _)] at HOW
    go_wp2
    go_ret
    exact ⟨_, rfl, HOW.out, HBW.out⟩
set_option maxHeartbeats 8000000 in
theorem sroot_any (A : Option Addr) (c : Nat) (l : List (Int × Int)) (w : World) (hA : Prs w A l) (h1 : 1 ≤ l.length) (h16 : l.length ≤ 16) (hv : l.all validB = true) (hT : Tabs w) :
    Calls Tryz.prog 11 #[.slice A l.length c] w fun e w' => e = .returned (.tuple #[.string (rt (l.map shLf)), .int .i64 0]) ∧ Below w.heap.size w w' := by
  have HA := Lib.hid hA
  have HT : Hid (∀ W, Below w.heap.size w W → Tabs W) := Lib.hid (fun W hW => hT.below hW)
  have HVA : Hid (∀ k s, l[k]? = some s → validB s = true) := Lib.hid (fun k s h => List.all_eq_true.1 hv s (List.mem_of_getElem? h))
  obtain ⟨ip, hj1, hy0, hy1, hy2⟩ := info_parts info_strg
  have HI := Lib.hid (And.intro hj1 (And.intro hy0 (And.intro hy1 hy2)))
  clear hj1 hy0 hy1 hy2 hA hv hT
  have HO : Hid (w.ownsRow w.heap.size 9 1 (.slice none 0 0) 0 []) := ⟨rfl, .inl ⟨rfl, rfl⟩⟩
  have hd1 : decide (l.length < 1) = false := decide_eq_false (by omega)
  have hd2 : decide (16 < l.length) = false := decide_eq_false (by omega)
  go_enter Tryz.func11, Tryz.ntmps11
  go_wp2_with fail
  go_loopw [4, 6, 17] (fun u4 _ u17 wr => ∃ k : Nat, k ≤ l.length ∧ u17 = .int .i64 k ∧ Below w.heap.size w wr ∧ wr.ownsRow w.heap.size 9 1 u4 k (((l.take k).map shLf).map Value.string)) (fun _ _ u17 _ => l.length - (intOf u17).toNat)
  case atStart => exact ⟨0, Nat.zero_le _, rfl, Below.refl _ _, HO.out⟩
  case round =>
  obtain ⟨k, hk, rfl, hbw, how⟩ := hrel
  have HBW := Lib.hid hbw
  have HOW := Lib.hid how
  clear hbw how
  by_cases hlt : k < l.length
  · obtain ⟨s, hs⟩ := get_some l k hlt
    obtain ⟨b, off, rfl, hc1, hc2⟩ := (HA.out.below HBW.out).at_ hs
    have hcl := lt_of_cell hc1
    have hvs := HVA.out k s hs
    obtain ⟨g1, g2⟩ := valid_nat hvs
    have HV := Lib.hid hvs
    have HTX : Hid (∀ W, Below w.heap.size w W → Calls Tryz.prog 35 #[.agg #[.int .i64 s.1, .int .i64 s.2]] W fun e w' => e = .returned (.string (shT s)) ∧ Below W.heap.size W w') := Lib.hid (fun W hW => stext_any s W ⟨by omega, by omega⟩ ⟨by omega, by omega⟩ (HT.out W hW))
    have HLF : Hid (∀ W, Below w.heap.size w W → Calls Tryz.prog 34 #[.string (shT s)] W fun e w' => e = .returned (.string (lf (shT s))) ∧ Below W.heap.size W w') := Lib.hid (fun W hW => leaf_any (shT s) (shT_sm hvs) W (HT.out W hW))
    have HS := Lib.hid hs
    clear hs hvs
    obtain ⟨y, hy⟩ : ∃ y, shLf s = y := ⟨_, rfl⟩
    have HY := Lib.hid hy
    unfold shLf at hy
    rw [hy] at HLF
    clear hy
    generalize shT s = ts at *
    go_wp2_with fail
    refine (valid_any s.1 s.2 _).mono ?_
    rintro e w' ⟨rfl, rfl⟩
    rw [HV.out]
    go_wp2_with fail
    refine (HTX.out _ (below_alloc (below_alloc HBW.out _) _)).mono ?_
    rintro e w1 ⟨rfl, hb1⟩
    have HB1 := Lib.hid (below_trans (below_alloc (below_alloc HBW.out _) _) hb1)
    have HO1 := Lib.hid (row_below (row_below (row_below HOW.out (below_alloc (Below.refl _ _) (.cells #[.int .i64 s.1, .int .i64 s.2] 25))) (below_alloc (Below.refl _ _) (.cells #[.int .i64 s.1, .int .i64 s.2] 25))) hb1)
    clear hb1
    go_wp2_with fail
    refine (HLF.out w1 HB1.out).mono ?_
    rintro e w2 ⟨rfl, hb2⟩
    have HB2 := Lib.hid (below_trans HB1.out hb2)
    have HO2 : Hid ((w2.alloc (.cells #[.string y] 9)).ownsRow w.heap.size 9 1 u4 k (((l.take k).map shLf).map Value.string)) := Lib.hid (row_below (row_below HO1.out hb2) (below_alloc (Below.refl _ _) _))
    clear hb2
    go_wp2_with (at_builtin; refine wpList_app _ rfl (.tmp 24) (.tmp 28) 26 26 rfl w.heap.size 9 9 ip _ 1 16 Tryz.underlying26 Tryz.underlying26 HI.out.1 HI.out.2.1 HI.out.2.2.1 HI.out.2.2.2 rfl (by omega) u4 k _ rfl HO2.out (some ⟨w2.heap.size, 0, none⟩) 1 1 [.string y] rfl (Rd_new w2 #[.string y] _ 1 1 _ rfl rfl) (by simp [Value.oneCell']) (by simp only [maxLen]; omega) (by omega) (by have := HB2.out.size; simp; omega) ?_)
    intro v4 w4 hown4 hg4
    have HB4 : Hid (Below w.heap.size w w4) := Lib.hid ((below_alloc HB2.out _).grown hg4 (by have := HB2.out.size; simp; omega) (fun j hj => (HO2.out.lt j hj).1))
    have HO4 := Lib.hid hown4
    clear hown4 hg4
    go_wp2
    go_roundw
    case rel => exact ⟨k + 1, by omega, by go_num, HB4.out, by rw [take_snoc _ _ _ HS.out]; simpa [HY.out] using HO4.out⟩
    case measure => simp [intOf]; omega
  · obtain rfl : k = l.length := by omega
    rw [List.take_of_length_le (Nat.le_refl _)] at HOW
    obtain ⟨A2, c2, rfl, hc2, -, hr2⟩ := Rd.of_own HOW.out
    have hroot := root_any A2 c2 (l.map shLf) wr (by rw [List.length_map]; omega) (by rw [List.length_map]; exact hc2) (by unfold Strs; rw [List.length_map]; exact hr2) (shLf_sm l) (HT.out wr HBW.out)
    rw [shLf_D, if_pos rfl, if_pos rfl, List.length_map] at hroot
    have HR := Lib.hid hroot
    clear hr2 hroot
    go_wp2_with fail
    refine HR.out.mono ?_
    rintro e w1 ⟨rfl, hb1⟩
    have HB1 := Lib.hid (below_trans HBW.out hb1)
    clear hb1
    go_wp2
    go_ret2
    exact ⟨rfl, HB1.out⟩
def shChk (root : ByteArray) (m : Int) (s : Int × Int) (p : List ByteArray) : Bool := decide (1 ≤ m ∧ m ≤ 16 ∧ s.1 ≤ m) && validB s && chkB root m (s.1 - 1) (shLf s) p
set_option maxHeartbeats 8000000 in
theorem scheck_any (root : ByteArray) (m : Int) (s : Int × Int) (A : Option Addr) (c : Nat) (p : List ByteArray) (w : World) (hS : Strs w A p) (hbig : p.length ≤ 1000000) (hcap : p.length ≤ c) (hsm : sm p) (hT : Tabs w) :
    Calls Tryz.prog 14 #[.string root, .int .i64 m, .agg #[.int .i64 s.1, .int .i64 s.2], .slice A p.length c] w fun e w' => e = .returned (.bool (shChk root m s p)) ∧ Below w.heap.size w w' := by
  have HVF := Lib.hid (fun W => valid_any s.1 s.2 W)
  obtain ⟨w0, hw0⟩ : ∃ w0, w.alloc (.cells #[.int .i64 s.1, .int .i64 s.2] 25) = w0 := ⟨_, rfl⟩
  have HB0 : Hid (Below w.heap.size w w0) := Lib.hid (by rw [← hw0]; exact below_alloc (Below.refl _ _) _)
  have HK : Hid (∀ W, Below w0.heap.size w0 W → W.cell? ⟨w.heap.size, 0, none⟩ = some (.int .i64 s.1) ∧ W.cell? ⟨w.heap.size, 1, none⟩ = some (.int .i64 s.2)) := Lib.hid (fun W hW => by
    have hb : Blk w0 w.heap.size 25 #[.int .i64 s.1, .int .i64 s.2] := by rw [← hw0]; exact Blk.new w _ _ _ rfl
    exact ⟨kept_cell hW (hb.of_cell rfl), kept_cell hW (hb.of_cell rfl)⟩)
  have HW0 := Lib.hid hw0
  clear hw0
  have hno : ¬ (1 ≤ m ∧ m ≤ 16 ∧ s.1 ≤ m) → shChk root m s p = false := fun h => by unfold shChk; rw [decide_eq_false h]; simp
  by_cases h1 : m < 1
  · have HRES := Lib.hid (hno (by omega))
    have hd1 : decide (m < 1) = true := decide_eq_true h1
    clear hS hsm hno hT
    go_enter Tryz.func14, Tryz.ntmps14
    go_wp2
    go_ret
    exact ⟨ret_bool HRES.out.symm, below_alloc (Below.refl _ _) _⟩
  by_cases h2 : 16 < m
  · have HRES := Lib.hid (hno (by omega))
    have hd1 : decide (m < 1) = false := decide_eq_false h1
    have hd2 : decide (16 < m) = true := decide_eq_true h2
    clear hS hsm hno hT
    go_enter Tryz.func14, Tryz.ntmps14
    go_wp2
    go_ret
    exact ⟨ret_bool HRES.out.symm, below_alloc (Below.refl _ _) _⟩
  have hd1 : decide (m < 1) = false := decide_eq_false h1
  have hd2 : decide (16 < m) = false := decide_eq_false h2
  cases hv : validB s
  · have hres : shChk root m s p = false := by unfold shChk; rw [hv]; simp
    have HRES := Lib.hid hres
    have HV := Lib.hid hv
    clear hS hsm hno hres hv hT
    go_enter Tryz.func14, Tryz.ntmps14
    go_wp2_with fail
    refine (HVF.out _).mono ?_
    rintro e _ ⟨rfl, rfl⟩
    rw [HV.out]
    go_wp2
    go_ret
    exact ⟨ret_bool HRES.out.symm, below_alloc (below_alloc (Below.refl _ _) _) _⟩
  obtain ⟨g1, g2⟩ := valid_nat hv
  by_cases h3 : m < s.1
  · have HRES := Lib.hid (hno (by omega))
    have HV := Lib.hid hv
    have hd3 : decide (m < s.1) = true := decide_eq_true h3
    clear hS hsm hno hv hT
    go_enter Tryz.func14, Tryz.ntmps14
    go_wp2_with fail
    refine (HVF.out _).mono ?_
    rintro e _ ⟨rfl, rfl⟩
    rw [HV.out]
    go_wp2
    go_ret
    exact ⟨ret_bool HRES.out.symm, below_alloc (below_alloc (Below.refl _ _) _) _⟩
  have hd3 : decide (m < s.1) = false := decide_eq_false h3
  have hlfz : (lf (shT s)).size ≤ 1000000000 := by show (dg _).size ≤ _; rw [dg_size]; omega
  have hlfz2 : (lf (shT s)).size ≤ 200 := by show (dg _).size ≤ _; rw [dg_size]; omega
  have hval : shChk root m s p = chkB root m (s.1 - 1) (lf (shT s)) p := by
    unfold shChk shLf
    rw [decide_eq_true (⟨by omega, by omega, by omega⟩ : 1 ≤ m ∧ m ≤ 16 ∧ s.1 ≤ m), hv, Bool.true_and, Bool.true_and]
  have HT : Hid (∀ W, Below w.heap.size w W → Tabs W) := Lib.hid (fun W hW => hT.below hW)
  obtain ⟨w2, hw2⟩ : ∃ w2, w0.alloc (.cells #[.int .i64 s.1, .int .i64 s.2] 25) = w2 := ⟨_, rfl⟩
  have HB2 : Hid (Below w0.heap.size w0 w2) := Lib.hid (by rw [← hw2]; exact below_alloc (Below.refl _ _) _)
  have HTX : Hid (∀ W, Below w.heap.size w W → Calls Tryz.prog 35 #[.agg #[.int .i64 s.1, .int .i64 s.2]] W fun e w' => e = .returned (.string (shT s)) ∧ Below W.heap.size W w') := Lib.hid (fun W hW => stext_any s W ⟨by omega, by omega⟩ ⟨by omega, by omega⟩ (HT.out W hW))
  have HLF : Hid (∀ W, Below w.heap.size w W → Calls Tryz.prog 34 #[.string (shT s)] W fun e w' => e = .returned (.string (lf (shT s))) ∧ Below W.heap.size W w') := Lib.hid (fun W hW => leaf_any (shT s) (shT_sm hv) W (HT.out W hW))
  have HCK : Hid (∀ W, Below w.heap.size w W → Calls Tryz.prog 38 #[.string root, .int .i64 m, .int .i64 (s.1 - 1), .string (lf (shT s)), .slice A p.length c] W fun e w' => e = .returned (.bool (chkB root m (s.1 - 1) (lf (shT s)) p)) ∧ Below W.heap.size W w') := Lib.hid (fun W hW => tcheck_any root m (s.1 - 1) (lf (shT s)) A c p W (HT.out W hW) (hS.below hW) hbig hlfz (fun t ht => by have := hsm t ht; omega))
  have HV := Lib.hid hv
  have HW2 := Lib.hid hw2
  have HBA : Hid (∀ W, Below w2.heap.size w2 W → Below w.heap.size w W ∧ Below w0.heap.size w0 W) := Lib.hid (fun W hW => ⟨below_trans (below_trans HB0.out HB2.out) hW, below_trans HB2.out hW⟩)
  rw [hval]
  clear hS hsm hno hval hv hw2 hlfz hlfz2 HB2 hT
  generalize lf (shT s) = y at *
  generalize shT s = ts at *
  generalize chkB root m (s.1 - 1) y p = cv at *
  have hsub : IntKind.i64.wrap (s.1 - 1) = s.1 - 1 := by rw [IntWalk.i64_in _ (by omega)]
  go_enter Tryz.func14, Tryz.ntmps14
  go_wp2_with fail
  have hw0 := HW0.out
  rw [hw0]
  refine (HVF.out _).mono ?_
  rintro e _ ⟨rfl, rfl⟩
  rw [HV.out, HW2.out]
  obtain ⟨q1, q2⟩ := HK.out w2 (HBA.out w2 (Below.refl _ _)).2
  have ql := lt_of_cell q1
  clear hw0
  go_wp2_with fail
  clear q1 q2 ql
  refine wp_region_belowC (by kernel_rfl) (by kernel_rfl) (fun WQ HQS HQN => ?_)
  refine HQS.go (fun K hK => ?_)
  go_simp
  apply Exists.intro
  refine ⟨fun W hW => ?_, hK _ ?_⟩
  · (try go_simp)
    exact rfl
  clear hK K
  refine HQS.go (fun K hK => ?_)
  go_simp
  apply Exists.intro
  refine ⟨fun W hW => ?_, hK _ ?_⟩
  · (try go_simp)
    exact rfl
  clear hK K
  refine HQS.go (fun K hK => ?_)
  go_simp
  apply Exists.intro
  refine ⟨fun W hW => ?_, hK _ ?_⟩
  · (try go_simp)
    exact rfl
  clear hK K
  refine HQS.go (fun K hK => ?_)
  go_simp
  apply Exists.intro
  refine ⟨fun W hW => ?_, hK _ ?_⟩
  · obtain ⟨q1, q2⟩ := HK.out W (HBA.out W hW).2
    have ql := lt_of_cell q1
    go_simp
    exact rfl
  clear hK K
  refine HQS.go (fun K hK => ?_)
  go_simp
  apply Exists.intro
  refine ⟨fun W hW => ?_, hK _ ?_⟩
  · (try go_simp)
    exact rfl
  clear hK K
  refine HQS.go (fun K hK => ?_)
  go_simp
  apply Exists.intro
  refine ⟨fun W hW => ?_, hK _ ?_⟩
  · obtain ⟨q1, q2⟩ := HK.out W (HBA.out W hW).2
    have ql := lt_of_cell q1
    go_simp
    exact rfl
  clear hK K
  refine HQS.go (fun K hK => ?_)
  go_simp
  apply Exists.intro
  refine ⟨fun W hW => ?_, hK _ ?_⟩
  · exact (HTX.out W (HBA.out W hW).1).mono fun _ _ ⟨he, hb⟩ => ⟨he, below_trans hW hb⟩
  clear hK K
  refine HQS.go (fun K hK => ?_)
  go_simp
  apply Exists.intro
  refine ⟨fun W hW => ?_, hK _ ?_⟩
  · exact (HLF.out W (HBA.out W hW).1).mono fun _ _ ⟨he, hb⟩ => ⟨he, below_trans hW hb⟩
  clear hK K
  refine HQS.go (fun K hK => ?_)
  go_simp
  apply Exists.intro
  refine ⟨fun W hW => ?_, hK _ ?_⟩
  · (try go_simp)
    exact rfl
  clear hK K
  refine HQS.go (fun K hK => ?_)
  go_simp
  apply Exists.intro
  refine ⟨fun W hW => ?_, hK _ ?_⟩
  · exact (HCK.out W (HBA.out W hW).1).mono fun _ _ ⟨he, hb⟩ => ⟨he, below_trans hW hb⟩
  clear hK K
  refine HQS.go (fun K hK => ?_)
  go_simp
  apply Exists.intro
  refine ⟨fun W hW => ?_, hK _ ?_⟩
  · (try go_simp)
    exact rfl
  clear hK K
  refine HQN.go ?_
  intro W hW
  go_wp2
  go_ret
  exact ⟨rfl, (HBA.out W hW).1⟩
set_option maxHeartbeats 8000000 in
theorem r7check_any (root : ByteArray) (m : Int) (s : Int × Int) (A : Option Addr) (c : Nat) (p : List ByteArray) (w : World) (hS : Strs w A p) (hbig : p.length ≤ 1000000) (hcap : p.length ≤ c) (hsm : sm p) :
    Calls Tryz.prog 15 #[.string root, .int .i64 m, .agg #[.int .i64 s.1, .int .i64 s.2], .slice A p.length c] w fun e w' => e = .returned (.bool (shChk root m s p)) ∧ Below w.heap.size w w' := by
  have HVF := Lib.hid (fun W => rvalid_any s.1 s.2 W)
  obtain ⟨w0, hw0⟩ : ∃ w0, w.alloc (.cells #[.int .i64 s.1, .int .i64 s.2] 25) = w0 := ⟨_, rfl⟩
  have HB0 : Hid (Below w.heap.size w w0) := Lib.hid (by rw [← hw0]; exact below_alloc (Below.refl _ _) _)
  have HK : Hid (∀ W, Below w0.heap.size w0 W → W.cell? ⟨w.heap.size, 0, none⟩ = some (.int .i64 s.1) ∧ W.cell? ⟨w.heap.size, 1, none⟩ = some (.int .i64 s.2)) := Lib.hid (fun W hW => by
    have hb : Blk w0 w.heap.size 25 #[.int .i64 s.1, .int .i64 s.2] := by rw [← hw0]; exact Blk.new w _ _ _ rfl
    exact ⟨kept_cell hW (hb.of_cell rfl), kept_cell hW (hb.of_cell rfl)⟩)
  have HW0 := Lib.hid hw0
  clear hw0
  have hno : ¬ (1 ≤ m ∧ m ≤ 16 ∧ s.1 ≤ m) → shChk root m s p = false := fun h => by unfold shChk; rw [decide_eq_false h]; simp
  by_cases h1 : m < 1
  · have HRES := Lib.hid (hno (by omega))
    have hd1 : decide (m < 1) = true := decide_eq_true h1
    clear hS hsm hno
    go_enter Tryz.func15, Tryz.ntmps15
    go_wp2
    go_ret
    exact ⟨ret_bool HRES.out.symm, below_alloc (Below.refl _ _) _⟩
  by_cases h2 : 16 < m
  · have HRES := Lib.hid (hno (by omega))
    have hd1 : decide (m < 1) = false := decide_eq_false h1
    have hd2 : decide (16 < m) = true := decide_eq_true h2
    clear hS hsm hno
    go_enter Tryz.func15, Tryz.ntmps15
    go_wp2
    go_ret
    exact ⟨ret_bool HRES.out.symm, below_alloc (Below.refl _ _) _⟩
  have hd1 : decide (m < 1) = false := decide_eq_false h1
  have hd2 : decide (16 < m) = false := decide_eq_false h2
  cases hv : validB s
  · have hres : shChk root m s p = false := by unfold shChk; rw [hv]; simp
    have HRES := Lib.hid hres
    have HV := Lib.hid hv
    clear hS hsm hno hres hv
    go_enter Tryz.func15, Tryz.ntmps15
    go_wp2_with fail
    refine (HVF.out _).mono ?_
    rintro e _ ⟨rfl, rfl⟩
    rw [HV.out]
    go_wp2
    go_ret
    exact ⟨ret_bool HRES.out.symm, below_alloc (below_alloc (Below.refl _ _) _) _⟩
  obtain ⟨g1, g2⟩ := valid_nat hv
  by_cases h3 : m < s.1
  · have HRES := Lib.hid (hno (by omega))
    have HV := Lib.hid hv
    have hd3 : decide (m < s.1) = true := decide_eq_true h3
    clear hS hsm hno hv
    go_enter Tryz.func15, Tryz.ntmps15
    go_wp2_with fail
    refine (HVF.out _).mono ?_
    rintro e _ ⟨rfl, rfl⟩
    rw [HV.out]
    go_wp2
    go_ret
    exact ⟨ret_bool HRES.out.symm, below_alloc (below_alloc (Below.refl _ _) _) _⟩
  have hd3 : decide (m < s.1) = false := decide_eq_false h3
  have hlfz : (lf (shT s)).size ≤ 1000000000 := by show (dg _).size ≤ _; rw [dg_size]; omega
  have hlfz2 : (lf (shT s)).size ≤ 200 := by show (dg _).size ≤ _; rw [dg_size]; omega
  have hval : shChk root m s p = chkB root m (s.1 - 1) (lf (shT s)) p := by
    unfold shChk shLf
    rw [decide_eq_true (⟨by omega, by omega, by omega⟩ : 1 ≤ m ∧ m ≤ 16 ∧ s.1 ≤ m), hv, Bool.true_and, Bool.true_and]

  obtain ⟨w2, hw2⟩ : ∃ w2, w0.alloc (.cells #[.int .i64 s.1, .int .i64 s.2] 25) = w2 := ⟨_, rfl⟩
  have HB2 : Hid (Below w0.heap.size w0 w2) := Lib.hid (by rw [← hw2]; exact below_alloc (Below.refl _ _) _)
  have HTX : Hid (∀ W, Below w.heap.size w W → Calls Tryz.prog 21 #[.agg #[.int .i64 s.1, .int .i64 s.2]] W fun e w' => e = .returned (.string (shT s)) ∧ Below W.heap.size W w') := Lib.hid (fun W hW => rtext_any s W ⟨by omega, by omega⟩ ⟨by omega, by omega⟩)
  have HLF : Hid (∀ W, Below w.heap.size w W → Calls Tryz.prog 24 #[.string (shT s)] W fun e w' => e = .returned (.string (lf (shT s))) ∧ Below W.heap.size W w') := Lib.hid (fun W hW => rleaf_any (shT s) (shT_sm hv) W)
  have HCK : Hid (∀ W, Below w.heap.size w W → Calls Tryz.prog 39 #[.string root, .int .i64 m, .int .i64 (s.1 - 1), .string (lf (shT s)), .slice A p.length c] W fun e w' => e = .returned (.bool (chkB root m (s.1 - 1) (lf (shT s)) p)) ∧ Below W.heap.size W w') := Lib.hid (fun W hW => rcheck_any root m (s.1 - 1) (lf (shT s)) A c p W (hS.below hW) hbig hcap hlfz2 hsm)
  have HV := Lib.hid hv
  have HW2 := Lib.hid hw2
  have HBA : Hid (∀ W, Below w2.heap.size w2 W → Below w.heap.size w W ∧ Below w0.heap.size w0 W) := Lib.hid (fun W hW => ⟨below_trans (below_trans HB0.out HB2.out) hW, below_trans HB2.out hW⟩)
  rw [hval]
  clear hS hsm hno hval hv hw2 hlfz hlfz2 HB2
  generalize lf (shT s) = y at *
  generalize shT s = ts at *
  generalize chkB root m (s.1 - 1) y p = cv at *
  have hsub : IntKind.i64.wrap (s.1 - 1) = s.1 - 1 := by rw [IntWalk.i64_in _ (by omega)]
  go_enter Tryz.func15, Tryz.ntmps15
  go_wp2_with fail
  have hw0 := HW0.out
  rw [hw0]
  refine (HVF.out _).mono ?_
  rintro e _ ⟨rfl, rfl⟩
  rw [HV.out, HW2.out]
  obtain ⟨q1, q2⟩ := HK.out w2 (HBA.out w2 (Below.refl _ _)).2
  have ql := lt_of_cell q1
  clear hw0
  go_wp2_with fail
  clear q1 q2 ql
  refine wp_region_belowC (by kernel_rfl) (by kernel_rfl) (fun WQ HQS HQN => ?_)
  refine HQS.go (fun K hK => ?_)
  go_simp
  apply Exists.intro
  refine ⟨fun W hW => ?_, hK _ ?_⟩
  · (try go_simp)
    exact rfl
  clear hK K
  refine HQS.go (fun K hK => ?_)
  go_simp
  apply Exists.intro
  refine ⟨fun W hW => ?_, hK _ ?_⟩
  · (try go_simp)
    exact rfl
  clear hK K
  refine HQS.go (fun K hK => ?_)
  go_simp
  apply Exists.intro
  refine ⟨fun W hW => ?_, hK _ ?_⟩
  · (try go_simp)
    exact rfl
  clear hK K
  refine HQS.go (fun K hK => ?_)
  go_simp
  apply Exists.intro
  refine ⟨fun W hW => ?_, hK _ ?_⟩
  · obtain ⟨q1, q2⟩ := HK.out W (HBA.out W hW).2
    have ql := lt_of_cell q1
    go_simp
    exact rfl
  clear hK K
  refine HQS.go (fun K hK => ?_)
  go_simp
  apply Exists.intro
  refine ⟨fun W hW => ?_, hK _ ?_⟩
  · (try go_simp)
    exact rfl
  clear hK K
  refine HQS.go (fun K hK => ?_)
  go_simp
  apply Exists.intro
  refine ⟨fun W hW => ?_, hK _ ?_⟩
  · obtain ⟨q1, q2⟩ := HK.out W (HBA.out W hW).2
    have ql := lt_of_cell q1
    go_simp
    exact rfl
  clear hK K
  refine HQS.go (fun K hK => ?_)
  go_simp
  apply Exists.intro
  refine ⟨fun W hW => ?_, hK _ ?_⟩
  · exact (HTX.out W (HBA.out W hW).1).mono fun _ _ ⟨he, hb⟩ => ⟨he, below_trans hW hb⟩
  clear hK K
  refine HQS.go (fun K hK => ?_)
  go_simp
  apply Exists.intro
  refine ⟨fun W hW => ?_, hK _ ?_⟩
  · exact (HLF.out W (HBA.out W hW).1).mono fun _ _ ⟨he, hb⟩ => ⟨he, below_trans hW hb⟩
  clear hK K
  refine HQS.go (fun K hK => ?_)
  go_simp
  apply Exists.intro
  refine ⟨fun W hW => ?_, hK _ ?_⟩
  · (try go_simp)
    exact rfl
  clear hK K
  refine HQS.go (fun K hK => ?_)
  go_simp
  apply Exists.intro
  refine ⟨fun W hW => ?_, hK _ ?_⟩
  · exact (HCK.out W (HBA.out W hW).1).mono fun _ _ ⟨he, hb⟩ => ⟨he, below_trans hW hb⟩
  clear hK K
  refine HQS.go (fun K hK => ?_)
  go_simp
  apply Exists.intro
  refine ⟨fun W hW => ?_, hK _ ?_⟩
  · (try go_simp)
    exact rfl
  clear hK K
  refine HQN.go ?_
  intro W hW
  go_wp2
  go_ret
  exact ⟨rfl, (HBA.out W hW).1⟩
end Go.Proofs.YtbefcipeojahfaaGreatDoor
