/- Contracts of the reference's disk: New, Raw, Rot. -/
import Derived.Test.YtdbmimmfpglahaaRDiskRW
import Derived.Lib.AppendStr
import Derived.Lib.BufferRead
namespace Go.Proofs.Ytdbmimmfpglahaa
open Go.RowKit

theorem rnew_bad (n : Int) (h : ¬ (1 ≤ n ∧ n ≤ 4000)) (w : World) : Calls Try.prog 8 #[.int .i64 n] w fun e w' => e = .returned (.pointer none) ∧ w = w' := by
  have hor : n < 1 ∨ (1 ≤ n ∧ 4000 < n) := by omega
  rcases hor with h1 | ⟨h1, h2⟩
  all_goals
    go_enter Try.func8, Try.ntmps8
    go_wp2
    go_ret
    exact ⟨rfl, rfl⟩

theorem sects_new (n : Nat) : sects n (List.replicate (n * 64) 0) = List.replicate n (.string (zeros 64)) := by
  apply List.ext_getElem?
  intro i
  by_cases hi : i < n
  · rw [sects_at _ _ _ hi, List.getElem?_replicate, if_pos hi, zeros_eq]
    congr 2
    unfold secB secL
    rw [List.drop_replicate, List.take_replicate]
    have : min 64 (n * 64 - i * 64) = 64 := by omega
    rw [this]
  · rw [List.getElem?_eq_none (by rw [sects_length]; omega), List.getElem?_eq_none (by rw [List.length_replicate]; omega)]

theorem info_string' : (Try.prog.info? 9).map (fun i => (i.zero, i.size, i.bytes)) = some (some (.string ByteArray.empty), 1, 16) := by kernel_rfl

set_option maxHeartbeats 8000000 in
theorem rnew_any (n : Nat) (h1 : 1 ≤ n) (h2 : n ≤ 4000) (w : World) : Calls Try.prog 8 #[.int .i64 n] w fun e w' => ∃ d F, e = .returned (ptr d) ∧ RDk w' d (DS.new n) F ∧ (∀ k, k ∈ F → w.heap.size ≤ k) ∧ Below w.heap.size w w' := by
  obtain ⟨ip, hi1, hy0, hy1, hy2⟩ := info_parts info_string'
  have HI := Lib.hid (And.intro hi1 (And.intro hy0 (And.intro hy1 hy2)))
  clear hi1 hy0 hy1 hy2
  obtain ⟨w0, hw0⟩ : ∃ w0, w.alloc (.cells #[.slice none 0 0, .slice none 0 0, .bool true, .bool false, .int .i64 0, .int .i64 0, .int .i64 0] 52) = w0 := ⟨_, rfl⟩
  have HB0 : Hid (Below w.heap.size w w0) := Lib.hid (by rw [← hw0]; exact below_alloc (Below.refl _ _) _)
  have HK0 : Hid (Blk w0 w.heap.size 52 #[.slice none 0 0, .slice none 0 0, .bool true, .bool false, .int .i64 0, .int .i64 0, .int .i64 0]) := Lib.hid (by rw [← hw0]; exact Blk.new _ _ _ _ rfl)
  have HZ := Lib.hid (zero_any w0)
  have HW0 := Lib.hid hw0
  clear hw0
  go_enter Try.func8, Try.ntmps8
  go_wp2_with fail
  rw [HW0.out]
  refine HZ.out.mono ?_
  rintro e _ ⟨rfl, rfl⟩
  go_wp2_with fail
  go_loopw [5] (fun u5 wr => ∃ (k : Nat) (v : Value), k ≤ n ∧ u5 = .int .i64 k ∧ Below w.heap.size w wr ∧ Blk wr w.heap.size 52 #[v, .slice none 0 0, .bool true, .bool false, .int .i64 0, .int .i64 0, .int .i64 0] ∧ wr.ownsRow w.heap.size 9 1 v k (List.replicate k (.string (zeros 64)))) (fun u5 _ => n - (intOf u5).toNat)
  case atStart => exact ⟨0, _, Nat.zero_le _, rfl, HB0.out, HK0.out, ⟨rfl, .inl ⟨rfl, rfl⟩⟩⟩
  case round =>
    obtain ⟨k, v, hk, rfl, hb, hblk, hown⟩ := hrel
    have HB := Lib.hid hb
    have HBLK := Lib.hid hblk
    have HOWN := Lib.hid hown
    clear hb hblk hown
    by_cases hlt : k < n
    · have c0 := HBLK.out.cell 0
      have f0 := HBLK.out.frozen 0
      have hl := HBLK.out.lt
      simp only [List.getElem?_toArray, List.getElem?_cons_zero] at c0
      have HNE := Lib.hid (own_blk_ne HOWN.out HBLK.out (by decide))
      have HO2 : Hid ((wr.alloc (.cells #[.string (zeros 64)] 9)).ownsRow w.heap.size 9 1 v k (List.replicate k (.string (zeros 64)))) := own_chg HOWN.out ((Chg.refl [] wr).alloc _) (by simp)
      go_wp2_with (at_builtin; refine wpList_app _ rfl (.tmp 24) (.tmp 26) 49 49 rfl w.heap.size 9 9 ip _ 1 16 Try.underlying49 Try.underlying49 HI.out.1 HI.out.2.1 HI.out.2.2.1 HI.out.2.2.2 rfl (by omega) v k _ rfl HO2.out (some ⟨wr.heap.size, 0, none⟩) 1 1 [.string (zeros 64)] rfl (Rd_new wr #[.string (zeros 64)] _ 1 1 _ rfl rfl) (by simp [Value.oneCell']) (by simp only [maxLen]; omega) (by omega) (by have := HB.out.size; simp; omega) ?_)
      intro v6 w2 hown2 hg2
      have hB2 : Below w.heap.size w w2 := (below_alloc HB.out _).grown hg2 (by have := HB.out.size; simp; omega) (fun j hj => (HO2.out.lt j hj).1)
      rw [← List.replicate_succ'] at hown2
      obtain ⟨A6, c6, rfl, -, -, -⟩ := Rd.of_own hown2
      have hblk2 := (HBLK.out.alloc (.cells #[.string (zeros 64)] 9)).grown hg2 (Ne.symm HNE.out)
      have HB2 := Lib.hid hB2
      have HO3 := Lib.hid hown2
      have HBLK2 := Lib.hid hblk2
      have c2 := hblk2.cell 0
      have f2 := hblk2.frozen 0
      have hl2 := hblk2.lt
      simp only [List.getElem?_toArray, List.getElem?_cons_zero] at c2
      clear hB2 hown2 hg2 hblk2 c0 f0
      go_wp2
      go_roundw
      case rel =>
        refine ⟨k + 1, .slice A6 (k + 1) c6, by omega, by go_num, HB2.out.setCell (p := ⟨w.heap.size, 0, none⟩) (Nat.le_refl _) _, ?_, ?_⟩
        · have := HBLK2.out.set 0 (.slice A6 (k + 1) c6)
          simpa using this
        · exact own_chg HO3.out ((Chg.refl [w.heap.size] w2).setCell (p := ⟨w.heap.size, 0, none⟩) (.inl (by simp)) _) (fun j hj hm => by
            rw [List.mem_singleton] at hm
            subst hm
            exact own_blk_ne HO3.out HBLK2.out (by decide) hj)
      case measure => simp [intOf]; omega
    · obtain rfl : k = n := by omega
      go_wp2
      go_ret
      have hown := HOWN.out
      rcases hown.2 with ⟨rfl, h0⟩ | ⟨g, cap, cur, rfl, hg1, hg2, hg3, hg4, hg5, hg6⟩
      · omega
      · refine ⟨w.heap.size, rfoot w.heap.size g (.slice none 0 0), rfl, ⟨g, cap, .slice none 0 0, 0, 0, 0, ⟨?_, ⟨cur, hg2, (show k ≤ cur.size by simp at hg5; omega), ?_⟩, ⟨rfl, .inl ⟨rfl, rfl⟩⟩, by simp [DS.new], ⟨h1, h2, by simp [DS.new], by simp [DS.new], by simp [DS.new], by simp [DS.new]⟩⟩, rfl⟩, ?_, HB.out⟩
        · exact HBLK.out
        · have := sects_new k
          simp only [DS.new]
          rw [this]
          simpa using hg6
        · intro j hj
          simp [rfoot, Value.ownBlock] at hj
          rcases hj with rfl | rfl
          · exact Nat.le_refl _
          · exact hg1

theorem rrow_own {w : World} {B e size n : Nat} {v : Value} {xs : List Value} (h : w.ownsRow B e size v n xs) : ∀ k, v.ownBlock = some k → B ≤ k := fun k hk => (h.lt k hk).1
theorem rconv_row (w : World) (B n : Nat) (v : Value) (l : List UInt8) (h : w.ownsRow B 5 1 v n (Go.Lib.byteCells l)) :
    (convert 44 9 v).run Try.prog w = .ok (.string ⟨l.toArray⟩) w := by
  have hn : l.length = n := by have := h.1; rw [Go.Lib.byteCells_length] at this; omega
  rcases h.2 with ⟨rfl, h0⟩ | ⟨g, cap, cur, rfl, hg, hgg, h1, h2, h3, h4⟩
  · have hl : l = [] := List.eq_nil_of_length_eq_zero (by omega)
    subst hl
    exact Go.Lib.run_convert_nil_bytes w _ _ _ _ Try.underlying44 Try.underlying5 Try.underlying9
  · have := run_convert_bytes_back (P := Try.prog) w 44 9 5 ⟨g, 0, none⟩ cap l Try.underlying44 Try.underlying5 Try.underlying9 (Go.Lib.bytes_of_row hgg (by rw [hn]; first | exact h4 | simpa using h4))
    rw [hn] at this
    exact this
theorem take_sec (st : List UInt8) (n k : Nat) (h : st.length = n * 64) (hk : k < n) : st.take ((k + 1) * 64) = st.take (k * 64) ++ (secB st k).data.toList := by
  rw [Nat.succ_mul, List.take_add]
  rfl

set_option maxRecDepth 100000 in
set_option maxHeartbeats 8000000 in
theorem rraw_any (d : Nat) (S : DS) (F : List Nat) (w : World) (h : RDk w d S F) :
    Calls Try.prog 29 #[ptr d] w fun e w' => e = .returned (.string S.raw) ∧ Below w.heap.size w w' := by
  obtain ⟨sb, c, qv, x, y, z, hk, -⟩ := h
  have HK := Lib.hid hk
  have c0 := hk.c0
  have g1 := hk.good.n1
  have g40 := hk.good.n4000
  have gl := hk.good.len
  have hl := hk.head.lt
  clear hk
  obtain ⟨i0, hi, hz0, hz1, hz2⟩ := info_parts info_u8'
  have HI := Lib.hid (And.intro hi (And.intro hz0 (And.intro hz1 hz2)))
  clear hi hz0 hz1 hz2
  have hraw : S.raw = ⟨(S.st.take (S.n * 64)).toArray⟩ := by rw [List.take_of_length_le (by omega)]; rfl
  rw [hraw]
  clear hraw
  obtain ⟨n, hn⟩ : ∃ n, S.n = n := ⟨_, rfl⟩
  have HN := Lib.hid hn
  rw [hn] at c0 g1 g40 gl ⊢
  clear hn
  unfold ptr
  go_enter Try.func29, Try.ntmps29
  go_wp2_with (at_make; refine wpList_make_own _ rfl _ _ 44 rfl w.heap.size 5 i0 (.int .u8 0) 1 Try.underlying44 HI.out.1 HI.out.2.1 HI.out.2.2.1 .i64 .i64 _ (n * 64) rfl rfl (by omega) (by rw [HI.out.2.2.2]; omega) (by unfold maxLen; omega) (Nat.le_refl _) ?_)
  intro w1 hown hgrow
  have HB1 : Hid (Below w.heap.size w w1) := Lib.hid ((Below.refl _ w).grown hgrow (Nat.le_refl _) (fun j hj => by cases hj))
  have HO1 := Lib.hid hown
  clear hown hgrow
  go_wp2_with fail
  go_loopw [3, 4] (fun u3 u4 wr => ∃ k : Nat, k ≤ n ∧ u4 = .int .i64 k ∧ wr.ownsRow w.heap.size 5 1 u3 (k * 64) (Go.Lib.byteCells (S.st.take (k * 64))) ∧ Below w.heap.size w wr) (fun _ u4 _ => n - (intOf u4).toNat)
  case atStart => exact ⟨0, Nat.zero_le _, rfl, by simpa [Go.Lib.byteCells] using HO1.out, HB1.out⟩
  case round =>
  obtain ⟨k, hk, rfl, hown, hbel⟩ := hrel
  have HOWN := Lib.hid hown
  have HBE := Lib.hid hbel
  clear hown hbel
  have c0' := kept_cell HBE.out c0
  have hl' := lt_of_cell c0'
  by_cases hlt : k < n
  · have c3 := kept_cell HBE.out (HK.out.stab.cell k (by rw [HN.out]; exact hlt))
    have hsz := secB_size n S.st k gl hlt
    have hts := take_sec S.st n k gl hlt
    obtain ⟨s, hs⟩ : ∃ s, secB S.st k = s := ⟨_, rfl⟩
    rw [hs] at c3 hsz hts
    have HTS := Lib.hid hts
    have HBS : Hid (w.heap.size ≤ wr.heap.size) := Lib.hid HBE.out.size
    clear hs hts
    go_wp2_with (at_builtin; refine Go.Lib.wpList_append_own_string _ rfl _ _ 44 9 rfl w.heap.size 5 i0 Try.underlying44 Try.underlying9 HI.out.1 HI.out.2.1 HI.out.2.2.1 HI.out.2.2.2 _ _ _ rfl HOWN.out s rfl (by unfold maxLen; omega) (by omega) HBS.out ?_)
    intro v1 w2 hown1 hgrow1 _
    have HB2 := Lib.hid (HBE.out.grown hgrow1 HBS.out (rrow_own HOWN.out))
    have hfin : w2.ownsRow w.heap.size 5 1 v1 ((k + 1) * 64) (Go.Lib.byteCells (S.st.take ((k + 1) * 64))) := by
      have e1 : (k + 1) * 64 = k * 64 + s.size := by rw [hsz]; omega
      have e2 : Go.Lib.byteCells (S.st.take ((k + 1) * 64)) = Go.Lib.byteCells (S.st.take (k * 64)) ++ Go.Lib.strCells s := by
        rw [HTS.out]; simp [Go.Lib.byteCells, Go.Lib.strCells]
      rw [e2, e1, hsz]; exact hown1
    have HF := Lib.hid hfin
    clear hown1 hgrow1 hfin
    go_wp2_with fail
    go_roundw
    case rel => exact ⟨k + 1, by omega, by go_num, HF.out, HB2.out⟩
    case measure => simp [intOf]; omega
  · obtain rfl : k = n := by omega
    have hcv := rconv_row _ _ _ _ _ HOWN.out
    go_wp2
    go_ret
    exact ⟨rfl, HBE.out⟩

set_option maxRecDepth 100000 in
set_option maxHeartbeats 8000000 in
theorem rrot_any (d : Nat) (S : DS) (F : List Nat) (s a m : Int) (w : World) (h : RDk w d S F) :
    Calls Try.prog 28 #[ptr d, .int .i64 s, .int .i64 a, .int .i64 m] w fun e w' => e = .returned (.tuple #[]) ∧ RDkTo w w' d F (S.rot s a m) := by
  have HD := Lib.hid h
  obtain ⟨sb, c, qv, x0, y0, z0, hk, rfl⟩ := h
  have HK := Lib.hid hk
  have e0 := hk.c0
  have hl := hk.head.lt
  have g40 := hk.good.n4000
  have gl := hk.good.len
  clear hk
  by_cases hc : 0 ≤ s ∧ s < S.n ∧ 0 ≤ a ∧ a < 64 ∧ 0 < m ∧ m < 256
  · have hw : S.rot s a m = { S with st := S.st.modify (s.toNat * 64 + a.toNat) (fun b => b ^^^ UInt8.ofNat m.toNat) } := by simp [DS.rot, hc]
    rw [hw]
    obtain ⟨c1, c2, c3, c4, c5, c6⟩ := hc
    obtain ⟨k, rfl⟩ : ∃ k : Nat, s = k := ⟨s.toNat, by omega⟩
    obtain ⟨i, rfl⟩ : ∃ i : Nat, a = i := ⟨a.toNat, by omega⟩
    obtain ⟨x, rfl⟩ : ∃ x : Nat, m = x := ⟨m.toNat, by omega⟩
    have hkn : k < S.n := by omega
    have hi64 : i < 64 := by omega
    simp only [Int.toNat_natCast]
    obtain ⟨b, hb⟩ := get_some S.st (k * 64 + i) (by rw [gl]; omega)
    have hrot := sects_rot S.n S.st k i (fun b => b ^^^ UInt8.ofNat x) b gl hkn hi64 hb
    have e1 := HK.out.stab.cell k hkn
    have ef := HK.out.stab.frozen k
    have el := HK.out.stab.lt
    have hsz := secB_size S.n S.st k gl hkn
    have hbv : ∀ h : i < (secB S.st k).size, (secB S.st k)[i] = b := fun h => by
      have h2 : (secL S.st k)[i]? = some b := by rw [secL_get, if_pos hi64, hb]
      obtain ⟨h3, h4⟩ := List.getElem?_eq_some_iff.1 h2
      exact h4
    generalize secB S.st k = v at e1 hsz hrot hbv
    have hbx : bits .xor .u8 (b.toNat : Int) (x : Int) = ((b ^^^ UInt8.ofNat x).toNat : Int) := by
      rw [bits_xor_u8 _ _ (by have := b.toNat_lt; omega) (by omega), UInt8.toNat_xor, UInt8.toNat_ofNat']
      congr 2
      omega
    have HROT := Lib.hid hrot
    have HBX := Lib.hid hbx
    have HBV := Lib.hid hbv
    clear hrot hbx hb hbv hw
    unfold ptr
    go_enter Try.func28, Try.ntmps28
    go_wp2_with fail
    rw [HBV.out (by omega), HBX.out]
    obtain ⟨β, hβ⟩ : ∃ β, b ^^^ UInt8.ofNat x = β := ⟨_, rfl⟩
    rw [hβ] at HROT ⊢
    have hs1 : (i : Int) ≤ 64 := by omega
    obtain ⟨j, hj⟩ : ∃ j, i + 1 = j := ⟨_, rfl⟩
    rw [hj] at HROT
    have hwr : IntKind.i64.wrap ((i : Int) + 1) = (j : Int) := by rw [IntWalk.i64_in _ (by omega)]; omega
    have hs2 : (j : Int) ≤ 64 := by omega
    have q1 : ¬ 9223372036854775807 < min i 64 + 1 := by omega
    have q2 : ¬ 9223372036854775807 < min i 64 + 1 + (64 - j) := by omega
    clear hj
    have hcv := conv_win ((w.alloc (.cells #[.int .u8 β.toNat] 5)).drew) w.heap.size [β] (Blk.new w _ _ _ rfl).drew 0 1 1 (by simp)
    simp only [List.drop_zero, List.take_succ_cons, List.take_zero] at hcv
    refine wp_region_still_tail 16 (by kernel_rfl) (by kernel_rfl) ?_
    simp only [List.take_succ_cons, List.take_zero, List.drop_succ_cons, List.drop_zero]
    change wpStill _ _ (World.drew _) _ _ _
    repeat still_step
    refine wpStill_nil ?_
    change wpList _ _ _ _ _ (World.drew _)
    go_wp2
    go_end0
    have hd : sb ∈ rfoot d sb qv := by simp [rfoot]
    obtain ⟨a1, a2, a3⟩ := HK.out.apart
    have hst := ((HK.out.stab.set hkn HROT.out).alloc (.cells #[.int .u8 β.toNat] 5)).drew
    have hc1 := (((Chg.refl [sb] w).setCell (p := ⟨sb, k, none⟩) (.inl (by simp)) (.string (v.extract 0 i ++ ⟨#[β]⟩ ++ v.extract j 64))).alloc (.cells #[.int .u8 β.toNat] 5)).drew
    have hc2 := (((Chg.refl (rfoot d sb qv) w).setCell (p := ⟨sb, k, none⟩) (.inl hd) (.string (v.extract 0 i ++ ⟨#[β]⟩ ++ v.extract j 64))).alloc (.cells #[.int .u8 β.toNat] 5)).drew
    have g1 := HK.out.head.chg hc1 (by simpa using a1)
    have g2 := own_chg HK.out.queue hc1 (fun k hk => by rintro hm; rw [List.mem_singleton] at hm; subst hm; exact a3 hk)
    exact ⟨rfl, RDkTo.same (c := c) (x' := x0) (y' := y0) (z' := z0) ⟨g1, hst, g2, HK.out.armed, ⟨HK.out.good.n1, HK.out.good.n4000, by simpa using HK.out.good.len, HK.out.good.inq, HK.out.good.few, HK.out.good.arm0⟩⟩ hc2⟩
  · have hw : S.rot s a m = S := by simp only [DS.rot, hc, if_false]
    rw [hw]
    have hor : s < 0 ∨ (0 ≤ s ∧ (S.n : Int) ≤ s) ∨ (0 ≤ s ∧ s < S.n ∧ a < 0) ∨ (0 ≤ s ∧ s < S.n ∧ 0 ≤ a ∧ 64 ≤ a) ∨ (0 ≤ s ∧ s < S.n ∧ 0 ≤ a ∧ a < 64 ∧ m < 1) ∨ (0 ≤ s ∧ s < S.n ∧ 0 ≤ a ∧ a < 64 ∧ 1 ≤ m ∧ 255 < m) := by omega
    clear hc
    unfold ptr
    rcases hor with h1 | ⟨h1, h2⟩ | ⟨h1, h2, h3⟩ | ⟨h1, h2, h3, h4⟩ | ⟨h1, h2, h3, h4, h5⟩ | ⟨h1, h2, h3, h4, h5, h6⟩
    all_goals
      go_enter Try.func28, Try.ntmps28
      go_wp2
      refine bodyPost_ret (results_none rfl _ _ _) rfl ?_
      exact ⟨rfl, RDkTo.of_chg HD.out (Below.refl _ _)⟩

end Go.Proofs.Ytdbmimmfpglahaa
