/- The law DiskMatchesReference: the walk. -/
import Derived.Test.YtdbmimmfpglahaaLBase55
import Derived.Test.YtdbmimmfpglahaaRWant55
namespace Go.Proofs.Ytdbmimmfpglahaa
open Go.RowKit

/-- The program's disk and the reference's, both the call's own, apart. -/
def Pair (w0 w : World) (d : Nat) (S : DS) (d2 : Nat) (S2 : DS) : Prop := ∃ F F2, Dk w d S F ∧ RDk w d2 S2 F2 ∧ (∀ k, k ∈ F → k ∉ F2) ∧ Keep w0 w [] (F ++ F2)
def RAcc (w : World) (d : Nat) (S : DS) (Q : World → DS → Prop) : Prop := ∃ F, RDk w d S F ∧ ∀ S' w', RDkTo w w' d F S' → Q w' S'

section
variable {w0 w w' : World} {d d2 : Nat} {S S2 : DS}
theorem Pair.acc (h : Pair w0 w d S d2 S2) : Acc w d S (fun w' S' => Pair w0 w' d S' d2 S2) := by
  obtain ⟨F, F2, h1, h2, h3, h4⟩ := h
  refine ⟨F, h1, fun S' w' ⟨F', k1, k2, k3⟩ => ⟨F', F2, k1, h2.chg k3 (fun k hk hm => h3 k hm hk), fun k hk hm => ?_, h4.step k3 (fun k hk => List.mem_append.2 (.inl hk)) (fun k hk => ?_)⟩⟩
  · rcases k2 k hk with h5 | h5
    · exact h3 k h5 hm
    · have := h2.lt k hm; omega
  · rcases List.mem_append.1 hk with h5 | h5
    · rcases k2 k h5 with h6 | h6
      · exact .inl (List.mem_append.2 (.inl h6))
      · exact .inr h6
    · exact .inl (List.mem_append.2 (.inr h5))
theorem Pair.acc2 (h : Pair w0 w d S d2 S2) : RAcc w d2 S2 (fun w' S' => Pair w0 w' d S d2 S') := by
  obtain ⟨F, F2, h1, h2, h3, h4⟩ := h
  refine ⟨F2, h2, fun S' w' ⟨F', k1, k2, k3⟩ => ⟨F, F', h1.chg k3 (fun k hk hm => h3 k hk hm), k1, fun k hk hm => ?_, h4.step k3 (fun k hk => List.mem_append.2 (.inr hk)) (fun k hk => ?_)⟩⟩
  · rcases k2 k hm with h5 | h5
    · exact h3 k hk h5
    · have := h1.lt k hk; omega
  · rcases List.mem_append.1 hk with h5 | h5
    · exact .inl (List.mem_append.2 (.inl h5))
    · rcases k2 k h5 with h6 | h6
      · exact .inl (List.mem_append.2 (.inr h6))
      · exact .inr h6
theorem Pair.base (h : Pair w0 w d S d2 S2) : Below w0.heap.size w0 w := by obtain ⟨F, F2, _, _, _, h2⟩ := h; exact h2.below
end

theorem rnew_own (w0 : World) (n : Nat) (h1 : 1 ≤ n) (h2 : n ≤ 4000) (w : World) (d : Nat) (S : DS) (hw : Own w0 w d S []) : Calls Try.prog 8 #[.int .i64 n] w fun e w' => ∃ d2, e = .returned (.pointer (some ⟨d2, 0, none⟩)) ∧ Pair w0 w' d S d2 (DS.new n) :=
  (rnew_any n h1 h2 w).mono fun _ w' ⟨d2, F2, he, hd, hF, hb⟩ => by
    obtain ⟨F, h3, h4⟩ := hw
    refine ⟨d2, he, F, F2, h3.chg (F2 := []) (Chg.of_below hb []) (by simp), hd, fun k hk hm => ?_, below_trans h4.below hb, fun k hk => ?_, by simp⟩
    · have := h3.lt k hk
      have := hF k hm
      omega
    · rcases List.mem_append.1 hk with h7 | h7
      · exact h4.low k h7
      · exact Nat.le_trans h4.below.size (hF k h7)
theorem want_own {w : World} {d : Nat} {S : DS} {Q : World → DS → Prop} (a : AC) (h : RAcc w d S Q) (ht : a.text.size ≤ 100) (ha : a.after ≤ 9223372036854775807) (hf : S.q.length < 1000000) :
    Calls Try.prog 10 #[.pointer (some ⟨d, 0, none⟩), a.val] w fun e w' => e = .returned (.tuple #[.string (S.act a).1.1, .int .i64 (S.act a).1.2]) ∧ Q w' (S.act a).2 := by
  obtain ⟨F, h1, h2⟩ := h
  exact (want_any d S F a w h1 ht ha hf).mono fun _ _ ⟨he, ht⟩ => ⟨he, h2 _ _ ht⟩
theorem rread_own {w : World} {d : Nat} {S : DS} {Q : World → DS → Prop} (s : Int) (h : RAcc w d S Q) :
    Calls Try.prog 12 #[.pointer (some ⟨d, 0, none⟩), .int .i64 s] w fun e w' => e = .returned (.tuple #[.string (S.read s).1, .int .i64 (S.read s).2]) ∧ Q w' S := by
  obtain ⟨F, h1, h2⟩ := h
  exact (rread_b d S F s w h1).mono fun _ _ ⟨he, ht⟩ => ⟨he, h2 _ _ (RDkTo.of_chg h1 ht)⟩

theorem new_low (w0 : World) (n : Int) (h1 : 1 ≤ n) (h2 : n ≤ 4000) (w : World) (hw : Below w0.heap.size w0 w) : Calls Try.prog 6 #[.int .i64 n] w fun e w' => ∃ d, e = .returned (.pointer (some ⟨d, 0, none⟩)) ∧ Below w0.heap.size w0 w' := by
  obtain ⟨k, rfl⟩ : ∃ k : Nat, n = k := ⟨n.toNat, by omega⟩
  exact (new_own w0 k (by omega) (by omega) w hw).mono fun _ _ ⟨d, he, ho⟩ => ⟨d, he, ho.base⟩

set_option maxRecDepth 100000 in
set_option maxHeartbeats 64000000 in
theorem ref_walk (r : UInt8) (sectors : Int) (A : Option Addr) (c : Nat) (l : List AC) (w : World) (hA : Acs w A l) (hl : l.length ≤ 9223372036854775807) (hfitl : fits l) :
    Calls Try.prog 3 #[.int .u8 r.toNat, .int .i64 sectors, .slice A l.length c] w fun e w' => e = .returned (.bool true) ∧ Below w.heap.size w w' := by
  have HAl : Hid (∀ w', Below w.heap.size w w' → Acs w' A l) := fun w' hb => hA.below hb
  clear hA
  obtain ⟨n, hn⟩ : ∃ n, nOf r = n := ⟨_, rfl⟩
  have hn1 := nOf_lo r
  have hn2 := nOf_hi r
  have hsize := size_nOf r
  rw [hn] at hn1 hn2 hsize
  have HSIZE := Lib.hid hsize
  clear hn hsize
  obtain ⟨rv, hrv⟩ : ∃ rv, r.toNat = rv := ⟨_, rfl⟩
  rw [hrv] at HSIZE ⊢
  clear hrv
  obtain ⟨vl, hv1⟩ : ∃ v, okB l = v := ⟨_, rfl⟩
  have HVl := Lib.hid hv1
  clear hv1
  go_enter Try.func3, Try.ntmps3
  go_wp2_with fail
  refine (head_any _).mono ?_
  rintro e w1 ⟨rfl, hb1⟩
  have HB1 := Lib.hid hb1
  clear hb1
  go_wp2_with fail
  have hok := ok_any A c l w1 (HAl.out w1 HB1.out) hl
  rw [HVl.out] at hok
  refine hok.mono ?_
  rintro e _ ⟨rfl, rfl⟩
  clear hok
  cases vl with
  | false =>
    go_wp2
    go_ret
    exact ⟨rfl, HB1.out⟩
  | true =>
  go_wp2_with fail
  have hor : sectors < 1 ∨ (1 ≤ sectors ∧ 4000 < sectors) ∨ (1 ≤ sectors ∧ sectors ≤ 4000) := by omega
  have HBAD := Lib.hid (fun (h : ¬ (1 ≤ sectors ∧ sectors ≤ 4000)) => new_bad sectors h w1)
  have HGOOD := Lib.hid (fun (h1 : 1 ≤ sectors) (h2 : sectors ≤ 4000) => new_low w sectors h1 h2 w1 HB1.out)
  rcases hor with g1 | ⟨g1, g2⟩ | ⟨g1, g2⟩
  rotate_left 2
  · refine (HGOOD.out g1 g2).mono ?_
    rintro e w2 ⟨d0, rfl, hw2⟩
    have HB2 := Lib.hid hw2
    clear hw2
    clear HBAD HGOOD
    go_wp2_with fail
    refine (HSIZE.out _).mono ?_
    rintro e _ ⟨rfl, rfl⟩
    go_wp2_with fail
    refine (new_own w n hn1 (by omega) w2 HB2.out).mono ?_
    rintro e w3 ⟨d, rfl, ho⟩
    have HO := Lib.hid ho
    clear ho
    go_wp2_with fail
    refine (HSIZE.out _).mono ?_
    rintro e _ ⟨rfl, rfl⟩
    go_wp2_with fail
    refine (rnew_own w n hn1 (by omega) w3 d _ HO.out).mono ?_
    rintro e w4 ⟨d2, rfl, hp⟩
    have HP := Lib.hid hp
    clear hp
    have HDO := Lib.hid (fun k a wr (hk : l[k]? = some a) (T : DS) (ho : Pair w wr d (acts (DS.new n) (l.take k)) d2 T) => do_own a ho.acc (okB_text HVl.out a (List.mem_of_getElem? hk)) (hfitl a (List.mem_of_getElem? hk)) (by have := acts_few n k l (okB_len HVl.out); omega))
    have HWA := Lib.hid (fun k a wr (hk : l[k]? = some a) (T : DS) (ho : Pair w wr d T d2 (acts (DS.new n) (l.take k))) => want_own a ho.acc2 (okB_text HVl.out a (List.mem_of_getElem? hk)) (hfitl a (List.mem_of_getElem? hk)) (by have := acts_few n k l (okB_len HVl.out); omega))
    go_wp2_with fail
    go_loopw [10] (fun u wr => ∃ k : Nat, k ≤ l.length ∧ u = .int .i64 k ∧ Pair w wr d (acts (DS.new n) (l.take k)) d2 (acts (DS.new n) (l.take k))) (fun u _ => l.length - (intOf u).toNat)
    case atStart => exact ⟨0, Nat.zero_le _, rfl, HP.out⟩
    case round =>
    obtain ⟨k, hk, rfl, ho⟩ := hrel
    have HOW := Lib.hid ho
    clear ho
    by_cases hlt : k < l.length
    · obtain ⟨a, ha⟩ := get_some l k hlt
      obtain ⟨b, off, rfl, c0, c1, c2, c3, c4, c5⟩ := (HAl.out _ HOW.out.base).at_ ha
      have c0l := lt_of_cell c0
      have hdo := HDO.out k a wr ha _ HOW.out
      have hsn := acts_snoc (DS.new n) l k a ha
      have hwa : ∀ w', Pair w w' d (acts (DS.new n) (l.take (k + 1))) d2 (acts (DS.new n) (l.take k)) → _ := fun w' h => HWA.out k a w' ha _ h
      obtain ⟨r1, hr1⟩ : ∃ r1, ((acts (DS.new n) (l.take k)).act a).1.1 = r1 := ⟨_, rfl⟩
      obtain ⟨r2, hr2⟩ : ∃ r2, ((acts (DS.new n) (l.take k)).act a).1.2 = r2 := ⟨_, rfl⟩
      rw [hr1, hr2, ← hsn] at hdo
      rw [hr1, hr2, ← hsn] at hwa
      have HD := Lib.hid hdo
      have HW := Lib.hid hwa
      have HAK := Lib.hid ha
      have t1 : (r1.toList == r1.toList) = true := by simp
      clear ha hdo hwa hsn hr1 hr2
      go_wp2_with fail
      refine HD.out.mono ?_
      rintro e w5 ⟨rfl, ho5⟩
      have HO5 := Lib.hid ho5
      clear ho5
      obtain ⟨b', off', he, c0', c1', c2', c3', c4', c5'⟩ := (HAl.out _ HO5.out.base).at_ HAK.out
      cases he
      have c0l' := lt_of_cell c0'
      go_wp2_with fail
      refine (HW.out _ HO5.out).mono ?_
      rintro e w6 ⟨rfl, ho6⟩
      have HO6 := Lib.hid ho6
      clear ho6
      go_wp2
      go_roundw
      case rel => exact ⟨k + 1, by omega, by go_num, HO6.out⟩
      case measure => simp [intOf]; omega
    · obtain rfl : k = l.length := by omega
      obtain ⟨T, hT⟩ : ∃ T, acts (DS.new n) (l.take l.length) = T := ⟨_, rfl⟩
      rw [hT] at HOW
      clear hT HDO HWA
      go_wp2_with fail
      go_loopw [15] (fun u wr => ∃ k : Nat, k ≤ n ∧ u = .int .i64 k ∧ Pair w wr d T d2 T) (fun u _ => n - (intOf u).toNat)
      case atStart => exact ⟨0, Nat.zero_le _, rfl, HOW.out⟩
      case round =>
      obtain ⟨i, hi, rfl, ho⟩ := hrel
      have HOI := Lib.hid ho
      clear ho
      by_cases hlt2 : i < n
      · obtain ⟨r1, hr1⟩ : ∃ r1, (T.read (i : Int)).1 = r1 := ⟨_, rfl⟩
        obtain ⟨r2, hr2⟩ : ∃ r2, (T.read (i : Int)).2 = r2 := ⟨_, rfl⟩
        have h1 := read_own (i : Int) HOI.out.acc
        have h2 := fun w' (h : Pair w w' d T d2 T) => rread_own (i : Int) h.acc2
        rw [hr1, hr2] at h1
        simp only [hr1, hr2] at h2
        have H1 := Lib.hid h1
        have H2 := Lib.hid h2
        have t1 : (r1.toList == r1.toList) = true := by simp
        clear h1 h2 hr1 hr2
        go_wp2_with fail
        refine (HSIZE.out _).mono ?_
        rintro e _ ⟨rfl, rfl⟩
        go_wp2_with fail
        refine H1.out.mono ?_
        rintro e w7 ⟨rfl, ho7⟩
        have HO7 := Lib.hid ho7
        clear ho7
        go_wp2_with fail
        refine (H2.out _ HO7.out).mono ?_
        rintro e w8 ⟨rfl, ho8⟩
        have HO8 := Lib.hid ho8
        clear ho8
        go_wp2
        go_roundw
        case rel => exact ⟨i + 1, by omega, by go_num, HO8.out⟩
        case measure => simp [intOf]; omega
      · obtain rfl : i = n := by omega
        go_wp2_with fail
        refine (HSIZE.out _).mono ?_
        rintro e _ ⟨rfl, rfl⟩
        go_wp2
        go_ret
        exact ⟨rfl, HOI.out.base⟩
  all_goals
    refine (HBAD.out (by omega)).mono ?_
    rintro e w2 ⟨rfl, hw2⟩
    have HB2 : Hid (Below w.heap.size w w2) := Lib.hid (hw2 ▸ HB1.out)
    clear hw2
    clear HBAD HGOOD
    go_wp2_with fail
    refine (HSIZE.out _).mono ?_
    rintro e _ ⟨rfl, rfl⟩
    go_wp2_with fail
    refine (new_own w n hn1 (by omega) w2 HB2.out).mono ?_
    rintro e w3 ⟨d, rfl, ho⟩
    have HO := Lib.hid ho
    clear ho
    go_wp2_with fail
    refine (HSIZE.out _).mono ?_
    rintro e _ ⟨rfl, rfl⟩
    go_wp2_with fail
    refine (rnew_own w n hn1 (by omega) w3 d _ HO.out).mono ?_
    rintro e w4 ⟨d2, rfl, hp⟩
    have HP := Lib.hid hp
    clear hp
    have HDO := Lib.hid (fun k a wr (hk : l[k]? = some a) (T : DS) (ho : Pair w wr d (acts (DS.new n) (l.take k)) d2 T) => do_own a ho.acc (okB_text HVl.out a (List.mem_of_getElem? hk)) (hfitl a (List.mem_of_getElem? hk)) (by have := acts_few n k l (okB_len HVl.out); omega))
    have HWA := Lib.hid (fun k a wr (hk : l[k]? = some a) (T : DS) (ho : Pair w wr d T d2 (acts (DS.new n) (l.take k))) => want_own a ho.acc2 (okB_text HVl.out a (List.mem_of_getElem? hk)) (hfitl a (List.mem_of_getElem? hk)) (by have := acts_few n k l (okB_len HVl.out); omega))
    go_wp2_with fail
    go_loopw [10] (fun u wr => ∃ k : Nat, k ≤ l.length ∧ u = .int .i64 k ∧ Pair w wr d (acts (DS.new n) (l.take k)) d2 (acts (DS.new n) (l.take k))) (fun u _ => l.length - (intOf u).toNat)
    case atStart => exact ⟨0, Nat.zero_le _, rfl, HP.out⟩
    case round =>
    obtain ⟨k, hk, rfl, ho⟩ := hrel
    have HOW := Lib.hid ho
    clear ho
    by_cases hlt : k < l.length
    · obtain ⟨a, ha⟩ := get_some l k hlt
      obtain ⟨b, off, rfl, c0, c1, c2, c3, c4, c5⟩ := (HAl.out _ HOW.out.base).at_ ha
      have c0l := lt_of_cell c0
      have hdo := HDO.out k a wr ha _ HOW.out
      have hsn := acts_snoc (DS.new n) l k a ha
      have hwa : ∀ w', Pair w w' d (acts (DS.new n) (l.take (k + 1))) d2 (acts (DS.new n) (l.take k)) → _ := fun w' h => HWA.out k a w' ha _ h
      obtain ⟨r1, hr1⟩ : ∃ r1, ((acts (DS.new n) (l.take k)).act a).1.1 = r1 := ⟨_, rfl⟩
      obtain ⟨r2, hr2⟩ : ∃ r2, ((acts (DS.new n) (l.take k)).act a).1.2 = r2 := ⟨_, rfl⟩
      rw [hr1, hr2, ← hsn] at hdo
      rw [hr1, hr2, ← hsn] at hwa
      have HD := Lib.hid hdo
      have HW := Lib.hid hwa
      have HAK := Lib.hid ha
      have t1 : (r1.toList == r1.toList) = true := by simp
      clear ha hdo hwa hsn hr1 hr2
      go_wp2_with fail
      refine HD.out.mono ?_
      rintro e w5 ⟨rfl, ho5⟩
      have HO5 := Lib.hid ho5
      clear ho5
      obtain ⟨b', off', he, c0', c1', c2', c3', c4', c5'⟩ := (HAl.out _ HO5.out.base).at_ HAK.out
      cases he
      have c0l' := lt_of_cell c0'
      go_wp2_with fail
      refine (HW.out _ HO5.out).mono ?_
      rintro e w6 ⟨rfl, ho6⟩
      have HO6 := Lib.hid ho6
      clear ho6
      go_wp2
      go_roundw
      case rel => exact ⟨k + 1, by omega, by go_num, HO6.out⟩
      case measure => simp [intOf]; omega
    · obtain rfl : k = l.length := by omega
      obtain ⟨T, hT⟩ : ∃ T, acts (DS.new n) (l.take l.length) = T := ⟨_, rfl⟩
      rw [hT] at HOW
      clear hT HDO HWA
      go_wp2_with fail
      go_loopw [15] (fun u wr => ∃ k : Nat, k ≤ n ∧ u = .int .i64 k ∧ Pair w wr d T d2 T) (fun u _ => n - (intOf u).toNat)
      case atStart => exact ⟨0, Nat.zero_le _, rfl, HOW.out⟩
      case round =>
      obtain ⟨i, hi, rfl, ho⟩ := hrel
      have HOI := Lib.hid ho
      clear ho
      by_cases hlt2 : i < n
      · obtain ⟨r1, hr1⟩ : ∃ r1, (T.read (i : Int)).1 = r1 := ⟨_, rfl⟩
        obtain ⟨r2, hr2⟩ : ∃ r2, (T.read (i : Int)).2 = r2 := ⟨_, rfl⟩
        have h1 := read_own (i : Int) HOI.out.acc
        have h2 := fun w' (h : Pair w w' d T d2 T) => rread_own (i : Int) h.acc2
        rw [hr1, hr2] at h1
        simp only [hr1, hr2] at h2
        have H1 := Lib.hid h1
        have H2 := Lib.hid h2
        have t1 : (r1.toList == r1.toList) = true := by simp
        clear h1 h2 hr1 hr2
        go_wp2_with fail
        refine (HSIZE.out _).mono ?_
        rintro e _ ⟨rfl, rfl⟩
        go_wp2_with fail
        refine H1.out.mono ?_
        rintro e w7 ⟨rfl, ho7⟩
        have HO7 := Lib.hid ho7
        clear ho7
        go_wp2_with fail
        refine (H2.out _ HO7.out).mono ?_
        rintro e w8 ⟨rfl, ho8⟩
        have HO8 := Lib.hid ho8
        clear ho8
        go_wp2
        go_roundw
        case rel => exact ⟨i + 1, by omega, by go_num, HO8.out⟩
        case measure => simp [intOf]; omega
      · obtain rfl : i = n := by omega
        go_wp2_with fail
        refine (HSIZE.out _).mono ?_
        rintro e _ ⟨rfl, rfl⟩
        go_wp2
        go_ret
        exact ⟨rfl, HOI.out.base⟩

end Go.Proofs.Ytdbmimmfpglahaa
