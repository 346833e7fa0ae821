/- observatorylaw55: contents, same. -/
import Derived.Test.YtomcjohdenjljaaDo55
namespace Go.Proofs.Ytomcjohdenjljaa
open Go.RowKit

def Strs (w : World) (A : Option Addr) (xs : List ByteArray) : Prop := Rd w 1 A xs.length (xs.map Value.string)

theorem Strs.below {w w' : World} {A : Option Addr} {xs : List ByteArray} (h : Strs w A xs) (hb : Below w.heap.size w w') : Strs w' A xs := Rd.below h hb

theorem Strs.at_ {w : World} {A : Option Addr} {xs : List ByteArray} (h : Strs w A xs) {k : Nat} {x : ByteArray} (hk : xs[k]? = some x) :
    ∃ b off, A = some ⟨b, off, none⟩ ∧ w.cell? ⟨b, off + k, none⟩ = some (.string x) := by
  have hl : k < xs.length := (List.getElem?_eq_some_iff.1 hk).1
  obtain ⟨b, off, e, hc⟩ := h.2 (by omega)
  exact ⟨b, off, e, hc k _ (by simp [hk])⟩

/-- What is read from a sector of a disk that is on. -/
def DS.view (S : DS) (i : Nat) : ByteArray := match S.q.reverse.find? (fun p => p.1 == i) with | some p => p.2 | none => S.sector i

theorem read_on (S : DS) (h : S.off = false) (i : Nat) (hi : i < S.n) : S.read (i : Int) = (S.view i, 0) := by
  have he : S.errAt (i : Int) = 0 := by simp [DS.errAt, h]; omega
  simp only [DS.read, he, DS.view]
  simp only [ne_eq, not_true_eq_false, if_false, Int.toNat_natCast]
  cases S.q.reverse.find? (fun p => p.1 == i) <;> rfl

theorem sector_size (S : DS) (hg : S.ok) (i : Nat) (hi : i < S.n) : (S.sector i).size = 64 := by
  show (Array.mk ((S.st.drop (i * 64)).take 64)).size = 64
  rw [List.size_toArray, List.length_take, List.length_drop, hg.len]
  omega

theorem view_size (S : DS) (hg : S.ok) (i : Nat) (hi : i < S.n) : (S.view i).size = 64 := by
  unfold DS.view
  cases hf : S.q.reverse.find? (fun p => p.1 == i) with
  | none => exact sector_size S hg i hi
  | some p => exact (hg.inq p (List.mem_reverse.1 (List.mem_of_find?_eq_some hf))).2

def DS.views (S : DS) : List ByteArray := (List.range S.n).map S.view

theorem views_length (S : DS) : S.views.length = S.n := by simp [DS.views]
theorem views_at (S : DS) (i : Nat) (hi : i < S.n) : S.views[i]? = some (S.view i) := by simp [DS.views, hi]

theorem info_string : (Try.prog.info? 9).map (fun i => (i.zero, i.size, i.bytes)) = some (some (.string ByteArray.empty), 1, 16) := by kernel_rfl

theorem strs_oneCell (l : List ByteArray) : ∀ u ∈ l.map Value.string, u.oneCell' = true := by
  intro u hu
  obtain ⟨x, _, rfl⟩ := List.mem_map.1 hu
  rfl

set_option maxHeartbeats 1600000 in
theorem contents_any (d : Nat) (S : DS) (F : List Nat) (w : World) (h : Dk w d S F) (hoff : S.off = false) :
    Calls Try.prog 22 #[ptr d, .int .i64 S.n] w fun e w' =>
      ∃ v, e = .returned (.tuple #[v, .bool true]) ∧ w'.ownsRow w.heap.size 9 1 v S.n (S.views.map Value.string) ∧ Below w.heap.size w w' := by
  have HD := Lib.hid h
  have h1 := h.good.n1
  have h40 := h.good.n4000
  obtain ⟨ip, hi1, hy0, hy1, hy2⟩ := info_parts info_string
  have HI := Lib.hid (And.intro hi1 (And.intro hy0 (And.intro hy1 hy2)))
  clear hi1 hy0 hy1 hy2
  have HO : Hid (w.ownsRow w.heap.size 9 1 (.slice none 0 0) 0 []) := ⟨rfl, .inl ⟨rfl, rfl⟩⟩
  have HOFF := Lib.hid hoff
  clear h hoff
  obtain ⟨n, hn⟩ : ∃ n, S.n = n := ⟨_, rfl⟩
  have HN := Lib.hid hn
  rw [hn] at h1 h40 ⊢
  clear hn
  unfold ptr
  go_enter Try.func22, Try.ntmps22
  go_wp2_with fail
  go_loopw [6, 7] (fun u6 u7 wr => ∃ k : Nat, k ≤ n ∧ u7 = .int .i64 k ∧ Below w.heap.size w wr ∧ wr.ownsRow w.heap.size 9 1 u6 k ((S.views.map Value.string).take k)) (fun _ u7 _ => n - (intOf u7).toNat)
  case atStart => exact ⟨0, Nat.zero_le _, rfl, Below.refl _ _, HO.out⟩
  case round =>
    obtain ⟨k, hk, rfl, hb, hown⟩ := hrel
    have HB := Lib.hid hb
    have HOWN := Lib.hid hown
    clear hb hown
    by_cases hlt : k < n
    · have hrd := read_any d S F (k : Int) wr (HD.out.chg (Chg.of_below HB.out []) (by simp))
      have hkn : k < S.n := by rw [HN.out]; exact hlt
      rw [read_on S HOFF.out k hkn] at hrd
      have hsz := view_size S HD.out.good k hkn
      have hvw := views_at S k hkn
      obtain ⟨vw, hv⟩ : ∃ vw, S.view k = vw := ⟨_, rfl⟩
      rw [hv] at hrd hsz hvw
      have HRD := Lib.hid hrd
      have HVW := Lib.hid hvw
      clear hrd hvw hv hkn
      unfold ptr at HRD
      go_wp2_with fail
      refine HRD.out.mono ?_
      rintro e w1 ⟨rfl, hb1⟩
      have hB1 := below_trans HB.out hb1
      have hO1 : w1.ownsRow w.heap.size 9 1 u6 k ((S.views.map Value.string).take k) := own_chg HOWN.out (Chg.of_below hb1 []) (by simp)
      have hO2 : (w1.alloc (.cells #[.string vw] 9)).ownsRow w.heap.size 9 1 u6 k ((S.views.map Value.string).take k) := own_chg hO1 ((Chg.refl [] w1).alloc _) (by simp)
      have HB1 := Lib.hid hB1
      have HO2 := Lib.hid hO2
      clear hb1 hB1 hO1 hO2
      go_wp2_with (at_builtin; refine wpList_app _ rfl (.tmp 28) (.tmp 30) 39 39 rfl w.heap.size 9 9 ip _ 1 16 Try.underlying39 Try.underlying39 HI.out.1 HI.out.2.1 HI.out.2.2.1 HI.out.2.2.2 rfl (by omega) u6 k _ rfl HO2.out (some ⟨w1.heap.size, 0, none⟩) 1 1 [.string vw] rfl (Rd_new w1 #[.string vw] _ 1 1 _ rfl rfl) (by simp [Value.oneCell']) (by simp only [maxLen]; omega) (by omega) (by have := HB1.out.size; simp; omega) ?_)
      intro v6 w2 hown2 hg2
      have hB2 : Below w.heap.size w w2 := (below_alloc HB1.out _).grown hg2 (by have := HB1.out.size; simp; omega) (fun j hj => (HO2.out.lt j hj).1)
      have e2 : (S.views.map Value.string).take k ++ [.string vw] = (S.views.map Value.string).take (k + 1) := by
        rw [take_snoc _ k (.string vw) (by rw [List.getElem?_map, HVW.out]; rfl)]
      rw [e2] at hown2
      have HB2 := Lib.hid hB2
      have HO3 := Lib.hid hown2
      clear hB2 hown2 hg2 e2
      go_wp2
      go_roundw
      case rel => exact ⟨k + 1, by omega, by go_num, HB2.out, HO3.out⟩
      case measure => simp [intOf]; omega
    · obtain rfl : k = n := by omega
      go_wp2
      go_ret2
      refine ⟨_, rfl, ?_, HB.out⟩
      have := HOWN.out
      rw [List.take_of_length_le (by rw [List.length_map, views_length, HN.out]; exact Nat.le_refl _)] at this
      exact this

set_option maxHeartbeats 1600000 in
theorem same_any (A B : Option Addr) (c d : Nat) (l m : List ByteArray) (w : World) (hA : Strs w A l) (hB : Strs w B m) (hl : l.length ≤ 1000000) (_hm : m.length ≤ 1000000) :
    Calls Try.prog 27 #[.slice A l.length c, .slice B m.length d] w fun e w' => e = .returned (.bool (decide (l = m))) ∧ ∃ q, w' = w.drewN q := by
  have HA := Lib.hid hA; clear hA
  have HB := Lib.hid hB; clear hB
  by_cases hlen : l.length = m.length
  · have h1 : (((l.length : Int)) == (m.length : Int)) = true := by simp [hlen]
    have h2 : (((l.length : Int)) != (m.length : Int)) = false := by simp [hlen]
    have HL := Lib.hid hlen; clear hlen
    go_enter Try.func27, Try.ntmps27
    go_wp2_with fail
    go_loopw [5] (fun u5 wr => ∃ (k q : Nat), k ≤ l.length ∧ u5 = .int .i64 k ∧ wr = w.drewN q ∧ l.take k = m.take k) (fun u5 _ => l.length - (intOf u5).toNat)
    case atStart => exact ⟨0, 0, Nat.zero_le _, rfl, rfl, rfl⟩
    case round =>
      obtain ⟨k, q, hk, rfl, rfl, hkm⟩ := hrel
      have HKM := Lib.hid hkm; clear hkm
      by_cases hlt : k < l.length
      · obtain ⟨s, hs⟩ := get_some l k hlt
        obtain ⟨t, ht⟩ := get_some m k (by rw [← HL.out]; exact hlt)
        have hmk : k < m.length := (List.getElem?_eq_some_iff.1 ht).1
        obtain ⟨b, off, rfl, hc1⟩ := HA.out.at_ hs
        obtain ⟨b', off', rfl, hd1⟩ := HB.out.at_ ht
        have HS := Lib.hid hs
        have HT := Lib.hid ht
        clear hs ht
        by_cases hst : s = t
        · have e1 : (s.toList == t.toList) = true := by rw [beq_bytes]; simpa using hst
          have HST := Lib.hid hst; clear hst
          go_wp2
          go_quiet (fail)
          go_wp2
          go_roundw
          case rel => exact ⟨k + 1, _, by omega, by go_num, rfl, by rw [take_snoc l k s HS.out, take_snoc m k t HT.out, HKM.out, HST.out]⟩
          case measure => simp [intOf]; omega
        · have hne : decide (l = m) = false := by
            rw [decide_eq_false_iff_not]
            intro e
            have h1 := HS.out
            have h2 := HT.out
            rw [e, h2] at h1
            exact hst (Option.some.inj h1).symm
          have HNE := Lib.hid hne; clear hne
          have e1 : (s.toList == t.toList) = false := by rw [beq_bytes]; simpa using hst
          clear hst
          go_wp2
          go_quiet (fail)
          go_wp2
          go_ret
          rw [HNE.out]
          exact ⟨rfl, _, by rw [World.drewN_drewN]⟩
      · have he : decide (l = m) = true := by
          have := HKM.out
          have hl := HL.out
          rw [List.take_of_length_le (by omega), List.take_of_length_le (by omega)] at this
          simpa using this
        have HE := Lib.hid he; clear he
        go_wp2
        go_ret
        rw [HE.out]
        exact ⟨rfl, _, rfl⟩
  · have h1 : (((l.length : Int)) == (m.length : Int)) = false := by simp; omega
    have h2 : (((l.length : Int)) != (m.length : Int)) = true := by simp; omega
    have hne : decide (l = m) = false := by
      rw [decide_eq_false_iff_not]
      intro e
      exact hlen (by rw [e])
    have HNE := Lib.hid hne; clear hne hlen
    go_enter Try.func27, Try.ntmps27
    go_wp2
    go_ret
    rw [HNE.out]
    exact ⟨rfl, 0, rfl⟩

end Go.Proofs.Ytomcjohdenjljaa
