/- The law BlindingFalse: the walk. Arguments of chapter 7's laws: a share, a list of shares, a list of numbers. A slice of strings as an argument. -/
import Derived.Test.YtdlgejofggbifaaGreatDoorChBlindingFalseD
namespace Go.Proofs.YtdlgejofggbifaaGreatDoor

section
open Go.RowKit

theorem rjoin2 (a : ByteArray) (ha : a.size ≤ 200) (W : World) :
    Calls Tryz.prog 32 #[.slice (some ⟨W.heap.size, 0, none⟩) 2 2] (W.alloc (.cells #[.string ⟨#[108, 101, 97, 102]⟩, .string a] 9)) fun e w' => e = .returned (.string (jb [bLeaf, a])) ∧ Below W.heap.size W w' := by
  have := rjoined (some ⟨W.heap.size, 0, none⟩) 2 [bLeaf, a] (W.alloc (.cells #[.string ⟨#[108, 101, 97, 102]⟩, .string a] 9)) (Strs_new _ _ _ _ _ rfl rfl) (by simp) (by
    intro s hs
    simp only [List.mem_cons, List.not_mem_nil, or_false] at hs
    rcases hs with rfl | rfl
    · decide
    · exact ha)
  exact this.mono fun _ _ ⟨he, hb⟩ => ⟨he, below_trans (below_alloc (Below.refl _ _) _) hb⟩


theorem few60B {l : List ByteArray} (h : fewB l 60 = true) : sm l := by
  simp only [fewB, Bool.and_eq_true, decide_eq_true_eq, List.all_eq_true] at h
  exact fun s hs => by have := h.1 s hs; omega
set_option maxRecDepth 100000 in
set_option maxHeartbeats 64000000 in
theorem false_walk (secret : Int) (A : Option Addr) (c : Nat) (raw : List Int) (a b : Nat) (s : Int × Int) (C : Option Addr) (f : Nat) (p : List ByteArray) (w : World) (hT : Tabs w) (hA : Ints w A raw) (hraw : raw.length ≤ 9223372036854775807) (ha : a < 256) (hb : b < 256) (hC : Strs w C p) (hpl : p.length ≤ 9223372036854775807) (hcp : p.length ≤ f)
    (hs1 : -9223372036854775808 ≤ s.1 ∧ s.1 ≤ 9223372036854775807) (hs2 : -9223372036854775808 ≤ s.2 ∧ s.2 ≤ 9223372036854775807) :
    Calls Tryz.prog 7 #[.int .i64 secret, .slice A raw.length c, .int .u8 a, .int .u8 b, .agg #[.int .i64 s.1, .int .i64 s.2], .slice C p.length f] w fun e w' => e = .returned (.bool true) ∧ Below w.heap.size w w' := by
  obtain ⟨w0, hw0⟩ : ∃ w0, w.alloc (.cells #[.int .i64 s.1, .int .i64 s.2] 37) = w0 := ⟨_, rfl⟩
  have HB0 : Hid (Below w.heap.size w w0) := Lib.hid (by rw [← hw0]; exact below_alloc (Below.refl _ _) _)
  have HK : Hid (∀ W, Below w0.heap.size w0 W → W.cell? ⟨w.heap.size, 0, none⟩ = some (.int .i64 s.1) ∧ W.cell? ⟨w.heap.size, 1, none⟩ = some (.int .i64 s.2)) := Lib.hid (fun W hW => by
    have hb : Blk w0 w.heap.size 37 #[.int .i64 s.1, .int .i64 s.2] := by rw [← hw0]; exact Blk.new w _ _ _ rfl
    exact ⟨kept_cell hW (hb.of_cell rfl), kept_cell hW (hb.of_cell rfl)⟩)
  have HT : Hid (∀ W, Below w0.heap.size w0 W → Tabs W) := Lib.hid (fun W hW => (hT.below HB0.out).below hW)
  have HH := Lib.hid (bhead_any w0 (HT.out _ (Below.refl _ _)))
  have HA : Hid (∀ W, Below w0.heap.size w0 W → _) := Lib.hid (fun W hW => made_any secret A c raw a b W ((hA.below HB0.out).below hW) hraw ha hb)
  have HP : Hid (∀ W, Below w0.heap.size w0 W → Strs W C p) := Lib.hid (fun W hW => (hC.below HB0.out).below hW)
  have HFP := Lib.hid (fun W (hW : Below w0.heap.size w0 W) => few_any C f p 60 W (HP.out W hW) hpl)
  have HW0 := Lib.hid hw0
  clear hw0 hT hA hC
  obtain ⟨vp, hvp⟩ : ∃ v, fewB p 60 = v := ⟨_, rfl⟩
  have HVP := Lib.hid hvp
  rw [hvp] at HFP
  clear hvp
  by_cases hz : 10 < p.length
  case pos =>
    have hd1 : decide (10 < p.length) = true := decide_eq_true hz
    have hi1 : (10 : Int) < (p.length : Int) := by omega
    have hd2 : decide ((10 : Int) < (p.length : Int)) = true := decide_eq_true hi1
    have hi3 : ((p.length : Int) ≤ 10) = False := eq_false (by omega)
    go_enter Tryz.func7, Tryz.ntmps7
    go_wp2_with fail
    rw [HW0.out]
    refine HH.out.mono ?_
    rintro e w1 ⟨rfl, hb1⟩
    have HB1 := Lib.hid hb1
    clear hb1
    go_wp2
    go_ret
    exact ⟨rfl, below_trans HB0.out HB1.out⟩
  case neg =>
  have hd1 : decide (10 < p.length) = false := decide_eq_false hz
  have hi1 : ¬ (10 : Int) < (p.length : Int) := by omega
  have hd2 : decide ((10 : Int) < (p.length : Int)) = false := decide_eq_false hi1
  have hi3 : ((p.length : Int) ≤ 10) = True := eq_true (by omega)
  cases vp with
  | false =>
    go_enter Tryz.func7, Tryz.ntmps7
    go_wp2_with fail
    rw [HW0.out]
    refine HH.out.mono ?_
    rintro e w1 ⟨rfl, hb1⟩
    have HB1 := Lib.hid hb1
    clear hb1
    go_wp2_with fail
    refine (HFP.out w1 HB1.out).mono ?_
    rintro e _ ⟨rfl, rfl⟩
    go_wp2
    go_ret
    exact ⟨rfl, below_trans HB0.out HB1.out⟩
  | true =>
  have HPS := Lib.hid (few60B HVP.out)
  obtain ⟨n, hn⟩ : ∃ n, n = 1 + a % 4 := ⟨_, rfl⟩
  obtain ⟨m, hm⟩ : ∃ m, m = 1 + a % 4 + b % 3 := ⟨_, rfl⟩
  have hn1 : 1 ≤ n := by omega
  have hnm : n ≤ m := by omega
  have hm6 : m ≤ 6 := by omega
  obtain ⟨q, hq⟩ : ∃ q, q = (secret % 2147483647) :: madeL raw (a % 4) := ⟨_, rfl⟩
  rw [← hm, ← hn, ← hq] at HA
  obtain ⟨l, hl⟩ : ∃ l, l = shs q m := ⟨_, rfl⟩
  have hll : l.length = m := by rw [hl]; exact shs_length _ _
  have hval : l.all validB = true := by rw [hl]; exact (shs_on q m (by omega)).valid
  have HLV : Hid (∀ (j : Nat) (t : Int × Int), l[j]? = some t → validB t = true ∧ t.1 = (j : Int) + 1) := Lib.hid (fun j t h => ⟨List.all_eq_true.1 hval t (List.mem_of_getElem? h), shs_place q m j t (by rw [← hl]; exact h)⟩)
  rw [← hl] at HA
  have HON := Lib.hid hval
  have HSL := Lib.hid hll
  have hLD := shLf_D l
  have HLS0 := Lib.hid (shLf_sm l)
  have HRT : Hid (∀ (A' : Option Addr) (c' : Nat) (W : World), Prs W A' l → Tabs W → Calls Tryz.prog 29 #[.slice A' m c'] W fun e w' => e = .returned (.tuple #[.string (rt (l.map shLf)), .int .i64 0]) ∧ Below W.heap.size W w') := Lib.hid (fun A' c' W hP hT => by
    have := sroot_any A' c' l W hP (by omega) (by omega) hval hT
    rw [hll] at this
    exact this)
  have HRD : Hid (isD (rt (l.map shLf)) = true) := Lib.hid (isD_rt _ (shLf_D _))
  have HRS : Hid ((rt (l.map shLf)).size ≤ 1000000000) := Lib.hid (by have := rt_size (l.map shLf) (shLf_sm _); omega)
  have HLE0 : Hid (∀ (A' : Option Addr) (c' : Nat) (W : World), Prs W A' l → Calls Tryz.prog 35 #[.slice A' m c'] W fun e w' => ∃ v, e = .returned v ∧ w'.ownsRow W.heap.size 9 1 v m ((l.map shLf).map Value.string) ∧ Below W.heap.size W w') := Lib.hid (fun A' c' W hP => by
    have := rleaves_any A' c' l W hP (by omega) hval
    rw [hll] at this
    exact this)
  have HXL : Hid (∀ (W : World) (A' : Option Addr) (c' : Nat), m ≤ c' → Strs W A' (l.map shLf) → Calls Tryz.prog 34 #[.slice A' m c'] W fun e w' => ∃ v, e = .returned v ∧ w'.ownsRow W.heap.size 9 1 v (txt (l.map shLf)).length ((txt (l.map shLf)).map Value.string) ∧ Below W.heap.size W w') := Lib.hid (fun W A' c' hc' hs' => by
    have := rtxt_any (l.map shLf).length A' c' (l.map shLf) W (Nat.le_refl _) (by rw [List.length_map]; omega) (by rw [List.length_map]; omega) hs' (shLf_sm l)
    rw [List.length_map, hll] at this
    exact this)
  have hck0 : ∀ v, shChk (rt (l.map shLf)) (m : Int) s p = v → v = true → validB s = true ∧ ∃ (j : Nat) (t : Int × Int), s.1 = (j : Int) + 1 ∧ l[j]? = some t ∧ allD p = true ∧ upv m j (shLf s) p = rt (l.map shLf) ∧ p.length = plen m j := fun v h1 h2 => by
    rw [h2] at h1
    rw [← hll] at h1 ⊢
    exact shChk_parts h1
  have HCK0 := Lib.hid hck0
  obtain ⟨LV, hLV⟩ : ∃ LV, l.map shLf = LV := ⟨_, rfl⟩
  have HLVE := Lib.hid hLV
  rw [hLV] at HRT HRD HRS HLE0 HXL HCK0 HLS0
  clear hn hm hq hl hll hval hraw ha hb hLD hck0 hLV hpl
  go_enter Tryz.func7, Tryz.ntmps7
  go_wp2_with fail
  rw [HW0.out]
  refine HH.out.mono ?_
  rintro e w1 ⟨rfl, hb1⟩
  have HB1 := Lib.hid hb1
  clear hb1
  go_wp2_with fail
  refine (HFP.out w1 HB1.out).mono ?_
  rintro e _ ⟨rfl, rfl⟩
  go_wp2_with fail
  refine (HA.out w1 HB1.out).mono ?_
  rintro e w2 ⟨v2, rfl, ho2, hb2⟩
  obtain ⟨A2, c2, rfl, -, -, hr2⟩ := Rd.of_own ho2
  have HB2 := Lib.hid (below_trans HB1.out hb2)
  have HP2 : Hid (∀ W, Below w2.heap.size w2 W → Prs W A2 l) := Lib.hid (fun W hW => Prs.below (by unfold Prs; rw [HSL.out]; exact hr2) hW)
  clear ho2 hb2 hr2
  go_wp2_with fail
  refine (HRT.out A2 c2 w2 (HP2.out _ (Below.refl _ _)) (HT.out _ HB2.out)).mono ?_
  rintro e w3 ⟨rfl, hb3⟩
  have HB3 := Lib.hid (below_trans HB2.out hb3)
  have HP3 : Hid (∀ W, Below w3.heap.size w3 W → Prs W A2 l) := Lib.hid (fun W hW => HP2.out W (below_trans hb3 hW))
  clear hb3 HP2
  go_wp2_with fail
  refine (vnew_ok n m (rt LV) w3 HRS.out hn1 hnm (by omega) HRD.out).mono ?_
  rintro e w4 ⟨g, B, rfl, hV, hg, hB, hb4⟩
  have HV4 := Lib.hid hV
  have HGB : Hid (∀ k, k ∈ [g, B] → w3.heap.size ≤ k) := Lib.hid (by intro k hk; simp only [List.mem_cons, List.not_mem_nil, or_false] at hk; rcases hk with rfl | rfl <;> assumption)
  have HY4 : Hid (Below w3.heap.size w3 w4) := Lib.hid hb4
  clear hV hg hB hb4
  have hmp : 0 < m := by omega
  obtain ⟨tz, htz⟩ := get_some l 0 (by rw [HSL.out]; omega)
  obtain ⟨bl, ol, rfl, -, -⟩ := (HP3.out _ (Below.refl _ _)).at_ htz
  clear htz
  have HKX : Hid (∀ W, Below w3.heap.size w3 W → W.cell? ⟨w.heap.size, 0, none⟩ = some (.int .i64 s.1) ∧ W.cell? ⟨w.heap.size, 1, none⟩ = some (.int .i64 s.2)) := Lib.hid (fun W hW => HK.out W (below_trans HB3.out hW))
  have HCELL : Hid (∀ (j : Nat) (t : Int × Int), l[j]? = some t → ∀ W, Below w3.heap.size w3 W → W.cell? ⟨bl, ol + j * 2, none⟩ = some (.int .i64 t.1) ∧ W.cell? ⟨bl, ol + j * 2 + 1, none⟩ = some (.int .i64 t.2)) := Lib.hid (fun j t hj W hW => by
    obtain ⟨b', off', e, h1, h2⟩ := (HP3.out W hW).at_ hj
    cases e
    exact ⟨h1, h2⟩)
  have HOF : Hid (∀ W, PV W g B n m (rt LV) [] false → Below w3.heap.size w3 W → _) := Lib.hid (fun W hV hW => voffer_any g B n m (rt LV) [] false s C f p W hV (by simp) (HP.out W (below_trans HB3.out hW)) (by omega) hcp HPS.out (HT.out W (below_trans HB3.out hW)))
  obtain ⟨ck, hck⟩ : ∃ ck, shChk (rt LV) (m : Int) s p = ck := ⟨_, rfl⟩
  have HCV := Lib.hid hck
  have HER : Hid (offE (rt LV) (m : Int) [] false s p = if ck then 0 else 24) := Lib.hid (by unfold offE; rw [hck]; cases ck <;> rfl)
  rw [HER.out] at HOF
  clear hck
  cases ck with
  | false =>
    have HOF2 : Hid (∀ W, PV W g B n m (rt LV) [] false → Below w3.heap.size w3 W → Calls Tryz.prog 25 #[.pointer (some ⟨g, 0, none⟩), .agg #[.int .i64 s.1, .int .i64 s.2], .slice C p.length f] W fun e w' => e = .returned (.int .i64 24) ∧ Chg [g, B] W w') := Lib.hid (fun W hV hW => (HOF.out W hV hW).mono fun _ _ ⟨h1, _, h3⟩ => ⟨h1, h3⟩)
    go_wp2_with fail
    refine wp_region_held_drew (S := fun W => Below w3.heap.size w3 W) (by kernel_rfl) (HY4.out.drew) (fun hS0 => ?_)
    refine wpAnyH_take (i := 0) (v := ?_) rfl (by kernel_rfl) (by kernel_rfl) (by kernel_rfl) (fun _ _ _ h => h) (Or.inl ⟨by kernel_rfl, ?hy⟩) hS0 ?rest
    case hy => (intro W hSw; clear hSw; go_simp; with_reducible rfl)
    case rest =>
    refine wpAnyH_take (i := 1) (v := ?_) rfl (by kernel_rfl) (by kernel_rfl) (by kernel_rfl) (fun _ _ _ h => h) (Or.inl ⟨by kernel_rfl, ?hy⟩) hS0 ?rest
    case hy => (intro W hSw; obtain ⟨q1, q2⟩ := HKX.out W hSw; have ql := lt_of_cell q1; clear hSw; go_simp; with_reducible rfl)
    case rest =>
    refine wpAnyH_take (i := 2) (v := ?_) rfl (by kernel_rfl) (by kernel_rfl) (by kernel_rfl) (fun _ _ _ h => h) (Or.inl ⟨by kernel_rfl, ?hy⟩) hS0 ?rest
    case hy => (intro W hSw; clear hSw; go_simp; with_reducible rfl)
    case rest =>
    refine wpAnyH_ready (rs := [3]) (by kernel_rfl) (by simp) ?_
    refine AllReadyH.cons rfl (fun K hK => ?_) (AllReadyH.nil)
    go_simp
    refine (HOF2.out _ (HV4.out.below (Below.refl _ _).drew) HY4.out.drew).mono ?_
    rintro e w8 ⟨rfl, hc⟩
    have HX8 := Lib.hid (below_chg HY4.out.drew hc HGB.out)
    clear hc
    go_simp
    refine hK.out _ _ HX8.out (fun hS1 => ?_)
    clear hK K
    refine wpAnyH_take (i := 4) (v := ?_) rfl (by kernel_rfl) (by kernel_rfl) (by kernel_rfl) (fun _ _ _ h => h) (Or.inl ⟨by kernel_rfl, ?hy⟩) hS1 ?rest
    case hy => (intro W hSw; clear hSw; go_simp; with_reducible rfl)
    case rest =>
    refine wpAnyH_take (i := 5) (v := ?_) rfl (by kernel_rfl) (by kernel_rfl) (by kernel_rfl) (fun _ _ _ h => h) (Or.inl ⟨by kernel_rfl, ?hy⟩) hS1 ?rest
    case hy => (intro W hSw; clear hSw; go_simp; with_reducible rfl)
    case rest =>
    refine wpAnyH_take (i := 6) (v := undef) rfl (by kernel_rfl) (by kernel_rfl) (by kernel_rfl) (fun _ _ _ h => h) (Or.inr ⟨by kernel_rfl, rfl⟩) hS1 ?_
    try go_simp
    refine wpAnyH_take (i := 7) (v := undef) rfl (by kernel_rfl) (by kernel_rfl) (by kernel_rfl) (fun _ _ _ h => h) (Or.inr ⟨by kernel_rfl, rfl⟩) hS1 ?_
    refine wpAnyH_take (i := 8) (v := undef) rfl (by kernel_rfl) (by kernel_rfl) (by kernel_rfl) (fun _ _ _ h => h) (Or.inr ⟨by kernel_rfl, rfl⟩) hS1 ?_
    refine wpAnyH_take (i := 9) (v := undef) rfl (by kernel_rfl) (by kernel_rfl) (by kernel_rfl) (fun _ _ _ h => h) (Or.inr ⟨by kernel_rfl, rfl⟩) hS1 ?_
    refine wpAnyH_take (i := 10) (v := undef) rfl (by kernel_rfl) (by kernel_rfl) (by kernel_rfl) (fun _ _ _ h => h) (Or.inr ⟨by kernel_rfl, rfl⟩) hS1 ?_
    refine wpAnyH_take (i := 11) (v := undef) rfl (by kernel_rfl) (by kernel_rfl) (by kernel_rfl) (fun _ _ _ h => h) (Or.inr ⟨by kernel_rfl, rfl⟩) hS1 ?_
    refine wpAnyH_take (i := 12) (v := undef) rfl (by kernel_rfl) (by kernel_rfl) (by kernel_rfl) (fun _ _ _ h => h) (Or.inr ⟨by kernel_rfl, rfl⟩) hS1 ?_
    try go_simp
    refine wpAnyH_take (i := 13) (v := undef) rfl (by kernel_rfl) (by kernel_rfl) (by kernel_rfl) (fun _ _ _ h => h) (Or.inr ⟨by kernel_rfl, rfl⟩) hS1 ?_
    refine wpAnyH_take (i := 14) (v := undef) rfl (by kernel_rfl) (by kernel_rfl) (by kernel_rfl) (fun _ _ _ h => h) (Or.inr ⟨by kernel_rfl, rfl⟩) hS1 ?_
    refine wpAnyH_take (i := 15) (v := undef) rfl (by kernel_rfl) (by kernel_rfl) (by kernel_rfl) (fun _ _ _ h => h) (Or.inr ⟨by kernel_rfl, rfl⟩) hS1 ?_
    refine wpAnyH_take (i := 16) (v := undef) rfl (by kernel_rfl) (by kernel_rfl) (by kernel_rfl) (fun _ _ _ h => h) (Or.inr ⟨by kernel_rfl, rfl⟩) hS1 ?_
    refine wpAnyH_take (i := 17) (v := undef) rfl (by kernel_rfl) (by kernel_rfl) (by kernel_rfl) (fun _ _ _ h => h) (Or.inr ⟨by kernel_rfl, rfl⟩) hS1 ?_
    refine wpAnyH_take (i := 18) (v := undef) rfl (by kernel_rfl) (by kernel_rfl) (by kernel_rfl) (fun _ _ _ h => h) (Or.inr ⟨by kernel_rfl, rfl⟩) hS1 ?_
    try go_simp
    refine wpAnyH_take (i := 19) (v := undef) rfl (by kernel_rfl) (by kernel_rfl) (by kernel_rfl) (fun _ _ _ h => h) (Or.inr ⟨by kernel_rfl, rfl⟩) hS1 ?_
    refine wpAnyH_take (i := 20) (v := undef) rfl (by kernel_rfl) (by kernel_rfl) (by kernel_rfl) (fun _ _ _ h => h) (Or.inr ⟨by kernel_rfl, rfl⟩) hS1 ?_
    refine wpAnyH_take (i := 21) (v := undef) rfl (by kernel_rfl) (by kernel_rfl) (by kernel_rfl) (fun _ _ _ h => h) (Or.inr ⟨by kernel_rfl, rfl⟩) hS1 ?_
    refine wpAnyH_take (i := 22) (v := undef) rfl (by kernel_rfl) (by kernel_rfl) (by kernel_rfl) (fun _ _ _ h => h) (Or.inr ⟨by kernel_rfl, rfl⟩) hS1 ?_
    refine wpAnyH_take (i := 23) (v := undef) rfl (by kernel_rfl) (by kernel_rfl) (by kernel_rfl) (fun _ _ _ h => h) (Or.inr ⟨by kernel_rfl, rfl⟩) hS1 ?_
    refine wpAnyH_take (i := 24) (v := undef) rfl (by kernel_rfl) (by kernel_rfl) (by kernel_rfl) (fun _ _ _ h => h) (Or.inr ⟨by kernel_rfl, rfl⟩) hS1 ?_
    try go_simp
    refine wpAnyH_take (i := 25) (v := undef) rfl (by kernel_rfl) (by kernel_rfl) (by kernel_rfl) (fun _ _ _ h => h) (Or.inr ⟨by kernel_rfl, rfl⟩) hS1 ?_
    refine wpAnyH_take (i := 26) (v := ?_) rfl (by kernel_rfl) (by kernel_rfl) (by kernel_rfl) (fun _ _ _ h => h) (Or.inl ⟨by kernel_rfl, ?hy⟩) hS1 ?rest
    case hy => (intro W hSw; clear hSw; go_simp; with_reducible rfl)
    case rest =>
    refine wpAnyH_done (by kernel_rfl) ?_ _
    clear hS0 hS1
    go_wp2
    go_ret
    exact ⟨rfl, below_trans HB0.out (below_trans HB3.out HX8.out)⟩
  | true =>
  obtain ⟨hvs, j, t2, hs1j, htj, hDp, hup, hlen⟩ := HCK0.out true HCV.out rfl
  have HTJ := Lib.hid htj
  have hjm : j < m := by have := (List.getElem?_eq_some_iff.1 htj).1; rw [HSL.out] at this; exact this
  obtain ⟨hvt, hpt2⟩ := HLV.out j t2 htj
  obtain ⟨g1, g2⟩ := valid_nat hvs
  have HVS := Lib.hid hvs
  have HVT := Lib.hid hvt
  have HPP := Lib.hid (And.intro hDp (And.intro hup hlen))
  have hsub : IntKind.i64.wrap (s.1 - 1) = (j : Int) := by rw [IntWalk.i64_in _ (by omega)]; omega
  have hx1 : 1 ≤ s.1 := by omega
  have hxm : s.1 ≤ (m : Int) := by omega
  have hdx1 : decide (1 ≤ s.1) = true := decide_eq_true hx1
  have hdxm : decide (s.1 ≤ (m : Int)) = true := decide_eq_true hxm
  have hji : (j : Int) < (m : Int) := by omega
  have e1 : (s.1 == t2.1) = true := by simp; omega
  have HS1J := Lib.hid hs1j
  have HPT2 := Lib.hid hpt2
  clear hvs hvt htj hDp hup hlen hs1j hpt2
  by_cases hst : s = t2
  case pos =>
    have e2 : (s.2 == t2.2) = true := by rw [hst]; simp
    clear hst
    have HOF2 : Hid (∀ W, PV W g B n m (rt LV) [] false → Below w3.heap.size w3 W → Calls Tryz.prog 25 #[.pointer (some ⟨g, 0, none⟩), .agg #[.int .i64 s.1, .int .i64 s.2], .slice C p.length f] W fun e w' => e = .returned (.int .i64 0) ∧ Chg [g, B] W w') := Lib.hid (fun W hV hW => (HOF.out W hV hW).mono fun _ _ ⟨h1, _, h3⟩ => ⟨h1, h3⟩)
    go_wp2_with fail
    refine wp_region_held_drew (S := fun W => Below w3.heap.size w3 W) (by kernel_rfl) (HY4.out.drew) (fun hS0 => ?_)
    refine wpAnyH_take (i := 0) (v := ?_) rfl (by kernel_rfl) (by kernel_rfl) (by kernel_rfl) (fun _ _ _ h => h) (Or.inl ⟨by kernel_rfl, ?hy⟩) hS0 ?rest
    case hy => (intro W hSw; clear hSw; go_simp; with_reducible rfl)
    case rest =>
    refine wpAnyH_take (i := 1) (v := ?_) rfl (by kernel_rfl) (by kernel_rfl) (by kernel_rfl) (fun _ _ _ h => h) (Or.inl ⟨by kernel_rfl, ?hy⟩) hS0 ?rest
    case hy => (intro W hSw; obtain ⟨q1, q2⟩ := HKX.out W hSw; have ql := lt_of_cell q1; clear hSw; go_simp; with_reducible rfl)
    case rest =>
    refine wpAnyH_take (i := 2) (v := ?_) rfl (by kernel_rfl) (by kernel_rfl) (by kernel_rfl) (fun _ _ _ h => h) (Or.inl ⟨by kernel_rfl, ?hy⟩) hS0 ?rest
    case hy => (intro W hSw; clear hSw; go_simp; with_reducible rfl)
    case rest =>
    refine wpAnyH_ready (rs := [3]) (by kernel_rfl) (by simp) ?_
    refine AllReadyH.cons rfl (fun K hK => ?_) (AllReadyH.nil)
    go_simp
    refine (HOF2.out _ (HV4.out.below (Below.refl _ _).drew) HY4.out.drew).mono ?_
    rintro e w8 ⟨rfl, hc⟩
    have HX8 := Lib.hid (below_chg HY4.out.drew hc HGB.out)
    clear hc
    go_simp
    refine hK.out _ _ HX8.out (fun hS1 => ?_)
    clear hK K
    refine wpAnyH_take (i := 4) (v := ?_) rfl (by kernel_rfl) (by kernel_rfl) (by kernel_rfl) (fun _ _ _ h => h) (Or.inl ⟨by kernel_rfl, ?hy⟩) hS1 ?rest
    case hy => (intro W hSw; clear hSw; go_simp; with_reducible rfl)
    case rest =>
    refine wpAnyH_take (i := 5) (v := ?_) rfl (by kernel_rfl) (by kernel_rfl) (by kernel_rfl) (fun _ _ _ h => h) (Or.inl ⟨by kernel_rfl, ?hy⟩) hS1 ?rest
    case hy => (intro W hSw; clear hSw; go_simp; with_reducible rfl)
    case rest =>
    refine wpAnyH_take (i := 6) (v := ?_) rfl (by kernel_rfl) (by kernel_rfl) (by kernel_rfl) (fun _ _ _ h => h) (Or.inl ⟨by kernel_rfl, ?hy⟩) hS1 ?rest
    case hy => (intro W hSw; clear hSw; go_simp; with_reducible rfl)
    case rest =>
    try go_simp
    refine wpAnyH_take (i := 7) (v := ?_) rfl (by kernel_rfl) (by kernel_rfl) (by kernel_rfl) (fun _ _ _ h => h) (Or.inl ⟨by kernel_rfl, ?hy⟩) hS1 ?rest
    case hy => (intro W hSw; obtain ⟨q1, q2⟩ := HKX.out W hSw; have ql := lt_of_cell q1; clear hSw; go_simp; with_reducible rfl)
    case rest =>
    refine wpAnyH_take (i := 8) (v := ?_) rfl (by kernel_rfl) (by kernel_rfl) (by kernel_rfl) (fun _ _ _ h => h) (Or.inl ⟨by kernel_rfl, ?hy⟩) hS1 ?rest
    case hy => (intro W hSw; clear hSw; go_simp; with_reducible rfl)
    case rest =>
    refine wpAnyH_take (i := 9) (v := ?_) rfl (by kernel_rfl) (by kernel_rfl) (by kernel_rfl) (fun _ _ _ h => h) (Or.inl ⟨by kernel_rfl, ?hy⟩) hS1 ?rest
    case hy => (intro W hSw; clear hSw; go_simp; with_reducible rfl)
    case rest =>
    refine wpAnyH_take (i := 10) (v := ?_) rfl (by kernel_rfl) (by kernel_rfl) (by kernel_rfl) (fun _ _ _ h => h) (Or.inl ⟨by kernel_rfl, ?hy⟩) hS1 ?rest
    case hy => (intro W hSw; clear hSw; go_simp; with_reducible rfl)
    case rest =>
    refine wpAnyH_take (i := 11) (v := ?_) rfl (by kernel_rfl) (by kernel_rfl) (by kernel_rfl) (fun _ _ _ h => h) (Or.inl ⟨by kernel_rfl, ?hy⟩) hS1 ?rest
    case hy => (intro W hSw; obtain ⟨q1, q2⟩ := HKX.out W hSw; have ql := lt_of_cell q1; clear hSw; go_simp; with_reducible rfl)
    case rest =>
    refine wpAnyH_take (i := 12) (v := ?_) rfl (by kernel_rfl) (by kernel_rfl) (by kernel_rfl) (fun _ _ _ h => h) (Or.inl ⟨by kernel_rfl, ?hy⟩) hS1 ?rest
    case hy => (intro W hSw; clear hSw; go_simp; with_reducible rfl)
    case rest =>
    try go_simp
    refine wpAnyH_take (i := 13) (v := ?_) rfl (by kernel_rfl) (by kernel_rfl) (by kernel_rfl) (fun _ _ _ h => h) (Or.inl ⟨by kernel_rfl, ?hy⟩) hS1 ?rest
    case hy => (intro W hSw; clear hSw; go_simp; with_reducible rfl)
    case rest =>
    refine wpAnyH_take (i := 14) (v := ?_) rfl (by kernel_rfl) (by kernel_rfl) (by kernel_rfl) (fun _ _ _ h => h) (Or.inl ⟨by kernel_rfl, ?hy⟩) hS1 ?rest
    case hy => (intro W hSw; clear hSw; go_simp; with_reducible rfl)
    case rest =>
    refine wpAnyH_take (i := 15) (v := ?_) rfl (by kernel_rfl) (by kernel_rfl) (by kernel_rfl) (fun _ _ _ h => h) (Or.inl ⟨by kernel_rfl, ?hy⟩) hS1 ?rest
    case hy => (intro W hSw; clear hSw; go_simp; with_reducible rfl)
    case rest =>
    refine wpAnyH_take (i := 16) (v := ?_) rfl (by kernel_rfl) (by kernel_rfl) (by kernel_rfl) (fun _ _ _ h => h) (Or.inl ⟨by kernel_rfl, ?hy⟩) hS1 ?rest
    case hy => (intro W hSw; clear hSw; go_simp; with_reducible rfl)
    case rest =>
    refine wpAnyH_take (i := 17) (v := ?_) rfl (by kernel_rfl) (by kernel_rfl) (by kernel_rfl) (fun _ _ _ h => h) (Or.inl ⟨by kernel_rfl, ?hy⟩) hS1 ?rest
    case hy => (intro W hSw; obtain ⟨q1, q2⟩ := HKX.out W hSw; have ql := lt_of_cell q1; clear hSw; go_simp; with_reducible rfl)
    case rest =>
    refine wpAnyH_take (i := 18) (v := ?_) rfl (by kernel_rfl) (by kernel_rfl) (by kernel_rfl) (fun _ _ _ h => h) (Or.inl ⟨by kernel_rfl, ?hy⟩) hS1 ?rest
    case hy => (intro W hSw; clear hSw; go_simp; with_reducible rfl)
    case rest =>
    try go_simp
    refine wpAnyH_take (i := 19) (v := ?_) rfl (by kernel_rfl) (by kernel_rfl) (by kernel_rfl) (fun _ _ _ h => h) (Or.inl ⟨by kernel_rfl, ?hy⟩) hS1 ?rest
    case hy => (intro W hSw; clear hSw; go_simp; with_reducible rfl)
    case rest =>
    refine wpAnyH_take (i := 20) (v := ?_) rfl (by kernel_rfl) (by kernel_rfl) (by kernel_rfl) (fun _ _ _ h => h) (Or.inl ⟨by kernel_rfl, ?hy⟩) hS1 ?rest
    case hy => (intro W hSw; obtain ⟨q1, q2⟩ := HKX.out W hSw; have ql := lt_of_cell q1; clear hSw; go_simp; with_reducible rfl)
    case rest =>
    refine wpAnyH_take (i := 21) (v := ?_) rfl (by kernel_rfl) (by kernel_rfl) (by kernel_rfl) (fun _ _ _ h => h) (Or.inl ⟨by kernel_rfl, ?hy⟩) hS1 ?rest
    case hy => (intro W hSw; clear hSw; go_simp; with_reducible rfl)
    case rest =>
    refine wpAnyH_take (i := 22) (v := ?_) rfl (by kernel_rfl) (by kernel_rfl) (by kernel_rfl) (fun _ _ _ h => h) (Or.inl ⟨by kernel_rfl, ?hy⟩) hS1 ?rest
    case hy => (intro W hSw; clear hSw; go_simp; with_reducible rfl)
    case rest =>
    refine wpAnyH_take (i := 23) (v := ?_) rfl (by kernel_rfl) (by kernel_rfl) (by kernel_rfl) (fun _ _ _ h => h) (Or.inl ⟨by kernel_rfl, ?hy⟩) hS1 ?rest
    case hy => (intro W hSw; obtain ⟨q1, q2⟩ := HCELL.out j t2 HTJ.out W hSw; have ql := lt_of_cell q1; clear hSw; go_simp; with_reducible rfl)
    case rest =>
    refine wpAnyH_take (i := 24) (v := ?_) rfl (by kernel_rfl) (by kernel_rfl) (by kernel_rfl) (fun _ _ _ h => h) (Or.inl ⟨by kernel_rfl, ?hy⟩) hS1 ?rest
    case hy => (intro W hSw; clear hSw; go_simp; with_reducible rfl)
    case rest =>
    try go_simp
    refine wpAnyH_take (i := 25) (v := ?_) rfl (by kernel_rfl) (by kernel_rfl) (by kernel_rfl) (fun _ _ _ h => h) (Or.inl ⟨by kernel_rfl, ?hy⟩) hS1 ?rest
    case hy => (intro W hSw; clear hSw; go_simp; with_reducible rfl)
    case rest =>
    refine wpAnyH_take (i := 26) (v := ?_) rfl (by kernel_rfl) (by kernel_rfl) (by kernel_rfl) (fun _ _ _ h => h) (Or.inl ⟨by kernel_rfl, ?hy⟩) hS1 ?rest
    case hy => (intro W hSw; clear hSw; go_simp; with_reducible rfl)
    case rest =>
    refine wpAnyH_done (by kernel_rfl) ?_ _
    clear hS0 hS1
    go_wp2
    go_ret
    exact ⟨rfl, below_trans HB0.out (below_trans HB3.out HX8.out)⟩
  case neg =>
  have e2 : (s.2 == t2.2) = false := by
    simp only [beq_eq_false_iff_ne, ne_eq]
    intro h
    exact hst (Prod.ext (by have h1 := HS1J.out; have h2 := HPT2.out; omega) h)
  have HOF2 : Hid (∀ W, PV W g B n m (rt LV) [] false → Below w3.heap.size w3 W → Calls Tryz.prog 25 #[.pointer (some ⟨g, 0, none⟩), .agg #[.int .i64 s.1, .int .i64 s.2], .slice C p.length f] W fun e w' => e = .returned (.int .i64 0) ∧ Chg [g, B] W w') := Lib.hid (fun W hV hW => (HOF.out W hV hW).mono fun _ _ ⟨h1, _, h3⟩ => ⟨h1, h3⟩)
  go_wp2_with fail
  refine wp_region_held_drew (S := fun W => Below w3.heap.size w3 W) (by kernel_rfl) (HY4.out.drew) (fun hS0 => ?_)
  refine wpAnyH_take (i := 0) (v := ?_) rfl (by kernel_rfl) (by kernel_rfl) (by kernel_rfl) (fun _ _ _ h => h) (Or.inl ⟨by kernel_rfl, ?hy⟩) hS0 ?rest
  case hy => (intro W hSw; clear hSw; go_simp; with_reducible rfl)
  case rest =>
  refine wpAnyH_take (i := 1) (v := ?_) rfl (by kernel_rfl) (by kernel_rfl) (by kernel_rfl) (fun _ _ _ h => h) (Or.inl ⟨by kernel_rfl, ?hy⟩) hS0 ?rest
  case hy => (intro W hSw; obtain ⟨q1, q2⟩ := HKX.out W hSw; have ql := lt_of_cell q1; clear hSw; go_simp; with_reducible rfl)
  case rest =>
  refine wpAnyH_take (i := 2) (v := ?_) rfl (by kernel_rfl) (by kernel_rfl) (by kernel_rfl) (fun _ _ _ h => h) (Or.inl ⟨by kernel_rfl, ?hy⟩) hS0 ?rest
  case hy => (intro W hSw; clear hSw; go_simp; with_reducible rfl)
  case rest =>
  refine wpAnyH_ready (rs := [3]) (by kernel_rfl) (by simp) ?_
  refine AllReadyH.cons rfl (fun K hK => ?_) (AllReadyH.nil)
  go_simp
  refine (HOF2.out _ (HV4.out.below (Below.refl _ _).drew) HY4.out.drew).mono ?_
  rintro e w8 ⟨rfl, hc⟩
  have HX8 := Lib.hid (below_chg HY4.out.drew hc HGB.out)
  clear hc
  go_simp
  refine hK.out _ _ HX8.out (fun hS1 => ?_)
  clear hK K
  refine wpAnyH_take (i := 4) (v := ?_) rfl (by kernel_rfl) (by kernel_rfl) (by kernel_rfl) (fun _ _ _ h => h) (Or.inl ⟨by kernel_rfl, ?hy⟩) hS1 ?rest
  case hy => (intro W hSw; clear hSw; go_simp; with_reducible rfl)
  case rest =>
  refine wpAnyH_take (i := 5) (v := ?_) rfl (by kernel_rfl) (by kernel_rfl) (by kernel_rfl) (fun _ _ _ h => h) (Or.inl ⟨by kernel_rfl, ?hy⟩) hS1 ?rest
  case hy => (intro W hSw; clear hSw; go_simp; with_reducible rfl)
  case rest =>
  refine wpAnyH_take (i := 6) (v := ?_) rfl (by kernel_rfl) (by kernel_rfl) (by kernel_rfl) (fun _ _ _ h => h) (Or.inl ⟨by kernel_rfl, ?hy⟩) hS1 ?rest
  case hy => (intro W hSw; clear hSw; go_simp; with_reducible rfl)
  case rest =>
  try go_simp
  refine wpAnyH_take (i := 7) (v := ?_) rfl (by kernel_rfl) (by kernel_rfl) (by kernel_rfl) (fun _ _ _ h => h) (Or.inl ⟨by kernel_rfl, ?hy⟩) hS1 ?rest
  case hy => (intro W hSw; obtain ⟨q1, q2⟩ := HKX.out W hSw; have ql := lt_of_cell q1; clear hSw; go_simp; with_reducible rfl)
  case rest =>
  refine wpAnyH_take (i := 8) (v := ?_) rfl (by kernel_rfl) (by kernel_rfl) (by kernel_rfl) (fun _ _ _ h => h) (Or.inl ⟨by kernel_rfl, ?hy⟩) hS1 ?rest
  case hy => (intro W hSw; clear hSw; go_simp; with_reducible rfl)
  case rest =>
  refine wpAnyH_take (i := 9) (v := ?_) rfl (by kernel_rfl) (by kernel_rfl) (by kernel_rfl) (fun _ _ _ h => h) (Or.inl ⟨by kernel_rfl, ?hy⟩) hS1 ?rest
  case hy => (intro W hSw; clear hSw; go_simp; with_reducible rfl)
  case rest =>
  refine wpAnyH_take (i := 10) (v := ?_) rfl (by kernel_rfl) (by kernel_rfl) (by kernel_rfl) (fun _ _ _ h => h) (Or.inl ⟨by kernel_rfl, ?hy⟩) hS1 ?rest
  case hy => (intro W hSw; clear hSw; go_simp; with_reducible rfl)
  case rest =>
  refine wpAnyH_take (i := 11) (v := ?_) rfl (by kernel_rfl) (by kernel_rfl) (by kernel_rfl) (fun _ _ _ h => h) (Or.inl ⟨by kernel_rfl, ?hy⟩) hS1 ?rest
  case hy => (intro W hSw; obtain ⟨q1, q2⟩ := HKX.out W hSw; have ql := lt_of_cell q1; clear hSw; go_simp; with_reducible rfl)
  case rest =>
  refine wpAnyH_take (i := 12) (v := ?_) rfl (by kernel_rfl) (by kernel_rfl) (by kernel_rfl) (fun _ _ _ h => h) (Or.inl ⟨by kernel_rfl, ?hy⟩) hS1 ?rest
  case hy => (intro W hSw; clear hSw; go_simp; with_reducible rfl)
  case rest =>
  try go_simp
  refine wpAnyH_take (i := 13) (v := ?_) rfl (by kernel_rfl) (by kernel_rfl) (by kernel_rfl) (fun _ _ _ h => h) (Or.inl ⟨by kernel_rfl, ?hy⟩) hS1 ?rest
  case hy => (intro W hSw; clear hSw; go_simp; with_reducible rfl)
  case rest =>
  refine wpAnyH_take (i := 14) (v := ?_) rfl (by kernel_rfl) (by kernel_rfl) (by kernel_rfl) (fun _ _ _ h => h) (Or.inl ⟨by kernel_rfl, ?hy⟩) hS1 ?rest
  case hy => (intro W hSw; clear hSw; go_simp; with_reducible rfl)
  case rest =>
  refine wpAnyH_take (i := 15) (v := ?_) rfl (by kernel_rfl) (by kernel_rfl) (by kernel_rfl) (fun _ _ _ h => h) (Or.inl ⟨by kernel_rfl, ?hy⟩) hS1 ?rest
  case hy => (intro W hSw; clear hSw; go_simp; with_reducible rfl)
  case rest =>
  refine wpAnyH_take (i := 16) (v := ?_) rfl (by kernel_rfl) (by kernel_rfl) (by kernel_rfl) (fun _ _ _ h => h) (Or.inl ⟨by kernel_rfl, ?hy⟩) hS1 ?rest
  case hy => (intro W hSw; clear hSw; go_simp; with_reducible rfl)
  case rest =>
  refine wpAnyH_take (i := 17) (v := ?_) rfl (by kernel_rfl) (by kernel_rfl) (by kernel_rfl) (fun _ _ _ h => h) (Or.inl ⟨by kernel_rfl, ?hy⟩) hS1 ?rest
  case hy => (intro W hSw; obtain ⟨q1, q2⟩ := HKX.out W hSw; have ql := lt_of_cell q1; clear hSw; go_simp; with_reducible rfl)
  case rest =>
  refine wpAnyH_take (i := 18) (v := ?_) rfl (by kernel_rfl) (by kernel_rfl) (by kernel_rfl) (fun _ _ _ h => h) (Or.inl ⟨by kernel_rfl, ?hy⟩) hS1 ?rest
  case hy => (intro W hSw; clear hSw; go_simp; with_reducible rfl)
  case rest =>
  try go_simp
  refine wpAnyH_take (i := 19) (v := ?_) rfl (by kernel_rfl) (by kernel_rfl) (by kernel_rfl) (fun _ _ _ h => h) (Or.inl ⟨by kernel_rfl, ?hy⟩) hS1 ?rest
  case hy => (intro W hSw; clear hSw; go_simp; with_reducible rfl)
  case rest =>
  refine wpAnyH_take (i := 20) (v := ?_) rfl (by kernel_rfl) (by kernel_rfl) (by kernel_rfl) (fun _ _ _ h => h) (Or.inl ⟨by kernel_rfl, ?hy⟩) hS1 ?rest
  case hy => (intro W hSw; obtain ⟨q1, q2⟩ := HKX.out W hSw; have ql := lt_of_cell q1; clear hSw; go_simp; with_reducible rfl)
  case rest =>
  refine wpAnyH_take (i := 21) (v := ?_) rfl (by kernel_rfl) (by kernel_rfl) (by kernel_rfl) (fun _ _ _ h => h) (Or.inl ⟨by kernel_rfl, ?hy⟩) hS1 ?rest
  case hy => (intro W hSw; clear hSw; go_simp; with_reducible rfl)
  case rest =>
  refine wpAnyH_take (i := 22) (v := ?_) rfl (by kernel_rfl) (by kernel_rfl) (by kernel_rfl) (fun _ _ _ h => h) (Or.inl ⟨by kernel_rfl, ?hy⟩) hS1 ?rest
  case hy => (intro W hSw; clear hSw; go_simp; with_reducible rfl)
  case rest =>
  refine wpAnyH_take (i := 23) (v := ?_) rfl (by kernel_rfl) (by kernel_rfl) (by kernel_rfl) (fun _ _ _ h => h) (Or.inl ⟨by kernel_rfl, ?hy⟩) hS1 ?rest
  case hy => (intro W hSw; obtain ⟨q1, q2⟩ := HCELL.out j t2 HTJ.out W hSw; have ql := lt_of_cell q1; clear hSw; go_simp; with_reducible rfl)
  case rest =>
  refine wpAnyH_take (i := 24) (v := ?_) rfl (by kernel_rfl) (by kernel_rfl) (by kernel_rfl) (fun _ _ _ h => h) (Or.inl ⟨by kernel_rfl, ?hy⟩) hS1 ?rest
  case hy => (intro W hSw; clear hSw; go_simp; with_reducible rfl)
  case rest =>
  try go_simp
  refine wpAnyH_take (i := 25) (v := ?_) rfl (by kernel_rfl) (by kernel_rfl) (by kernel_rfl) (fun _ _ _ h => h) (Or.inl ⟨by kernel_rfl, ?hy⟩) hS1 ?rest
  case hy => (intro W hSw; clear hSw; go_simp; with_reducible rfl)
  case rest =>
  refine wpAnyH_take (i := 26) (v := ?_) rfl (by kernel_rfl) (by kernel_rfl) (by kernel_rfl) (fun _ _ _ h => h) (Or.inl ⟨by kernel_rfl, ?hy⟩) hS1 ?rest
  case hy => (intro W hSw; clear hSw; go_simp; with_reducible rfl)
  case rest =>
  refine wpAnyH_done (by kernel_rfl) ?_ _
  clear hS0 hS1
  have HB8 := Lib.hid (below_trans HB3.out HX8.out)
  have HKA : Hid (∀ W, Below w8.heap.size w8 W → W.cell? ⟨w.heap.size, 0, none⟩ = some (.int .i64 s.1) ∧ W.cell? ⟨w.heap.size, 1, none⟩ = some (.int .i64 s.2)) := Lib.hid (fun W hW => HKX.out W (below_trans HX8.out hW))
  have HCL8 : Hid (∀ (j : Nat) (t : Int × Int), l[j]? = some t → ∀ W, Below w8.heap.size w8 W → W.cell? ⟨bl, ol + j * 2, none⟩ = some (.int .i64 t.1) ∧ W.cell? ⟨bl, ol + j * 2 + 1, none⟩ = some (.int .i64 t.2)) := Lib.hid (fun j t hj W hW => HCELL.out j t hj W (below_trans HX8.out hW))
  have HCHR : Hid (∀ W, Below w8.heap.size w8 W → Calls Tryz.prog 31 #[.string (rt LV), .int .i64 (m : Int), .agg #[.int .i64 s.1, .int .i64 s.2], .slice C p.length f] W fun e w' => e = .returned (.bool true) ∧ Below W.heap.size W w') := Lib.hid (fun W hW => by
    have := r7check_any (rt LV) (m : Int) s C f p W (HP.out W (below_trans HB8.out hW)) (by omega) hcp HPS.out
    rw [HCV.out] at this
    exact this)
  have hcol := commit_col l j s t2 p (by have := g1; omega) (by have := valid_nat HVT.out; omega) HTJ.out hst (by rw [HSL.out, HLVE.out]; exact HPP.out.2.1)
  rw [HSL.out, HLVE.out] at hcol
  have HLVL : Hid (LV.length = m) := Lib.hid (by rw [← HLVE.out, List.length_map, HSL.out])
  have hlen : (txt LV).length ≤ 20 ∧ (ptx m j (shLf s) p).length ≤ 20 := by
    have h1 := (txt_len LV).1
    have h2 := HLVL.out
    have h3 := ptx_len m j (shLf s) p
    have h4 := plen_lt_n m j (by omega)
    exact ⟨by omega, by omega⟩
  have hys : (shLf s).size ≤ 200 := by rw [shLf_eq, dg_size]; omega
  have hts := shT_sm HVS.out
  have hjz : ∀ u : Int × Int, validB u = true → (shJ u).size ≤ 1000000000 := fun u hu => by
    have h1 := jb2 bLeaf (shT u) (by decide) (shT_sm hu)
    unfold shJ
    show ((jn [bLeaf, shT u]).toArray).size ≤ 1000000000
    simp; omega
  have HSHOWN : Hid (∀ (W : World) (A' : Option Addr) (c' : Nat), Strs W A' (l.map shJ ++ txt LV ++ [shJ s] ++ ptx m j (shLf s) p) → Calls Tryz.prog 36 #[.slice A' (m + (txt LV).length + 1 + (ptx m j (shLf s) p).length) c'] W fun e w' => e = .returned (.bool true) ∧ Below W.heap.size W w') := Lib.hid (fun W A' c' hs' => by
    have := shown_any A' c' (l.map shJ ++ txt LV ++ [shJ s] ++ ptx m j (shLf s) p) W hs' (by have := HSL.out; rw [List.length_append, List.length_append, List.length_append, List.length_map, List.length_singleton]; omega) (fun u hu => by
      rcases List.mem_append.1 hu with h5 | h5
      · rcases List.mem_append.1 h5 with h6 | h6
        · rcases List.mem_append.1 h6 with h7 | h7
          · obtain ⟨x, hx, rfl⟩ := List.mem_map.1 h7
            exact hjz x (List.all_eq_true.1 HON.out x hx)
          · exact txt_small LV HLS0.out u h7
        · rw [List.mem_singleton.1 h6]; exact hjz s HVS.out
      · exact ptx_small m j (shLf s) p HPP.out.1 hys u h5) hcol
    rw [List.length_append, List.length_append, List.length_append, List.length_map, List.length_singleton, HSL.out] at this
    exact this)
  have HPTX : Hid (∀ (W : World), Below w8.heap.size w8 W → Calls Tryz.prog 37 #[.int .i64 (m : Int), .int .i64 (j : Int), .string (shLf s), .slice C p.length f] W fun e w' => ∃ v, e = .returned v ∧ w'.ownsRow W.heap.size 9 1 v (ptx m j (shLf s) p).length ((ptx m j (shLf s) p).map Value.string) ∧ Below W.heap.size W w') := Lib.hid (fun W hW => rptx_any m m j (shLf s) C f p W (Nat.le_refl _) (by omega) (by omega) hjm HPP.out.2.2 hcp (HP.out W (below_trans HB8.out hW)) HPS.out hys)
  have HTX : Hid (∀ W, Calls Tryz.prog 33 #[.agg #[.int .i64 s.1, .int .i64 s.2]] W fun e w' => e = .returned (.string (shT s)) ∧ Below W.heap.size W w') := Lib.hid (fun W => rtext_any s W ⟨by omega, by omega⟩ ⟨by omega, by omega⟩)
  have HLF : Hid (∀ W, Calls Tryz.prog 38 #[.string (shT s)] W fun e w' => e = .returned (.string (shLf s)) ∧ Below W.heap.size W w') := Lib.hid (fun W => rleaf_any (shT s) hts W)
  have HJN : Hid (∀ W : World, Calls Tryz.prog 32 #[.slice (some ⟨W.heap.size, 0, none⟩) 2 2] (W.alloc (.cells #[.string ⟨#[108, 101, 97, 102]⟩, .string (shT s)] 9)) fun e w' => e = .returned (.string (shJ s)) ∧ Below W.heap.size W w') := Lib.hid (fun W => rjoin2 (shT s) hts W)
  have HLEA : Hid (∀ W, Below w8.heap.size w8 W → _) := Lib.hid (fun W hW => HLE0.out (some ⟨bl, ol, none⟩) c2 W (HP3.out W (below_trans HX8.out hW)))
  have HLEN := Lib.hid hlen
  clear hcol hlen hys hts hjz
  generalize ptx m j (shLf s) p = TX at *
  generalize shLf s = ys at *
  generalize shT s = ts at *
  generalize shJ s = js at *
  generalize txt LV = TL at *
  obtain ⟨ip, hj1, hy0, hy1, hy2⟩ := info_parts info_strg
  have HI := Lib.hid (And.intro hj1 (And.intro hy0 (And.intro hy1 hy2)))
  clear hj1 hy0 hy1 hy2
  have HO0 : Hid (∀ W : World, W.ownsRow W.heap.size 9 1 (.slice none 0 0) 0 []) := Lib.hid (fun W => ⟨rfl, .inl ⟨rfl, rfl⟩⟩)
  obtain ⟨q1, q2⟩ := HKA.out w8 (Below.refl _ _)
  have ql := lt_of_cell q1
  go_wp2_with fail
  refine (HCHR.out w8 (Below.refl _ _)).mono ?_
  rintro e w9 ⟨rfl, hb⟩
  have HZ9 := Lib.hid hb
  clear hb q1 q2 ql
  go_wp2_with fail
  go_loopw [21, 22] (fun u21 u22 wr => ∃ i : Nat, i ≤ m ∧ u22 = .int .i64 i ∧ Below w8.heap.size w8 wr ∧ wr.ownsRow w8.heap.size 9 1 u21 i (((l.take i).map shJ).map Value.string)) (fun _ u22 _ => m - (intOf u22).toNat)
  case atStart => exact ⟨0, Nat.zero_le _, rfl, HZ9.out, own_base (HO0.out w9) HZ9.out.size⟩
  case round =>
  obtain ⟨i, hi, rfl, hbw, how⟩ := hrel
  have HBW := Lib.hid hbw
  have HOW := Lib.hid how
  clear hbw how
  by_cases hlt : i < m
  case pos =>
    obtain ⟨t3, ht3⟩ := get_some l i (by rw [HSL.out]; exact hlt)
    obtain ⟨d1, d2⟩ := HCL8.out i t3 ht3 wr HBW.out
    have dl := lt_of_cell d1
    have hv3 := (HLV.out i t3 ht3).1
    obtain ⟨f1, f2⟩ := valid_nat hv3
    have hili : (i : Int) < (m : Int) := by omega
    have HTX3 := Lib.hid (rtext_any t3 wr ⟨by omega, by omega⟩ ⟨by omega, by omega⟩)
    have HJN3 := Lib.hid (fun W => rjoin2 (shT t3) (shT_sm hv3) W)
    have HS3 := Lib.hid ht3
    obtain ⟨y3, hy3⟩ : ∃ y, shJ t3 = y := ⟨_, rfl⟩
    have HY3 := Lib.hid hy3
    unfold shJ at hy3
    rw [hy3] at HJN3
    clear ht3 hv3 hy3
    generalize shT t3 = ts3 at *
    go_wp2_with fail
    refine HTX3.out.mono ?_
    rintro e z1 ⟨rfl, hb1⟩
    have HZ1 := Lib.hid (below_trans HBW.out hb1)
    have HO1 := Lib.hid (row_below HOW.out hb1)
    clear hb1 d1 d2 dl
    go_wp2_with fail
    refine (HJN3.out z1).mono ?_
    rintro e z2 ⟨rfl, hb2⟩
    have HZ2 := Lib.hid (below_trans HZ1.out hb2)
    have HO2 : Hid ((z2.alloc (.cells #[.string y3] 9)).ownsRow w8.heap.size 9 1 u21 i (((l.take i).map shJ).map Value.string)) := Lib.hid (row_below (row_below HO1.out hb2) (below_alloc (Below.refl _ _) _))
    clear hb2
    go_wp2_with (at_builtin; refine wpList_app _ rfl (.tmp 107) (.tmp 115) 46 46 rfl w8.heap.size 9 9 ip _ 1 16 Tryz.underlying46 Tryz.underlying46 HI.out.1 HI.out.2.1 HI.out.2.2.1 HI.out.2.2.2 rfl (by omega) u21 i _ rfl HO2.out (some ⟨z2.heap.size, 0, none⟩) 1 1 [.string y3] rfl (Rd_new z2 #[.string y3] _ 1 1 _ rfl rfl) (by simp [Value.oneCell']) (by simp only [maxLen]; omega) (by omega) (by have := HZ2.out.size; simp; omega) ?_)
    intro v4 z4 hown4 hg4
    have HZ4 : Hid (Below w8.heap.size w8 z4) := Lib.hid ((below_alloc HZ2.out _).grown hg4 (by have := HZ2.out.size; simp; omega) (fun j hj => (HO2.out.lt j hj).1))
    have HO4 := Lib.hid hown4
    clear hown4 hg4
    go_wp2
    go_roundw
    case rel => exact ⟨i + 1, by omega, by go_num, HZ4.out, by rw [take_snoc _ _ _ HS3.out]; simpa [HY3.out] using HO4.out⟩
    case measure => simp [intOf]; omega
  case neg =>
  obtain rfl : i = m := by omega
  rw [List.take_of_length_le (by rw [HSL.out]; exact Nat.le_refl _)] at HOW
  obtain ⟨y0, rfl⟩ : ∃ y0 : World, y0 = wr := ⟨_, rfl⟩
  obtain ⟨q1, q2⟩ := HKA.out y0 HBW.out
  have ql := lt_of_cell q1
  go_wp2_with fail
  refine (HTX.out y0).mono ?_
  rintro e y1 ⟨rfl, hb⟩
  have HY1 := Lib.hid (below_trans HBW.out hb)
  have HOA := Lib.hid (row_below HOW.out hb)
  clear hb q1 q2 ql
  go_wp2_with fail
  refine (HLEA.out y1 HY1.out).mono ?_
  rintro e y2 ⟨v2, rfl, ho, hb⟩
  have HY2 := Lib.hid (below_trans HY1.out hb)
  have HOB := Lib.hid (row_below HOA.out hb)
  obtain ⟨A5, c5, rfl, hc5, -, hr5⟩ := Rd.of_own ho
  have HXL2 := Lib.hid (HXL.out y2 A5 c5 hc5 (by unfold Strs; rw [HLVL.out]; exact hr5))
  clear ho hb hr5
  go_wp2_with fail
  refine HXL2.out.mono ?_
  rintro e y3 ⟨v3, rfl, ho, hb⟩
  have HY3 := Lib.hid (below_trans HY2.out hb)
  have HOC := Lib.hid (row_below HOB.out hb)
  obtain ⟨A7, c7, rfl, -, -, hr7⟩ := Rd.of_own ho
  have HR7 := Lib.hid hr7
  clear ho hb hr7
  go_wp2_with (at_builtin; refine wpList_app _ rfl (.tmp 119) (.tmp 122) 46 46 rfl w8.heap.size 9 9 ip _ 1 16 Tryz.underlying46 Tryz.underlying46 HI.out.1 HI.out.2.1 HI.out.2.2.1 HI.out.2.2.2 rfl (by omega) u21 i _ rfl HOC.out A7 TL.length c7 (TL.map Value.string) rfl HR7.out (by intro u hu; obtain ⟨t, _, rfl⟩ := List.mem_map.1 hu; rfl) (by have := HLEN.out; simp only [maxLen]; omega) (by have := HLEN.out; omega) HY3.out.size ?_)
  intro v4 y4 hown hg
  have HY4 : Hid (Below w8.heap.size w8 y4) := Lib.hid (HY3.out.grown hg HY3.out.size (fun j hj => (HOC.out.lt j hj).1))
  have HOD : Hid (y4.ownsRow w8.heap.size 9 1 v4 (i + TL.length) ((l.map shJ).map Value.string ++ TL.map Value.string)) := Lib.hid (by rw [List.map_map]; first | exact hown | (rw [← List.map_map]; exact hown))
  clear hown hg
  go_wp2_with fail
  refine (HJN.out y4).mono ?_
  rintro e y5 ⟨rfl, hb⟩
  have HY5 := Lib.hid (below_trans HY4.out hb)
  have HOE : Hid ((y5.alloc (.cells #[.string js] 9)).ownsRow w8.heap.size 9 1 v4 (i + TL.length) ((l.map shJ).map Value.string ++ TL.map Value.string)) := Lib.hid (row_below (row_below HOD.out hb) (below_alloc (Below.refl _ _) _))
  clear hb
  go_wp2_with (at_builtin; refine wpList_app _ rfl (.tmp 123) (.tmp 127) 46 46 rfl w8.heap.size 9 9 ip _ 1 16 Tryz.underlying46 Tryz.underlying46 HI.out.1 HI.out.2.1 HI.out.2.2.1 HI.out.2.2.2 rfl (by omega) v4 (i + TL.length) _ rfl HOE.out (some ⟨y5.heap.size, 0, none⟩) 1 1 [.string js] rfl (Rd_new y5 #[.string js] _ 1 1 _ rfl rfl) (by simp [Value.oneCell']) (by have := HLEN.out; simp only [maxLen]; omega) (by have := HLEN.out; omega) (by have := HY5.out.size; simp; omega) ?_)
  intro v6 y6 hown hg
  have HY6 : Hid (Below w8.heap.size w8 y6) := Lib.hid ((below_alloc HY5.out _).grown hg (by have := HY5.out.size; simp; omega) (fun j hj => (HOE.out.lt j hj).1))
  have HOF6 := Lib.hid hown
  clear hown hg
  go_wp2_with fail
  refine wp_region_held_drew (S := fun W => Below w8.heap.size w8 W) (by kernel_rfl) (HY6.out.drew) (fun hS0 => ?_)
  refine wpAnyH_take (i := 0) (v := ?_) rfl (by kernel_rfl) (by kernel_rfl) (by kernel_rfl) (fun _ _ _ h => h) (Or.inl ⟨by kernel_rfl, ?hy⟩) hS0 ?rest
  case hy => (intro W hSw; clear hSw; go_simp; with_reducible rfl)
  case rest =>
  refine wpAnyH_take (i := 1) (v := ?_) rfl (by kernel_rfl) (by kernel_rfl) (by kernel_rfl) (fun _ _ _ h => h) (Or.inl ⟨by kernel_rfl, ?hy⟩) hS0 ?rest
  case hy => (intro W hSw; clear hSw; go_simp; with_reducible rfl)
  case rest =>
  refine wpAnyH_take (i := 2) (v := ?_) rfl (by kernel_rfl) (by kernel_rfl) (by kernel_rfl) (fun _ _ _ h => h) (Or.inl ⟨by kernel_rfl, ?hy⟩) hS0 ?rest
  case hy => (intro W hSw; clear hSw; go_simp; with_reducible rfl)
  case rest =>
  refine wpAnyH_take (i := 3) (v := ?_) rfl (by kernel_rfl) (by kernel_rfl) (by kernel_rfl) (fun _ _ _ h => h) (Or.inl ⟨by kernel_rfl, ?hy⟩) hS0 ?rest
  case hy => (intro W hSw; clear hSw; go_simp; with_reducible rfl)
  case rest =>
  refine wpAnyH_take (i := 4) (v := ?_) rfl (by kernel_rfl) (by kernel_rfl) (by kernel_rfl) (fun _ _ _ h => h) (Or.inl ⟨by kernel_rfl, ?hy⟩) hS0 ?rest
  case hy => (intro W hSw; clear hSw; go_simp; with_reducible rfl)
  case rest =>
  refine wpAnyH_take (i := 5) (v := ?_) rfl (by kernel_rfl) (by kernel_rfl) (by kernel_rfl) (fun _ _ _ h => h) (Or.inl ⟨by kernel_rfl, ?hy⟩) hS0 ?rest
  case hy => (intro W hSw; clear hSw; go_simp; with_reducible rfl)
  case rest =>
  try go_simp
  refine wpAnyH_take (i := 6) (v := ?_) rfl (by kernel_rfl) (by kernel_rfl) (by kernel_rfl) (fun _ _ _ h => h) (Or.inl ⟨by kernel_rfl, ?hy⟩) hS0 ?rest
  case hy => (intro W hSw; obtain ⟨q1, q2⟩ := HKA.out W hSw; have ql := lt_of_cell q1; clear hSw; go_simp; with_reducible rfl)
  case rest =>
  refine wpAnyH_take (i := 7) (v := ?_) rfl (by kernel_rfl) (by kernel_rfl) (by kernel_rfl) (fun _ _ _ h => h) (Or.inl ⟨by kernel_rfl, ?hy⟩) hS0 ?rest
  case hy => (intro W hSw; clear hSw; go_simp; with_reducible rfl)
  case rest =>
  refine wpAnyH_take (i := 8) (v := ?_) rfl (by kernel_rfl) (by kernel_rfl) (by kernel_rfl) (fun _ _ _ h => h) (Or.inl ⟨by kernel_rfl, ?hy⟩) hS0 ?rest
  case hy => (intro W hSw; clear hSw; go_simp; with_reducible rfl)
  case rest =>
  refine wpAnyH_take (i := 10) (v := ?_) rfl (by kernel_rfl) (by kernel_rfl) (by kernel_rfl) (fun _ _ _ h => h) (Or.inl ⟨by kernel_rfl, ?hy⟩) hS0 ?rest
  case hy => (intro W hSw; clear hSw; go_simp; with_reducible rfl)
  case rest =>
  refine wpAnyH_ready (rs := [9]) (by kernel_rfl) (by simp) ?_
  refine AllReadyH.cons rfl (fun K hK => ?_) (AllReadyH.nil)
  go_simp
  refine (HLF.out _).mono ?_
  rintro e y8 ⟨rfl, hb⟩
  have HY8 := Lib.hid (below_trans HY6.out.drew hb)
  have HOG := Lib.hid (row_below HOF6.out (below_trans (Below.refl y6.heap.size y6).drew hb))
  clear hb
  go_simp
  refine hK.out _ _ HY8.out (fun hS1 => ?_)
  clear hK K
  refine wpAnyH_ready (rs := [11]) (by kernel_rfl) (by simp) ?_
  refine AllReadyH.cons rfl (fun K hK => ?_) (AllReadyH.nil)
  go_simp
  refine (HPTX.out y8 HY8.out).mono ?_
  rintro e y9 ⟨v9, rfl, ho, hb⟩
  have HY9 := Lib.hid (below_trans HY8.out hb)
  have HOJ := Lib.hid (row_below HOG.out hb)
  obtain ⟨A9, c9, rfl, -, -, hr9⟩ := Rd.of_own ho
  have HR9 := Lib.hid hr9
  clear ho hb hr9
  go_simp
  refine hK.out _ _ HY9.out (fun hS2 => ?_)
  clear hK K
  refine wpAnyH_ready (rs := [12]) (by kernel_rfl) (by simp) ?_
  refine AllReadyH.cons rfl (fun K hK => ?_) (AllReadyH.nil)
  refine step_app y9 (by kernel_rfl) (.tmp 131) (.tmp 140) 46 46 rfl w8.heap.size 9 9 ip _ 1 16 Tryz.underlying46 Tryz.underlying46 HI.out.1 HI.out.2.1 HI.out.2.2.1 HI.out.2.2.2 rfl (by omega) v6 (i + TL.length + 1) _ (by kernel_rfl) HOJ.out A9 TX.length c9 (TX.map Value.string) (by kernel_rfl) HR9.out (by intro u hu; obtain ⟨t, _, rfl⟩ := List.mem_map.1 hu; rfl) (by have := HLEN.out; simp only [maxLen]; omega) (by have := HLEN.out; omega) HY9.out.size ?_
  intro v10 y10 ho hg
  have HY10 : Hid (Below w8.heap.size w8 y10) := Lib.hid (HY9.out.grown hg HY9.out.size (fun j hj => (HOJ.out.lt j hj).1))
  obtain ⟨A10, c10, rfl, -, -, hr10⟩ := Rd.of_own ho
  have HSH := Lib.hid (HSHOWN.out y10 A10 c10 (by unfold Strs; simpa [HSL.out, Nat.add_assoc, Nat.add_comm 1] using hr10))
  clear ho hg hr10
  refine hK.out _ _ HY10.out (fun hS3 => ?_)
  clear hK K
  refine wpAnyH_ready (rs := [13]) (by kernel_rfl) (by simp) ?_
  refine AllReadyH.cons rfl (fun K hK => ?_) (AllReadyH.nil)
  go_simp
  refine HSH.out.mono ?_
  rintro e y11 ⟨rfl, hb⟩
  have HY11 := Lib.hid (below_trans HY10.out hb)
  clear hb
  go_simp
  refine hK.out _ _ HY11.out (fun hS4 => ?_)
  clear hK K
  refine wpAnyH_take (i := 14) (v := ?_) rfl (by kernel_rfl) (by kernel_rfl) (by kernel_rfl) (fun _ _ _ h => h) (Or.inl ⟨by kernel_rfl, ?hy⟩) hS4 ?rest
  case hy => (intro W hSw; clear hSw; go_simp; with_reducible rfl)
  case rest =>
  refine wpAnyH_take (i := 15) (v := ?_) rfl (by kernel_rfl) (by kernel_rfl) (by kernel_rfl) (fun _ _ _ h => h) (Or.inl ⟨by kernel_rfl, ?hy⟩) hS4 ?rest
  case hy => (intro W hSw; clear hSw; go_simp; with_reducible rfl)
  case rest =>
  try go_simp
  refine wpAnyH_done (by kernel_rfl) ?_ _
  clear hS0 hS1 hS2 hS3 hS4
  go_wp2
  go_ret
  exact ⟨rfl, below_trans HB0.out (below_trans HB8.out HY11.out)⟩
end

section
open Go.RowKit Go.ChangeShapes Go.WideShapes Go.Deep

def ShC (cs : List Value) (s : Int × Int) : Prop := cs = [.int .i64 s.1, .int .i64 s.2] ∧ (-9223372036854775808 ≤ s.1 ∧ s.1 ≤ 9223372036854775807) ∧ (-9223372036854775808 ≤ s.2 ∧ s.2 ≤ 9223372036854775807)

theorem opn_share (w : World) : Opn Tryz.prog w 37 ShC := by
  intro H enc n cs x h
  obtain ⟨V, rfl, hf⟩ := Opn.fields1 Tryz.underlying37 (by kernel_rfl) (by kernel_rfl) h
  obtain ⟨a0, h0, w0⟩ := hf 0 _ rfl (Opn.int Tryz.underlying3)
  obtain ⟨a1, h1, w1⟩ := hf 1 _ rfl (Opn.int Tryz.underlying3)
  refine ⟨(a0, a1), ?_, wf_i64_ w0, wf_i64_ w1⟩
  simp only [List.cons.injEq, and_true] at h0 h1
  simp [List.range_succ, h0, h1]

theorem ShC.val {v : Value} {s : Int × Int} (hv : v = .agg v.cells) (h : ShC v.cells.toList s) : v = .agg #[.int .i64 s.1, .int .i64 s.2] := by
  rw [hv]
  congr 1
  exact Array.toList_inj.1 h.1

theorem ints_in {w : World} {A : Option Addr} {c : Nat} {l : List Int} (h : SlC w 1 (IntC .i64) [.slice A l.length c] l) : Ints w A l ∧ l.length ≤ 9223372036854775807 := by
  obtain ⟨A', c', he, h1, h2, h3⟩ := h
  obtain ⟨rfl, rfl⟩ : A = A' ∧ c = c' := by simpa using he
  refine ⟨⟨by simp, fun hn => ?_⟩, by unfold maxLen at h2; omega⟩
  obtain ⟨b, off, rfl, _, hc⟩ := h3 hn
  refine ⟨b, off, rfl, fun j u hu => ?_⟩
  rw [List.getElem?_map] at hu
  cases hx : l[j]? with
  | none => rw [hx] at hu; cases hu
  | some x =>
    rw [hx] at hu
    obtain ⟨cs', _, hcs, hr, _⟩ := hc j x hx
    have := hcs 0 (.int .i64 x) (by rw [hr]; rfl)
    simp only [Nat.mul_one, Nat.add_zero] at this
    rw [this]; exact hu

theorem flat2_get (l : List (Int × Int)) (j : Nat) (u : Value) (h : (flat2 l)[j]? = some u) : ∃ (k r : Nat) (p : Int × Int), l[k]? = some p ∧ j = k * 2 + r ∧ [Value.int .i64 p.1, .int .i64 p.2][r]? = some u := by
  induction l generalizing j with
  | nil => simp [flat2] at h
  | cons p l ih =>
    have e : flat2 (p :: l) = .int .i64 p.1 :: .int .i64 p.2 :: flat2 l := rfl
    rw [e] at h
    match j, h with
    | 0, h => exact ⟨0, 0, p, rfl, rfl, h⟩
    | 1, h => exact ⟨0, 1, p, rfl, rfl, h⟩
    | j + 2, h =>
      obtain ⟨k, r, q, h1, h2, h3⟩ := ih j (by simpa using h)
      exact ⟨k + 1, r, q, by simpa using h1, by omega, h3⟩

theorem prs_in {w : World} {A : Option Addr} {c : Nat} {l : List (Int × Int)} (h : SlC w 2 ShC [.slice A l.length c] l) : Prs w A l ∧ l.length ≤ 9223372036854775807 := by
  obtain ⟨A', c', he, h1, h2, h3⟩ := h
  obtain ⟨rfl, rfl⟩ : A = A' ∧ c = c' := by simpa using he
  refine ⟨⟨flat2_length l, fun hn => ?_⟩, by unfold maxLen at h2; omega⟩
  obtain ⟨b, off, rfl, _, hc⟩ := h3 hn
  refine ⟨b, off, rfl, fun j u hu => ?_⟩
  obtain ⟨k, r, p, h4, rfl, h5⟩ := flat2_get l j u hu
  obtain ⟨cs', _, hcs, hr, _⟩ := hc k p h4
  have := hcs r u (by rw [hr]; exact h5)
  rw [← Nat.add_assoc]
  exact this
end

section
open Go.RowKit

theorem strs_in {w : World} {A : Option Addr} {c : Nat} {l : List ByteArray} (h : SlC w 1 StrC [.slice A l.length c] l) : Strs w A l ∧ l.length ≤ 9223372036854775807 := by
  obtain ⟨A', c', he, h1, h2, h3⟩ := h
  obtain ⟨rfl, rfl⟩ : A = A' ∧ c = c' := by simpa using he
  refine ⟨⟨by simp, fun hn => ?_⟩, by unfold maxLen at h2; omega⟩
  obtain ⟨b, off, rfl, _, hc⟩ := h3 hn
  refine ⟨b, off, rfl, fun j u hu => ?_⟩
  rw [List.getElem?_map] at hu
  cases hx : l[j]? with
  | none => rw [hx] at hu; cases hu
  | some x =>
    rw [hx] at hu
    have hu' : Value.string x = u := by simpa using hu
    obtain ⟨cs', hl, hcs, hr⟩ := hc j x hx
    have := hcs 0 (.string x) (by rw [hr.1]; rfl)
    rw [← hu']
    simpa using this
end

end Go.Proofs.YtdlgejofggbifaaGreatDoor
