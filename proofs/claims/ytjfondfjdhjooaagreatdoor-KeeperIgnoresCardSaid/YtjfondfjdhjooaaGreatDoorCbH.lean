/- Chapter 30: the laws' helpers: Few, few, equal, example. -/
import Derived.Test.YtjfondfjdhjooaaGreatDoorCbG
namespace Go.Proofs.YtjfondfjdhjooaaGreatDoor
set_option linter.unusedVariables false
set_option linter.unusedSimpArgs false

section
open Go.RowKit

theorem below_drewN {B : Nat} {w0 w : World} (h : Below B w0 w) (n : Nat) : Below B w0 (w.drewN n) := ⟨h.os, h.tape, h.output, h.size, h.block⟩

set_option maxRecDepth 100000 in
set_option maxHeartbeats 4000000 in
theorem kequal_any (A B : Option Addr) (c d : Nat) (l m : List Int) (w : World) (hA : Ints w A l) (hB : Ints w B m) (hl : l.length ≤ 1000000) (hm : m.length ≤ 1000000) :
    Calls Tryz.prog 29 #[.slice A l.length c, .slice B m.length d] w fun e w' => e = .returned (.bool (decide (l = m))) ∧ Below w.heap.size w w' := by
  have HA := Lib.hid hA; clear hA
  have HB := Lib.hid hB; clear hB
  by_cases hlen : l.length = m.length
  case neg =>
    have h1 : (((l.length : Int)) == (m.length : Int)) = false := by simp; omega
    have h2 : (((l.length : Int)) != (m.length : Int)) = true := by simp; omega
    have hne : decide (l = m) = false := by
      rw [decide_eq_false_iff_not]
      intro e
      exact hlen (by rw [e])
    have HNE := Lib.hid hne; clear hne hlen
    go_enter Tryz.func29, Tryz.ntmps29
    go_wp2
    go_ret
    rw [HNE.out]
    exact ⟨rfl, Below.refl _ _⟩
  case pos =>
  have h1 : (((l.length : Int)) == (m.length : Int)) = true := by simp [hlen]
  have h2 : (((l.length : Int)) != (m.length : Int)) = false := by simp [hlen]
  have HL := Lib.hid hlen; clear hlen
  go_enter Tryz.func29, Tryz.ntmps29
  go_wp2_with fail
  go_loopw [5] (fun u5 wr => ∃ (k q : Nat), k ≤ l.length ∧ u5 = .int .i64 k ∧ wr = w.drewN q ∧ l.take k = m.take k) (fun u5 _ => l.length - (intOf u5).toNat)
  case atStart => exact ⟨0, 0, Nat.zero_le _, rfl, rfl, rfl⟩
  case round =>
  obtain ⟨k, q, hk, rfl, rfl, hkm⟩ := hrel
  have HKM := Lib.hid hkm; clear hkm
  by_cases hlt : k < l.length
  case neg =>
    have he : decide (l = m) = true := by
      have := HKM.out
      have hl := HL.out
      rw [List.take_of_length_le (by omega), List.take_of_length_le (by omega)] at this
      simpa using this
    have HE := Lib.hid he; clear he
    go_wp2
    go_ret
    rw [HE.out]
    exact ⟨rfl, below_drewN (Below.refl _ _) _⟩
  case pos =>
  obtain ⟨s, hs⟩ := get_some l k hlt
  obtain ⟨t, ht⟩ := get_some m k (by rw [← HL.out]; exact hlt)
  have hmk : k < m.length := (List.getElem?_eq_some_iff.1 ht).1
  obtain ⟨b, off, rfl, hc1⟩ := HA.out.at_ hs
  obtain ⟨b', off', rfl, hd1⟩ := HB.out.at_ ht
  have HS := Lib.hid hs
  have HT := Lib.hid ht
  clear hs ht
  by_cases hst : s = t
  case pos =>
    have e1 : (s == t) = true := by simp [hst]
    have e2 : (s != t) = false := by simp [hst]
    have HST := Lib.hid hst; clear hst
    go_wp2
    go_quiet (fail)
    go_wp2
    go_roundw
    case rel => exact ⟨k + 1, _, by omega, by go_num, rfl, by rw [take_snoc l k s HS.out, take_snoc m k t HT.out, HKM.out, HST.out]⟩
    case measure => simp [intOf]; omega
  case neg =>
    have hne : decide (l = m) = false := by
      rw [decide_eq_false_iff_not]
      intro e
      have h1 := HS.out
      have h2 := HT.out
      rw [e, h2] at h1
      exact hst (Option.some.inj h1).symm
    have HNE := Lib.hid hne; clear hne
    have e1 : (s == t) = false := by simp [hst]
    have e2 : (s != t) = true := by simp [hst]
    clear hst
    go_wp2
    go_quiet (fail)
    go_wp2
    go_ret
    rw [HNE.out]
    exact ⟨rfl, below_drewN (below_drewN (Below.refl _ _) _) _⟩
def fw30 (l : List Int) (salt : ByteArray) (random : List Int) : Bool := decide (l.length ≤ 6 ∧ (salt.size ≤ 60 ∨ 400 < salt.size ∧ salt.size ≤ 500) ∧ random.length ≤ 40)
set_option maxHeartbeats 2000000 in
theorem rfew30_any (A : Option Addr) (c : Nat) (l : List Int) (salt : ByteArray) (B : Option Addr) (d : Nat) (random : List Int) (w : World) :
    Calls Tryz.prog 11 #[.slice A l.length c, .string salt, .slice B random.length d] w fun e w' => e = .returned (.bool (fw30 l salt random)) ∧ w = w' := by
  by_cases h1 : l.length ≤ 6
  case neg =>
    go_enter Tryz.func11, Tryz.ntmps11
    go_wp2
    go_ret
    exact ⟨ret_bool (by rw [Bool.eq_iff_iff]; simp [fw30]; omega), rfl⟩
  case pos =>
  by_cases h2 : salt.size ≤ 60
  case pos =>
    by_cases h3 : random.length ≤ 40
    all_goals
      go_enter Tryz.func11, Tryz.ntmps11
      go_wp2
      go_ret
      exact ⟨ret_bool (by rw [Bool.eq_iff_iff]; simp [fw30]; omega), rfl⟩
  case neg =>
  by_cases h4 : 400 < salt.size
  case neg =>
    go_enter Tryz.func11, Tryz.ntmps11
    go_wp2
    go_ret
    exact ⟨ret_bool (by rw [Bool.eq_iff_iff]; simp [fw30]; omega), rfl⟩
  case pos =>
  by_cases h5 : salt.size ≤ 500
  case neg =>
    go_enter Tryz.func11, Tryz.ntmps11
    go_wp2
    go_ret
    exact ⟨ret_bool (by rw [Bool.eq_iff_iff]; simp [fw30]; omega), rfl⟩
  case pos =>
  by_cases h3 : random.length ≤ 40
  all_goals
    go_enter Tryz.func11, Tryz.ntmps11
    go_wp2
    go_ret
    exact ⟨ret_bool (by rw [Bool.eq_iff_iff]; simp [fw30]; omega), rfl⟩

def fwK (l : List Kr) (kr : Kr) : Bool := fw30 kr.seeds kr.salt kr.random && decide (kr.seeds.length = ((l[0]?.map (·.seeds.length)).getD 0))
def fewK (l : List Kr) : Bool := decide (1 ≤ l.length ∧ l.length ≤ 4) && l.all (fwK l)
theorem kr_cells {w : World} {A : Option Addr} {l : List Kr} (h : RowOf krC 3 w A l) {j : Nat} {o : Kr} (hj : l[j]? = some o) : ∃ b off, A = some ⟨b, off, none⟩ ∧ w.cell? ⟨b, off + j * 3, none⟩ = some (.slice o.SA o.seeds.length o.sc) ∧ w.cell? ⟨b, off + j * 3 + 1, none⟩ = some (.string o.salt) ∧ w.cell? ⟨b, off + j * 3 + 2, none⟩ = some (.slice o.RA o.random.length o.rc) := by
  obtain ⟨b, off, he, hc⟩ := h.at_ krC_len hj
  exact ⟨b, off, he, by have := hc 0 _ rfl; simpa using this, hc 1 _ rfl, hc 2 _ rfl⟩

set_option maxRecDepth 100000 in
set_option maxHeartbeats 8000000 in
theorem kfew_any (A : Option Addr) (c : Nat) (l : List Kr) (w : World) (hA : RowOf krC 3 w A l) (hl : l.length ≤ 9223372036854775807) :
    Calls Tryz.prog 33 #[.slice A l.length c] w fun e w' => e = .returned (.bool (fewK l)) ∧ Below w.heap.size w w' := by
  have HA : Hid (∀ W, Below w.heap.size w W → RowOf krC 3 W A l) := Lib.hid (fun W hW => hA.below hW)
  have HAT : Hid (∀ (k : Nat) (x : Kr), l[k]? = some x → fwK l x = false → fewK l = false) := Lib.hid (fun k x hx h => by unfold fewK; rw [all_false_of (fwK l) l k x hx h, Bool.and_false])
  have HBG : Hid (¬ (1 ≤ l.length ∧ l.length ≤ 4) → fewK l = false) := Lib.hid (fun h => by unfold fewK; rw [decide_eq_false h]; rfl)
  have HOK : Hid (1 ≤ l.length → l.length ≤ 4 → l.all (fwK l) = true → fewK l = true) := Lib.hid (fun h1 h2 h3 => by unfold fewK; rw [h3, decide_eq_true ⟨h1, h2⟩]; rfl)
  have HFW : Hid (∀ x : Kr, fwK l x = (fw30 x.seeds x.salt x.random && decide (x.seeds.length = ((l[0]?.map (·.seeds.length)).getD 0)))) := Lib.hid (fun x => rfl)
  obtain ⟨r, hr⟩ : ∃ r, fewK l = r := ⟨_, rfl⟩
  rw [hr] at HAT HBG HOK ⊢
  clear hA hr
  go_enter Tryz.func33, Tryz.ntmps33
  go_wp2_with fail
  go_loopw [3] (fun u3 wr => ∃ k : Nat, k ≤ l.length ∧ k ≤ 9 ∧ u3 = .int .i64 k ∧ Below w.heap.size w wr ∧ (l.take k).all (fwK l) = true) (fun u3 _ => 10 - (intOf u3).toNat)
  case atStart => exact ⟨0, Nat.zero_le _, by omega, rfl, Below.refl _ _, rfl⟩
  case round =>
  obtain ⟨k, hk, hk9, rfl, hb, hall⟩ := hrel
  have HBk := Lib.hid hb
  have HAL := Lib.hid hall
  clear hb hall
  by_cases hlt : k < l.length
  case neg =>
    obtain rfl : k = l.length := by omega
    have hal := HAL.out
    rw [List.take_of_length_le (Nat.le_refl _)] at hal
    by_cases h1 : 1 ≤ l.length
    · by_cases h4 : l.length ≤ 4
      · have hrt := HOK.out h1 h4 hal
        subst hrt
        clear hal
        go_wp2
        go_ret
        exact ⟨ret_bool (by first | rfl | (simp; done) | (simp; omega)), HBk.out⟩
      · have hrt := HBG.out (fun h => h4 h.2)
        subst hrt
        clear hal
        go_wp2
        go_ret
        exact ⟨ret_bool (by first | rfl | (simp; done) | (simp; omega)), HBk.out⟩
    · have hrt := HBG.out (fun h => h1 h.1)
      subst hrt
      clear hal
      go_wp2
      go_ret
      exact ⟨ret_bool (by first | rfl | (simp; done) | (simp; omega)), HBk.out⟩
  case pos =>
  by_cases h9 : k < 9
  case neg =>
    have hrt := HBG.out (fun h => by omega)
    subst hrt
    go_wp2
    go_ret
    exact ⟨ret_bool (by first | rfl | (simp; done) | (simp; omega)), HBk.out⟩
  case pos =>
  obtain ⟨x, hx⟩ := get_some l k hlt
  obtain ⟨x0, hx0⟩ := get_some l 0 (by omega)
  have HC : Hid (∀ W, Below w.heap.size w W → ∃ b off, A = some ⟨b, off, none⟩ ∧ W.cell? ⟨b, off + k * 3, none⟩ = some (.slice x.SA x.seeds.length x.sc) ∧ W.cell? ⟨b, off + k * 3 + 1, none⟩ = some (.string x.salt) ∧ W.cell? ⟨b, off + k * 3 + 2, none⟩ = some (.slice x.RA x.random.length x.rc) ∧ W.cell? ⟨b, off, none⟩ = some (.slice x0.SA x0.seeds.length x0.sc) ∧ b < W.heap.size) := Lib.hid (fun W hW => by
    obtain ⟨b, off, he, c0, c1, c2⟩ := kr_cells (HA.out W hW) hx
    obtain ⟨b', off', he', d0, _, _⟩ := kr_cells (HA.out W hW) hx0
    rw [he] at he'
    injection he' with he'
    injection he' with e1 e2
    subst e1 e2
    exact ⟨b, off, he, c0, c1, c2, by simpa using d0, lt_of_cell c0⟩)
  obtain ⟨bA, oA, hAe, -, -, -, -, -⟩ := HC.out w (Below.refl _ _)
  subst hAe
  have HX := Lib.hid hx
  have hfw := HFW.out x
  rw [hx0] at hfw
  have h0l : 0 < l.length := by omega
  have h0i : (0 : Int) < (l.length : Int) := by omega
  have hki : (k : Int) < (l.length : Int) := by omega
  have hk9i : (k : Int) < 9 := by omega
  obtain ⟨bf, hbf⟩ : ∃ b, fw30 x.seeds x.salt x.random = b := ⟨_, rfl⟩
  have HF : Hid (∀ W, Calls Tryz.prog 11 #[.slice x.SA x.seeds.length x.sc, .string x.salt, .slice x.RA x.random.length x.rc] W fun e w' => e = .returned (.bool bf) ∧ W = w') := Lib.hid (fun W => by
    have := rfew30_any x.SA x.sc x.seeds x.salt x.RA x.rc x.random W
    rw [hbf] at this
    exact this)
  rw [hbf] at hfw
  clear hx hx0 hbf
  have hfw' : fwK l x = (bf && decide (x.seeds.length = x0.seeds.length)) := hfw
  have HFX := Lib.hid hfw'
  clear hfw hfw'
  cases bf
  case false =>
    have hrt := HAT.out k x HX.out (by rw [HFX.out]; rfl)
    subst hrt
    go_wp2_with fail
    refine wp_region_belowC (by kernel_rfl) (by kernel_rfl) (fun WQ HQS HQN => ?_)
    refine HQS.go (fun K hK => ?_)
    go_simp
    apply Exists.intro
    refine ⟨fun W hW => ?_, hK _ ?_⟩
    · (try go_simp)
      exact rfl
    clear hK K
    refine HQS.go (fun K hK => ?_)
    go_simp
    apply Exists.intro
    refine ⟨fun W hW => ?_, hK _ ?_⟩
    · (try go_simp)
      exact rfl
    clear hK K
    refine HQS.go (fun K hK => ?_)
    go_simp
    apply Exists.intro
    refine ⟨fun W hW => ?_, hK _ ?_⟩
    · (try go_simp)
      exact rfl
    clear hK K
    refine HQS.go (fun K hK => ?_)
    go_simp
    apply Exists.intro
    refine ⟨fun W hW => ?_, hK _ ?_⟩
    · (try go_simp)
      exact rfl
    clear hK K
    refine HQS.go (fun K hK => ?_)
    go_simp
    apply Exists.intro
    refine ⟨fun W hW => ?_, hK _ ?_⟩
    · obtain ⟨b_, f_, he_, c0, c1, c2, d0, cl⟩ := HC.out W (below_trans HBk.out hW)
      cases he_
      go_simp
      exact rfl
    clear hK K
    refine HQS.go (fun K hK => ?_)
    go_simp
    apply Exists.intro
    refine ⟨fun W hW => ?_, hK _ ?_⟩
    · (try go_simp)
      exact rfl
    clear hK K
    refine HQS.go (fun K hK => ?_)
    go_simp
    apply Exists.intro
    refine ⟨fun W hW => ?_, hK _ ?_⟩
    · (try go_simp)
      exact rfl
    clear hK K
    refine HQS.go (fun K hK => ?_)
    go_simp
    apply Exists.intro
    refine ⟨fun W hW => ?_, hK _ ?_⟩
    · (try go_simp)
      exact rfl
    clear hK K
    refine HQS.go (fun K hK => ?_)
    go_simp
    apply Exists.intro
    refine ⟨fun W hW => ?_, hK _ ?_⟩
    · (try go_simp)
      exact rfl
    clear hK K
    refine HQS.go (fun K hK => ?_)
    go_simp
    apply Exists.intro
    refine ⟨fun W hW => ?_, hK _ ?_⟩
    · obtain ⟨b_, f_, he_, c0, c1, c2, d0, cl⟩ := HC.out W (below_trans HBk.out hW)
      cases he_
      go_simp
      exact rfl
    clear hK K
    refine HQS.go (fun K hK => ?_)
    go_simp
    apply Exists.intro
    refine ⟨fun W hW => ?_, hK _ ?_⟩
    · (try go_simp)
      exact rfl
    clear hK K
    refine HQS.go (fun K hK => ?_)
    go_simp
    apply Exists.intro
    refine ⟨fun W hW => ?_, hK _ ?_⟩
    · (try go_simp)
      exact rfl
    clear hK K
    refine HQS.go (fun K hK => ?_)
    go_simp
    apply Exists.intro
    refine ⟨fun W hW => ?_, hK _ ?_⟩
    · (try go_simp)
      exact rfl
    clear hK K
    refine HQS.go (fun K hK => ?_)
    go_simp
    apply Exists.intro
    refine ⟨fun W hW => ?_, hK _ ?_⟩
    · (try go_simp)
      exact rfl
    clear hK K
    refine HQS.go (fun K hK => ?_)
    go_simp
    apply Exists.intro
    refine ⟨fun W hW => ?_, hK _ ?_⟩
    · obtain ⟨b_, f_, he_, c0, c1, c2, d0, cl⟩ := HC.out W (below_trans HBk.out hW)
      cases he_
      go_simp
      exact rfl
    clear hK K
    refine HQS.go (fun K hK => ?_)
    go_simp
    apply Exists.intro
    refine ⟨fun W hW => ?_, hK _ ?_⟩
    · exact (HF.out W).mono fun _ _ ⟨he, hw⟩ => ⟨he, hw ▸ hW⟩
    clear hK K
    refine HQS.go (fun K hK => ?_)
    go_simp
    apply Exists.intro
    refine ⟨fun W hW => ?_, hK _ ?_⟩
    · (try go_simp)
      exact rfl
    clear hK K
    refine HQS.go (fun K hK => ?_)
    go_simp
    apply Exists.intro
    refine ⟨fun W hW => ?_, hK _ ?_⟩
    · (try go_simp)
      exact rfl
    clear hK K
    refine HQS.go (fun K hK => ?_)
    go_simp
    refine hK _ ?_
    clear hK K
    refine HQS.go (fun K hK => ?_)
    go_simp
    refine hK _ ?_
    clear hK K
    refine HQS.go (fun K hK => ?_)
    go_simp
    refine hK _ ?_
    clear hK K
    refine HQS.go (fun K hK => ?_)
    go_simp
    refine hK _ ?_
    clear hK K
    refine HQS.go (fun K hK => ?_)
    go_simp
    refine hK _ ?_
    clear hK K
    refine HQS.go (fun K hK => ?_)
    go_simp
    refine hK _ ?_
    clear hK K
    refine HQS.go (fun K hK => ?_)
    go_simp
    refine hK _ ?_
    clear hK K
    refine HQS.go (fun K hK => ?_)
    go_simp
    refine hK _ ?_
    clear hK K
    refine HQS.go (fun K hK => ?_)
    go_simp
    refine hK _ ?_
    clear hK K
    refine HQS.go (fun K hK => ?_)
    go_simp
    refine hK _ ?_
    clear hK K
    refine HQS.go (fun K hK => ?_)
    go_simp
    refine hK _ ?_
    clear hK K
    refine HQS.go (fun K hK => ?_)
    go_simp
    refine hK _ ?_
    clear hK K
    refine HQS.go (fun K hK => ?_)
    go_simp
    apply Exists.intro
    refine ⟨fun W hW => ?_, hK _ ?_⟩
    · (try go_simp)
      exact rfl
    clear hK K
    refine HQN.go ?_
    intro w1 hW
    have HB1 := Lib.hid (below_trans HBk.out hW)
    clear hW
    go_wp2
    go_ret
    exact ⟨rfl, HB1.out⟩
  case true =>
    by_cases hse : x.seeds.length = x0.seeds.length
    case neg =>
      have hrt := HAT.out k x HX.out (by rw [HFX.out, decide_eq_false hse]; rfl)
      subst hrt
      have d1 : ((x.seeds.length : Int) == (x0.seeds.length : Int)) = false := by simp; omega
      have d2 : ((x.seeds.length : Int) != (x0.seeds.length : Int)) = true := by simp; omega
      clear hse
      go_wp2_with fail
      refine wp_region_belowC (by kernel_rfl) (by kernel_rfl) (fun WQ HQS HQN => ?_)
      refine HQS.go (fun K hK => ?_)
      go_simp
      apply Exists.intro
      refine ⟨fun W hW => ?_, hK _ ?_⟩
      · (try go_simp)
        exact rfl
      clear hK K
      refine HQS.go (fun K hK => ?_)
      go_simp
      apply Exists.intro
      refine ⟨fun W hW => ?_, hK _ ?_⟩
      · (try go_simp)
        exact rfl
      clear hK K
      refine HQS.go (fun K hK => ?_)
      go_simp
      apply Exists.intro
      refine ⟨fun W hW => ?_, hK _ ?_⟩
      · (try go_simp)
        exact rfl
      clear hK K
      refine HQS.go (fun K hK => ?_)
      go_simp
      apply Exists.intro
      refine ⟨fun W hW => ?_, hK _ ?_⟩
      · (try go_simp)
        exact rfl
      clear hK K
      refine HQS.go (fun K hK => ?_)
      go_simp
      apply Exists.intro
      refine ⟨fun W hW => ?_, hK _ ?_⟩
      · obtain ⟨b_, f_, he_, c0, c1, c2, d0, cl⟩ := HC.out W (below_trans HBk.out hW)
        cases he_
        go_simp
        exact rfl
      clear hK K
      refine HQS.go (fun K hK => ?_)
      go_simp
      apply Exists.intro
      refine ⟨fun W hW => ?_, hK _ ?_⟩
      · (try go_simp)
        exact rfl
      clear hK K
      refine HQS.go (fun K hK => ?_)
      go_simp
      apply Exists.intro
      refine ⟨fun W hW => ?_, hK _ ?_⟩
      · (try go_simp)
        exact rfl
      clear hK K
      refine HQS.go (fun K hK => ?_)
      go_simp
      apply Exists.intro
      refine ⟨fun W hW => ?_, hK _ ?_⟩
      · (try go_simp)
        exact rfl
      clear hK K
      refine HQS.go (fun K hK => ?_)
      go_simp
      apply Exists.intro
      refine ⟨fun W hW => ?_, hK _ ?_⟩
      · (try go_simp)
        exact rfl
      clear hK K
      refine HQS.go (fun K hK => ?_)
      go_simp
      apply Exists.intro
      refine ⟨fun W hW => ?_, hK _ ?_⟩
      · obtain ⟨b_, f_, he_, c0, c1, c2, d0, cl⟩ := HC.out W (below_trans HBk.out hW)
        cases he_
        go_simp
        exact rfl
      clear hK K
      refine HQS.go (fun K hK => ?_)
      go_simp
      apply Exists.intro
      refine ⟨fun W hW => ?_, hK _ ?_⟩
      · (try go_simp)
        exact rfl
      clear hK K
      refine HQS.go (fun K hK => ?_)
      go_simp
      apply Exists.intro
      refine ⟨fun W hW => ?_, hK _ ?_⟩
      · (try go_simp)
        exact rfl
      clear hK K
      refine HQS.go (fun K hK => ?_)
      go_simp
      apply Exists.intro
      refine ⟨fun W hW => ?_, hK _ ?_⟩
      · (try go_simp)
        exact rfl
      clear hK K
      refine HQS.go (fun K hK => ?_)
      go_simp
      apply Exists.intro
      refine ⟨fun W hW => ?_, hK _ ?_⟩
      · (try go_simp)
        exact rfl
      clear hK K
      refine HQS.go (fun K hK => ?_)
      go_simp
      apply Exists.intro
      refine ⟨fun W hW => ?_, hK _ ?_⟩
      · obtain ⟨b_, f_, he_, c0, c1, c2, d0, cl⟩ := HC.out W (below_trans HBk.out hW)
        cases he_
        go_simp
        exact rfl
      clear hK K
      refine HQS.go (fun K hK => ?_)
      go_simp
      apply Exists.intro
      refine ⟨fun W hW => ?_, hK _ ?_⟩
      · exact (HF.out W).mono fun _ _ ⟨he, hw⟩ => ⟨he, hw ▸ hW⟩
      clear hK K
      refine HQS.go (fun K hK => ?_)
      go_simp
      apply Exists.intro
      refine ⟨fun W hW => ?_, hK _ ?_⟩
      · (try go_simp)
        exact rfl
      clear hK K
      refine HQS.go (fun K hK => ?_)
      go_simp
      apply Exists.intro
      refine ⟨fun W hW => ?_, hK _ ?_⟩
      · (try go_simp)
        exact rfl
      clear hK K
      refine HQS.go (fun K hK => ?_)
      go_simp
      apply Exists.intro
      refine ⟨fun W hW => ?_, hK _ ?_⟩
      · (try go_simp)
        exact rfl
      clear hK K
      refine HQS.go (fun K hK => ?_)
      go_simp
      apply Exists.intro
      refine ⟨fun W hW => ?_, hK _ ?_⟩
      · (try go_simp)
        exact rfl
      clear hK K
      refine HQS.go (fun K hK => ?_)
      go_simp
      apply Exists.intro
      refine ⟨fun W hW => ?_, hK _ ?_⟩
      · (try go_simp)
        exact rfl
      clear hK K
      refine HQS.go (fun K hK => ?_)
      go_simp
      apply Exists.intro
      refine ⟨fun W hW => ?_, hK _ ?_⟩
      · (try go_simp)
        exact rfl
      clear hK K
      refine HQS.go (fun K hK => ?_)
      go_simp
      apply Exists.intro
      refine ⟨fun W hW => ?_, hK _ ?_⟩
      · obtain ⟨b_, f_, he_, c0, c1, c2, d0, cl⟩ := HC.out W (below_trans HBk.out hW)
        cases he_
        go_simp
        exact rfl
      clear hK K
      refine HQS.go (fun K hK => ?_)
      go_simp
      apply Exists.intro
      refine ⟨fun W hW => ?_, hK _ ?_⟩
      · (try go_simp)
        exact rfl
      clear hK K
      refine HQS.go (fun K hK => ?_)
      go_simp
      apply Exists.intro
      refine ⟨fun W hW => ?_, hK _ ?_⟩
      · (try go_simp)
        exact rfl
      clear hK K
      refine HQS.go (fun K hK => ?_)
      go_simp
      apply Exists.intro
      refine ⟨fun W hW => ?_, hK _ ?_⟩
      · (try go_simp)
        exact rfl
      clear hK K
      refine HQS.go (fun K hK => ?_)
      go_simp
      apply Exists.intro
      refine ⟨fun W hW => ?_, hK _ ?_⟩
      · (try go_simp)
        exact rfl
      clear hK K
      refine HQS.go (fun K hK => ?_)
      go_simp
      apply Exists.intro
      refine ⟨fun W hW => ?_, hK _ ?_⟩
      · obtain ⟨b_, f_, he_, c0, c1, c2, d0, cl⟩ := HC.out W (below_trans HBk.out hW)
        cases he_
        go_simp
        exact rfl
      clear hK K
      refine HQS.go (fun K hK => ?_)
      go_simp
      apply Exists.intro
      refine ⟨fun W hW => ?_, hK _ ?_⟩
      · (try go_simp)
        exact rfl
      clear hK K
      refine HQS.go (fun K hK => ?_)
      go_simp
      apply Exists.intro
      refine ⟨fun W hW => ?_, hK _ ?_⟩
      · (try go_simp)
        exact rfl
      clear hK K
      refine HQS.go (fun K hK => ?_)
      go_simp
      apply Exists.intro
      refine ⟨fun W hW => ?_, hK _ ?_⟩
      · (try go_simp)
        exact rfl
      clear hK K
      refine HQN.go ?_
      intro w1 hW
      have HB1 := Lib.hid (below_trans HBk.out hW)
      clear hW
      go_wp2
      go_ret
      exact ⟨rfl, HB1.out⟩
    case pos =>
      have hgo : (l.take (k + 1)).all (fwK l) = true := by rw [all_take_succ (fwK l) l k x HX.out, HAL.out, HFX.out, decide_eq_true hse]; rfl
      have HGO := Lib.hid hgo
      have d1 : ((x.seeds.length : Int) == (x0.seeds.length : Int)) = true := by simp; omega
      have d2 : ((x.seeds.length : Int) != (x0.seeds.length : Int)) = false := by simp; omega
      clear hse hgo
      go_wp2_with fail
      refine wp_region_belowC (by kernel_rfl) (by kernel_rfl) (fun WQ HQS HQN => ?_)
      refine HQS.go (fun K hK => ?_)
      go_simp
      apply Exists.intro
      refine ⟨fun W hW => ?_, hK _ ?_⟩
      · (try go_simp)
        exact rfl
      clear hK K
      refine HQS.go (fun K hK => ?_)
      go_simp
      apply Exists.intro
      refine ⟨fun W hW => ?_, hK _ ?_⟩
      · (try go_simp)
        exact rfl
      clear hK K
      refine HQS.go (fun K hK => ?_)
      go_simp
      apply Exists.intro
      refine ⟨fun W hW => ?_, hK _ ?_⟩
      · (try go_simp)
        exact rfl
      clear hK K
      refine HQS.go (fun K hK => ?_)
      go_simp
      apply Exists.intro
      refine ⟨fun W hW => ?_, hK _ ?_⟩
      · (try go_simp)
        exact rfl
      clear hK K
      refine HQS.go (fun K hK => ?_)
      go_simp
      apply Exists.intro
      refine ⟨fun W hW => ?_, hK _ ?_⟩
      · obtain ⟨b_, f_, he_, c0, c1, c2, d0, cl⟩ := HC.out W (below_trans HBk.out hW)
        cases he_
        go_simp
        exact rfl
      clear hK K
      refine HQS.go (fun K hK => ?_)
      go_simp
      apply Exists.intro
      refine ⟨fun W hW => ?_, hK _ ?_⟩
      · (try go_simp)
        exact rfl
      clear hK K
      refine HQS.go (fun K hK => ?_)
      go_simp
      apply Exists.intro
      refine ⟨fun W hW => ?_, hK _ ?_⟩
      · (try go_simp)
        exact rfl
      clear hK K
      refine HQS.go (fun K hK => ?_)
      go_simp
      apply Exists.intro
      refine ⟨fun W hW => ?_, hK _ ?_⟩
      · (try go_simp)
        exact rfl
      clear hK K
      refine HQS.go (fun K hK => ?_)
      go_simp
      apply Exists.intro
      refine ⟨fun W hW => ?_, hK _ ?_⟩
      · (try go_simp)
        exact rfl
      clear hK K
      refine HQS.go (fun K hK => ?_)
      go_simp
      apply Exists.intro
      refine ⟨fun W hW => ?_, hK _ ?_⟩
      · obtain ⟨b_, f_, he_, c0, c1, c2, d0, cl⟩ := HC.out W (below_trans HBk.out hW)
        cases he_
        go_simp
        exact rfl
      clear hK K
      refine HQS.go (fun K hK => ?_)
      go_simp
      apply Exists.intro
      refine ⟨fun W hW => ?_, hK _ ?_⟩
      · (try go_simp)
        exact rfl
      clear hK K
      refine HQS.go (fun K hK => ?_)
      go_simp
      apply Exists.intro
      refine ⟨fun W hW => ?_, hK _ ?_⟩
      · (try go_simp)
        exact rfl
      clear hK K
      refine HQS.go (fun K hK => ?_)
      go_simp
      apply Exists.intro
      refine ⟨fun W hW => ?_, hK _ ?_⟩
      · (try go_simp)
        exact rfl
      clear hK K
      refine HQS.go (fun K hK => ?_)
      go_simp
      apply Exists.intro
      refine ⟨fun W hW => ?_, hK _ ?_⟩
      · (try go_simp)
        exact rfl
      clear hK K
      refine HQS.go (fun K hK => ?_)
      go_simp
      apply Exists.intro
      refine ⟨fun W hW => ?_, hK _ ?_⟩
      · obtain ⟨b_, f_, he_, c0, c1, c2, d0, cl⟩ := HC.out W (below_trans HBk.out hW)
        cases he_
        go_simp
        exact rfl
      clear hK K
      refine HQS.go (fun K hK => ?_)
      go_simp
      apply Exists.intro
      refine ⟨fun W hW => ?_, hK _ ?_⟩
      · exact (HF.out W).mono fun _ _ ⟨he, hw⟩ => ⟨he, hw ▸ hW⟩
      clear hK K
      refine HQS.go (fun K hK => ?_)
      go_simp
      apply Exists.intro
      refine ⟨fun W hW => ?_, hK _ ?_⟩
      · (try go_simp)
        exact rfl
      clear hK K
      refine HQS.go (fun K hK => ?_)
      go_simp
      apply Exists.intro
      refine ⟨fun W hW => ?_, hK _ ?_⟩
      · (try go_simp)
        exact rfl
      clear hK K
      refine HQS.go (fun K hK => ?_)
      go_simp
      apply Exists.intro
      refine ⟨fun W hW => ?_, hK _ ?_⟩
      · (try go_simp)
        exact rfl
      clear hK K
      refine HQS.go (fun K hK => ?_)
      go_simp
      apply Exists.intro
      refine ⟨fun W hW => ?_, hK _ ?_⟩
      · (try go_simp)
        exact rfl
      clear hK K
      refine HQS.go (fun K hK => ?_)
      go_simp
      apply Exists.intro
      refine ⟨fun W hW => ?_, hK _ ?_⟩
      · (try go_simp)
        exact rfl
      clear hK K
      refine HQS.go (fun K hK => ?_)
      go_simp
      apply Exists.intro
      refine ⟨fun W hW => ?_, hK _ ?_⟩
      · (try go_simp)
        exact rfl
      clear hK K
      refine HQS.go (fun K hK => ?_)
      go_simp
      apply Exists.intro
      refine ⟨fun W hW => ?_, hK _ ?_⟩
      · obtain ⟨b_, f_, he_, c0, c1, c2, d0, cl⟩ := HC.out W (below_trans HBk.out hW)
        cases he_
        go_simp
        exact rfl
      clear hK K
      refine HQS.go (fun K hK => ?_)
      go_simp
      apply Exists.intro
      refine ⟨fun W hW => ?_, hK _ ?_⟩
      · (try go_simp)
        exact rfl
      clear hK K
      refine HQS.go (fun K hK => ?_)
      go_simp
      apply Exists.intro
      refine ⟨fun W hW => ?_, hK _ ?_⟩
      · (try go_simp)
        exact rfl
      clear hK K
      refine HQS.go (fun K hK => ?_)
      go_simp
      apply Exists.intro
      refine ⟨fun W hW => ?_, hK _ ?_⟩
      · (try go_simp)
        exact rfl
      clear hK K
      refine HQS.go (fun K hK => ?_)
      go_simp
      apply Exists.intro
      refine ⟨fun W hW => ?_, hK _ ?_⟩
      · (try go_simp)
        exact rfl
      clear hK K
      refine HQS.go (fun K hK => ?_)
      go_simp
      apply Exists.intro
      refine ⟨fun W hW => ?_, hK _ ?_⟩
      · obtain ⟨b_, f_, he_, c0, c1, c2, d0, cl⟩ := HC.out W (below_trans HBk.out hW)
        cases he_
        go_simp
        exact rfl
      clear hK K
      refine HQS.go (fun K hK => ?_)
      go_simp
      apply Exists.intro
      refine ⟨fun W hW => ?_, hK _ ?_⟩
      · (try go_simp)
        exact rfl
      clear hK K
      refine HQS.go (fun K hK => ?_)
      go_simp
      apply Exists.intro
      refine ⟨fun W hW => ?_, hK _ ?_⟩
      · (try go_simp)
        exact rfl
      clear hK K
      refine HQS.go (fun K hK => ?_)
      go_simp
      apply Exists.intro
      refine ⟨fun W hW => ?_, hK _ ?_⟩
      · (try go_simp)
        exact rfl
      clear hK K
      refine HQN.go ?_
      intro w1 hW
      have HB1 := Lib.hid (below_trans HBk.out hW)
      clear hW
      go_wp2
      go_roundw
      case rel => exact ⟨k + 1, by omega, by omega, by go_num, HB1.out, HGO.out⟩
      case measure => simp [intOf]; omega
end

end Go.Proofs.YtjfondfjdhjooaaGreatDoor
