/- The reference of layer 2: Shown. -/
import Derived.Test.YtbefcipeojahfaaGreatDoorTreeU02
import Derived.Test.YtbefcipeojahfaaGreatDoorQuietC
namespace Go.Proofs.YtbefcipeojahfaaGreatDoor
open Go.RowKit

theorem col_parts {l : List ByteArray} (h : Col l) : ∃ (i j : Nat) (x y : ByteArray), j < i ∧ i < l.length ∧ l[i]? = some x ∧ l[j]? = some y ∧ x ≠ y ∧ dg x = dg y := by
  obtain ⟨x, hx, y, hy, hne, hd⟩ := h
  obtain ⟨i, hi⟩ := List.mem_iff_getElem?.1 hx
  obtain ⟨j, hj⟩ := List.mem_iff_getElem?.1 hy
  have h1 := (List.getElem?_eq_some_iff.1 hi).1
  have h2 := (List.getElem?_eq_some_iff.1 hj).1
  rcases Nat.lt_trichotomy i j with h3 | h3 | h3
  · exact ⟨j, i, y, x, h3, h2, hj, hi, Ne.symm hne, hd.symm⟩
  · subst h3; rw [hi] at hj; exact absurd (Option.some.inj hj) hne
  · exact ⟨i, j, x, y, h3, h1, hi, hj, hne, hd⟩

set_option maxRecDepth 100000 in
set_option maxHeartbeats 16000000 in
theorem shown_any (A : Option Addr) (c : Nat) (l : List ByteArray) (w : World) (hS : Strs w A l) (hl : l.length ≤ 1000000) (hs : ∀ s ∈ l, s.size ≤ 1000000000) (hC : Col l) :
    Calls Tryz.prog 25 #[.slice A l.length c] w fun e w' => e = .returned (.bool true) ∧ Below w.heap.size w w' := by
  obtain ⟨I, J, xI, xJ, hJI, hIl, hxI, hxJ, hne, hdg⟩ := col_parts hC
  obtain ⟨b, off, rfl, -⟩ := hS.2 (by omega)
  obtain ⟨n, hn⟩ : ∃ n, l.length = n := ⟨_, rfl⟩
  have HCELL : Hid (∀ (k : Nat) (x : ByteArray), l[k]? = some x → ∀ W, Below w.heap.size w W → W.cell? ⟨b, off + k, none⟩ = some (.string x)) := Lib.hid (fun k x hk W hW => by
    obtain ⟨b', off', e, c0⟩ := hS.at_ hk
    cases e
    exact kept_cell hW c0)
  have HGET : Hid (∀ k, k < n → ∃ x, l[k]? = some x ∧ x.size ≤ 1000000000) := Lib.hid (fun k hk => by
    obtain ⟨x, hx⟩ := get_some l k (by omega)
    exact ⟨x, hx, hs x (List.mem_of_getElem? hx)⟩)
  have HNE : Hid (∀ k x, l[k]? = some x → ∀ y, k = I → l[J]? = some y → x ≠ y ∧ dg x = dg y) := Lib.hid (by
    rintro k x hk y rfl hy
    rw [hxI] at hk; rw [hxJ] at hy
    cases hk; cases hy
    exact ⟨hne, hdg⟩)
  have HN := Lib.hid hn
  obtain ⟨ip, hj1, hy0, hy1, hy2⟩ := info_parts info_strg
  have HI := Lib.hid (And.intro hj1 (And.intro hy0 (And.intro hy1 hy2)))
  have HSUM := Lib.hid rsum
  rw [hn] at hIl hl ⊢
  clear hj1 hy0 hy1 hy2 hC hS hs hn hne hdg hxI hxJ
  have HO : Hid (w.ownsRow w.heap.size 9 1 (.slice none 0 0) 0 []) := ⟨rfl, .inl ⟨rfl, rfl⟩⟩
  go_enter Tryz.func25, Tryz.ntmps25
  go_wp2_with fail
  go_loopw [3, 4] (fun u3 u4 wr => ∃ k : Nat, k ≤ n ∧ u4 = .int .i64 k ∧ Below w.heap.size w wr ∧ wr.ownsRow w.heap.size 9 1 u3 k (((l.take k).map dg).map Value.string)) (fun _ u4 _ => n - (intOf u4).toNat)
  case atStart => exact ⟨0, Nat.zero_le _, rfl, Below.refl _ _, HO.out⟩
  case round =>
  obtain ⟨k, hk, rfl, hbw, how⟩ := hrel
  have HBW := Lib.hid hbw
  have HOW := Lib.hid how
  clear hbw how
  by_cases hlt : k < n
  · obtain ⟨x, hx, hxs⟩ := HGET.out k hlt
    have q := HCELL.out k x hx wr HBW.out
    have ql := lt_of_cell q
    have HX := Lib.hid hx
    obtain ⟨dx, hdx⟩ : ∃ dx, dg x = dx := ⟨_, rfl⟩
    have HOA : Hid ((wr.alloc (.cells #[.string dx] 9)).ownsRow w.heap.size 9 1 u3 k (((l.take k).map dg).map Value.string)) := Lib.hid (row_below HOW.out (below_alloc (Below.refl _ _) _))
    have HSM := Lib.hid (HSUM.out x hxs wr)
    rw [hdx] at HSM
    have HDX := Lib.hid hdx
    clear hx hxs hdx
    go_wp2_with fail
    refine HSM.out.mono ?_
    rintro e _ ⟨rfl, rfl⟩
    go_wp2_with (at_builtin; refine wpList_app _ rfl (.tmp 13) (.tmp 19) 26 26 rfl w.heap.size 9 9 ip _ 1 16 Tryz.underlying26 Tryz.underlying26 HI.out.1 HI.out.2.1 HI.out.2.2.1 HI.out.2.2.2 rfl (by omega) u3 k _ rfl HOA.out (some ⟨wr.heap.size, 0, none⟩) 1 1 [.string dx] rfl (Rd_new wr #[.string dx] _ 1 1 _ rfl rfl) (by simp [Value.oneCell']) (by simp only [maxLen]; omega) (by omega) (by have := HBW.out.size; simp; omega) ?_)
    intro v4 w4 hown4 hg4
    have HB4 : Hid (Below w.heap.size w w4) := Lib.hid ((below_alloc HBW.out _).grown hg4 (by have := HBW.out.size; simp; omega) (fun j hj => (HOA.out.lt j hj).1))
    have HO4 := Lib.hid hown4
    clear hown4 hg4
    go_wp2
    go_roundw
    case rel => exact ⟨k + 1, by omega, by go_num, HB4.out, by rw [take_snoc _ _ _ HX.out]; simpa [HDX.out] using HO4.out⟩
    case measure => simp [intOf]; omega
  · obtain rfl : k = n := by omega
    obtain ⟨A2, c2, rfl, hc2, -, hR⟩ := Rd.of_own HOW.out
    obtain ⟨b2, off2, rfl, hR2⟩ := hR.2 (by omega)
    have HC2 : Hid (∀ (j : Nat) (x : ByteArray), l[j]? = some x → ∀ W, Below wr.heap.size wr W → W.cell? ⟨b2, off2 + j, none⟩ = some (.string (dg x))) := Lib.hid (fun j x hj W hW => kept_cell hW (hR2 j _ (by rw [List.take_of_length_le (by rw [HN.out]; exact Nat.le_refl _)]; simp [hj])))
    clear hR hR2 HSUM HI hc2 HOW
    generalize wr = wz at *
    go_wp2_with fail
    go_loopw [5, 6] (fun u5 _ W => ∃ i : Nat, i ≤ I ∧ u5 = .int .i64 i ∧ Below wz.heap.size wz W) (fun u5 _ _ => k - (intOf u5).toNat)
    case atStart => exact ⟨0, Nat.zero_le _, rfl, Below.refl _ _⟩
    case round =>
    obtain ⟨i, hi, rfl, hb1⟩ := hrel
    have HB1 := Lib.hid hb1
    clear hb1
    have hik : (i : Int) < (k : Int) := by omega
    go_wp2_with fail
    go_loopw [6] (fun u6 W => ∃ j : Nat, j ≤ i ∧ (i = I → j ≤ J) ∧ u6 = .int .i64 j ∧ Below wz.heap.size wz W) (fun u6 _ => i - (intOf u6).toNat)
    case atStart => exact ⟨0, Nat.zero_le _, fun _ => Nat.zero_le _, rfl, HB1.out⟩
    case round =>
    obtain ⟨j, hji, hjJ, rfl, hb2⟩ := hrel
    have HB2 := Lib.hid hb2
    have HJJ := Lib.hid hjJ
    clear hb2 hjJ
    by_cases hlt : j < i
    · obtain ⟨x, hx, -⟩ := HGET.out i (by omega)
      obtain ⟨y, hy, -⟩ := HGET.out j (by omega)
      have HX := Lib.hid hx
      have HY := Lib.hid hy
      have hik2 : i < k := by omega
      have hjk : (j : Int) < (k : Int) := by omega
      have hjk2 : j < k := by omega
      obtain ⟨dx, hdx⟩ : ∃ dx, dg x = dx := ⟨_, rfl⟩
      obtain ⟨dy, hdy⟩ : ∃ dy, dg y = dy := ⟨_, rfl⟩
      have HSX := Lib.hid (HC2.out i x hx)
      have HSY := Lib.hid (HC2.out j y hy)
      have HLX := Lib.hid (fun W hW => HCELL.out i x hx W (below_trans HBW.out hW))
      have HLY := Lib.hid (fun W hW => HCELL.out j y hy W (below_trans HBW.out hW))
      rw [hdx] at HSX
      rw [hdy] at HSY
      have HDX := Lib.hid hdx
      have HDY := Lib.hid hdy
      clear hx hy hdx hdy
      by_cases hdd : dx = dy
      · subst hdd
        have t0 := beq_true dx
        by_cases hxy : x = y
        · subst hxy
          have t1 := beq_true x
          go_wp2_with fail
          refine wp_region_belowC (by kernel_rfl) (by kernel_rfl) (fun WQ HQS HQN => ?_)
          refine HQS.go (fun K hK => ?_)
          go_simp
          apply Exists.intro
          refine ⟨fun W hW => ?_, hK _ ?_⟩
          · (try go_simp)
            exact rfl
          clear hK K
          refine HQS.go (fun K hK => ?_)
          go_simp
          apply Exists.intro
          refine ⟨fun W hW => ?_, hK _ ?_⟩
          · (try go_simp)
            exact rfl
          clear hK K
          refine HQS.go (fun K hK => ?_)
          go_simp
          apply Exists.intro
          refine ⟨fun W hW => ?_, hK _ ?_⟩
          · (try go_simp)
            exact rfl
          clear hK K
          refine HQS.go (fun K hK => ?_)
          go_simp
          apply Exists.intro
          refine ⟨fun W hW => ?_, hK _ ?_⟩
          · have qq := HSX.out W (below_trans HB2.out hW)
            have ql := lt_of_cell qq
            go_simp
            exact rfl
          clear hK K
          refine HQS.go (fun K hK => ?_)
          go_simp
          apply Exists.intro
          refine ⟨fun W hW => ?_, hK _ ?_⟩
          · (try go_simp)
            exact rfl
          clear hK K
          refine HQS.go (fun K hK => ?_)
          go_simp
          apply Exists.intro
          refine ⟨fun W hW => ?_, hK _ ?_⟩
          · (try go_simp)
            exact rfl
          clear hK K
          refine HQS.go (fun K hK => ?_)
          go_simp
          apply Exists.intro
          refine ⟨fun W hW => ?_, hK _ ?_⟩
          · (try go_simp)
            exact rfl
          clear hK K
          refine HQS.go (fun K hK => ?_)
          go_simp
          apply Exists.intro
          refine ⟨fun W hW => ?_, hK _ ?_⟩
          · have qq := HSY.out W (below_trans HB2.out hW)
            have ql := lt_of_cell qq
            go_simp
            exact rfl
          clear hK K
          refine HQS.go (fun K hK => ?_)
          go_simp
          apply Exists.intro
          refine ⟨fun W hW => ?_, hK _ ?_⟩
          · (try go_simp)
            exact rfl
          clear hK K
          refine HQS.go (fun K hK => ?_)
          go_simp
          apply Exists.intro
          refine ⟨fun W hW => ?_, hK _ ?_⟩
          · (try go_simp)
            exact rfl
          clear hK K
          refine HQS.go (fun K hK => ?_)
          go_simp
          apply Exists.intro
          refine ⟨fun W hW => ?_, hK _ ?_⟩
          · (try go_simp)
            exact rfl
          clear hK K
          refine HQS.go (fun K hK => ?_)
          go_simp
          apply Exists.intro
          refine ⟨fun W hW => ?_, hK _ ?_⟩
          · (try go_simp)
            exact rfl
          clear hK K
          refine HQS.go (fun K hK => ?_)
          go_simp
          apply Exists.intro
          refine ⟨fun W hW => ?_, hK _ ?_⟩
          · (try go_simp)
            exact rfl
          clear hK K
          refine HQS.go (fun K hK => ?_)
          go_simp
          apply Exists.intro
          refine ⟨fun W hW => ?_, hK _ ?_⟩
          · have qq := HLX.out W (below_trans HB2.out hW)
            have ql := lt_of_cell qq
            go_simp
            exact rfl
          clear hK K
          refine HQS.go (fun K hK => ?_)
          go_simp
          apply Exists.intro
          refine ⟨fun W hW => ?_, hK _ ?_⟩
          · (try go_simp)
            exact rfl
          clear hK K
          refine HQS.go (fun K hK => ?_)
          go_simp
          apply Exists.intro
          refine ⟨fun W hW => ?_, hK _ ?_⟩
          · (try go_simp)
            exact rfl
          clear hK K
          refine HQS.go (fun K hK => ?_)
          go_simp
          apply Exists.intro
          refine ⟨fun W hW => ?_, hK _ ?_⟩
          · (try go_simp)
            exact rfl
          clear hK K
          refine HQS.go (fun K hK => ?_)
          go_simp
          apply Exists.intro
          refine ⟨fun W hW => ?_, hK _ ?_⟩
          · have qq := HLY.out W (below_trans HB2.out hW)
            have ql := lt_of_cell qq
            go_simp
            exact rfl
          clear hK K
          refine HQS.go (fun K hK => ?_)
          go_simp
          apply Exists.intro
          refine ⟨fun W hW => ?_, hK _ ?_⟩
          · (try go_simp)
            exact rfl
          clear hK K
          refine HQS.go (fun K hK => ?_)
          go_simp
          apply Exists.intro
          refine ⟨fun W hW => ?_, hK _ ?_⟩
          · (try go_simp)
            exact rfl
          clear hK K
          refine HQN.go ?_
          intro W hW
          have HB3 := Lib.hid (below_trans HB2.out hW)
          clear hW
          go_wp2_with fail
          go_roundw
          case rel =>
            refine ⟨j + 1, by omega, fun hI => ?_, by go_num, HB3.out⟩
            have h1 := HJJ.out hI
            by_cases hjJ : j = J
            · exfalso
              subst hjJ
              exact (HNE.out i _ HX.out _ hI HY.out).1 rfl
            · omega
          case measure => simp [intOf]; omega
        · obtain ⟨t1, t2⟩ := bne_of x y hxy
          go_wp2_with fail
          refine wp_region_belowC (by kernel_rfl) (by kernel_rfl) (fun WQ HQS HQN => ?_)
          refine HQS.go (fun K hK => ?_)
          go_simp
          apply Exists.intro
          refine ⟨fun W hW => ?_, hK _ ?_⟩
          · (try go_simp)
            exact rfl
          clear hK K
          refine HQS.go (fun K hK => ?_)
          go_simp
          apply Exists.intro
          refine ⟨fun W hW => ?_, hK _ ?_⟩
          · (try go_simp)
            exact rfl
          clear hK K
          refine HQS.go (fun K hK => ?_)
          go_simp
          apply Exists.intro
          refine ⟨fun W hW => ?_, hK _ ?_⟩
          · (try go_simp)
            exact rfl
          clear hK K
          refine HQS.go (fun K hK => ?_)
          go_simp
          apply Exists.intro
          refine ⟨fun W hW => ?_, hK _ ?_⟩
          · have qq := HSX.out W (below_trans HB2.out hW)
            have ql := lt_of_cell qq
            go_simp
            exact rfl
          clear hK K
          refine HQS.go (fun K hK => ?_)
          go_simp
          apply Exists.intro
          refine ⟨fun W hW => ?_, hK _ ?_⟩
          · (try go_simp)
            exact rfl
          clear hK K
          refine HQS.go (fun K hK => ?_)
          go_simp
          apply Exists.intro
          refine ⟨fun W hW => ?_, hK _ ?_⟩
          · (try go_simp)
            exact rfl
          clear hK K
          refine HQS.go (fun K hK => ?_)
          go_simp
          apply Exists.intro
          refine ⟨fun W hW => ?_, hK _ ?_⟩
          · (try go_simp)
            exact rfl
          clear hK K
          refine HQS.go (fun K hK => ?_)
          go_simp
          apply Exists.intro
          refine ⟨fun W hW => ?_, hK _ ?_⟩
          · have qq := HSY.out W (below_trans HB2.out hW)
            have ql := lt_of_cell qq
            go_simp
            exact rfl
          clear hK K
          refine HQS.go (fun K hK => ?_)
          go_simp
          apply Exists.intro
          refine ⟨fun W hW => ?_, hK _ ?_⟩
          · (try go_simp)
            exact rfl
          clear hK K
          refine HQS.go (fun K hK => ?_)
          go_simp
          apply Exists.intro
          refine ⟨fun W hW => ?_, hK _ ?_⟩
          · (try go_simp)
            exact rfl
          clear hK K
          refine HQS.go (fun K hK => ?_)
          go_simp
          apply Exists.intro
          refine ⟨fun W hW => ?_, hK _ ?_⟩
          · (try go_simp)
            exact rfl
          clear hK K
          refine HQS.go (fun K hK => ?_)
          go_simp
          apply Exists.intro
          refine ⟨fun W hW => ?_, hK _ ?_⟩
          · (try go_simp)
            exact rfl
          clear hK K
          refine HQS.go (fun K hK => ?_)
          go_simp
          apply Exists.intro
          refine ⟨fun W hW => ?_, hK _ ?_⟩
          · (try go_simp)
            exact rfl
          clear hK K
          refine HQS.go (fun K hK => ?_)
          go_simp
          apply Exists.intro
          refine ⟨fun W hW => ?_, hK _ ?_⟩
          · have qq := HLX.out W (below_trans HB2.out hW)
            have ql := lt_of_cell qq
            go_simp
            exact rfl
          clear hK K
          refine HQS.go (fun K hK => ?_)
          go_simp
          apply Exists.intro
          refine ⟨fun W hW => ?_, hK _ ?_⟩
          · (try go_simp)
            exact rfl
          clear hK K
          refine HQS.go (fun K hK => ?_)
          go_simp
          apply Exists.intro
          refine ⟨fun W hW => ?_, hK _ ?_⟩
          · (try go_simp)
            exact rfl
          clear hK K
          refine HQS.go (fun K hK => ?_)
          go_simp
          apply Exists.intro
          refine ⟨fun W hW => ?_, hK _ ?_⟩
          · (try go_simp)
            exact rfl
          clear hK K
          refine HQS.go (fun K hK => ?_)
          go_simp
          apply Exists.intro
          refine ⟨fun W hW => ?_, hK _ ?_⟩
          · have qq := HLY.out W (below_trans HB2.out hW)
            have ql := lt_of_cell qq
            go_simp
            exact rfl
          clear hK K
          refine HQS.go (fun K hK => ?_)
          go_simp
          apply Exists.intro
          refine ⟨fun W hW => ?_, hK _ ?_⟩
          · (try go_simp)
            exact rfl
          clear hK K
          refine HQS.go (fun K hK => ?_)
          go_simp
          apply Exists.intro
          refine ⟨fun W hW => ?_, hK _ ?_⟩
          · (try go_simp)
            exact rfl
          clear hK K
          refine HQN.go ?_
          intro W hW
          have HB3 := Lib.hid (below_trans HB2.out hW)
          clear hW
          go_wp2
          go_ret
          exact ⟨rfl, below_trans HBW.out HB3.out⟩
      · obtain ⟨t1, t2⟩ := bne_of dx dy hdd
        go_wp2_with fail
        refine wp_region_belowC (by kernel_rfl) (by kernel_rfl) (fun WQ HQS HQN => ?_)
        refine HQS.go (fun K hK => ?_)
        go_simp
        apply Exists.intro
        refine ⟨fun W hW => ?_, hK _ ?_⟩
        · (try go_simp)
          exact rfl
        clear hK K
        refine HQS.go (fun K hK => ?_)
        go_simp
        apply Exists.intro
        refine ⟨fun W hW => ?_, hK _ ?_⟩
        · (try go_simp)
          exact rfl
        clear hK K
        refine HQS.go (fun K hK => ?_)
        go_simp
        apply Exists.intro
        refine ⟨fun W hW => ?_, hK _ ?_⟩
        · (try go_simp)
          exact rfl
        clear hK K
        refine HQS.go (fun K hK => ?_)
        go_simp
        apply Exists.intro
        refine ⟨fun W hW => ?_, hK _ ?_⟩
        · have qq := HSX.out W (below_trans HB2.out hW)
          have ql := lt_of_cell qq
          go_simp
          exact rfl
        clear hK K
        refine HQS.go (fun K hK => ?_)
        go_simp
        apply Exists.intro
        refine ⟨fun W hW => ?_, hK _ ?_⟩
        · (try go_simp)
          exact rfl
        clear hK K
        refine HQS.go (fun K hK => ?_)
        go_simp
        apply Exists.intro
        refine ⟨fun W hW => ?_, hK _ ?_⟩
        · (try go_simp)
          exact rfl
        clear hK K
        refine HQS.go (fun K hK => ?_)
        go_simp
        apply Exists.intro
        refine ⟨fun W hW => ?_, hK _ ?_⟩
        · (try go_simp)
          exact rfl
        clear hK K
        refine HQS.go (fun K hK => ?_)
        go_simp
        apply Exists.intro
        refine ⟨fun W hW => ?_, hK _ ?_⟩
        · have qq := HSY.out W (below_trans HB2.out hW)
          have ql := lt_of_cell qq
          go_simp
          exact rfl
        clear hK K
        refine HQS.go (fun K hK => ?_)
        go_simp
        apply Exists.intro
        refine ⟨fun W hW => ?_, hK _ ?_⟩
        · (try go_simp)
          exact rfl
        clear hK K
        refine HQS.go (fun K hK => ?_)
        go_simp
        apply Exists.intro
        refine ⟨fun W hW => ?_, hK _ ?_⟩
        · (try go_simp)
          exact rfl
        clear hK K
        refine HQS.go (fun K hK => ?_)
        go_simp
        refine hK _ ?_
        clear hK K
        refine HQS.go (fun K hK => ?_)
        go_simp
        refine hK _ ?_
        clear hK K
        refine HQS.go (fun K hK => ?_)
        go_simp
        refine hK _ ?_
        clear hK K
        refine HQS.go (fun K hK => ?_)
        go_simp
        refine hK _ ?_
        clear hK K
        refine HQS.go (fun K hK => ?_)
        go_simp
        refine hK _ ?_
        clear hK K
        refine HQS.go (fun K hK => ?_)
        go_simp
        refine hK _ ?_
        clear hK K
        refine HQS.go (fun K hK => ?_)
        go_simp
        refine hK _ ?_
        clear hK K
        refine HQS.go (fun K hK => ?_)
        go_simp
        refine hK _ ?_
        clear hK K
        refine HQS.go (fun K hK => ?_)
        go_simp
        refine hK _ ?_
        clear hK K
        refine HQS.go (fun K hK => ?_)
        go_simp
        apply Exists.intro
        refine ⟨fun W hW => ?_, hK _ ?_⟩
        · (try go_simp)
          exact rfl
        clear hK K
        refine HQN.go ?_
        intro W hW
        have HB3 := Lib.hid (below_trans HB2.out hW)
        clear hW
        go_wp2_with fail
        go_roundw
        case rel =>
          refine ⟨j + 1, by omega, fun hI => ?_, by go_num, HB3.out⟩
          have h1 := HJJ.out hI
          by_cases hjJ : j = J
          · exfalso
            subst hjJ
            exact hdd (by rw [← HDX.out, ← HDY.out]; exact (HNE.out i _ HX.out _ hI HY.out).2)
          · omega
        case measure => simp [intOf]; omega
    · have hne : i ≠ I := fun h => by have := HJJ.out h; omega
      go_wp2
      go_roundw
      case rel => exact ⟨i + 1, by omega, by go_num, HB2.out⟩
      case measure => simp [intOf]; omega

end Go.Proofs.YtbefcipeojahfaaGreatDoor
