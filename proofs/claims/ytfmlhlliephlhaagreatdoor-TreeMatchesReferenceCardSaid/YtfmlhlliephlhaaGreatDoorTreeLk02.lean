/- Layer 2: Link. -/
import Derived.Test.YtfmlhlliephlhaaGreatDoorTreePt02
namespace Go.Proofs.YtfmlhlliephlhaaGreatDoor
open Go.RowKit

theorem llen_le_n (n m : Nat) (w : Bool) (h : 1 ≤ n) : llen n m w ≤ n := by
  induction n using Nat.strongRecOn generalizing m w with
  | _ n ih =>
    by_cases hl : m < n
    · by_cases h2 : 2 ≤ n
      · have k1 := hf_lt n h2
        have k2 := hf_pos n
        by_cases hi : m ≤ hf n
        · rw [llen_le n m w hl h2 hi]; have := ih (hf n) k1 m w k2; omega
        · rw [llen_gt n m w hl h2 hi]; have := ih (n - hf n) (by omega) (m - hf n) false (by omega); omega
      · have h3 : llen n m w = if w then 0 else 1 := by rw [llen, dif_neg (fun e => h2 e.2)]
        rw [h3]; split <;> omega
    · rw [llen_end n m w hl]; split <;> omega

set_option maxRecDepth 100000 in
set_option maxHeartbeats 16000000 in
theorem tlink_any (A : Option Addr) (c : Nat) (l : List ByteArray) (i : Int) (w : World) (hbig : l.length ≤ 100000) (hcap : l.length ≤ c) (hS : Strs w A l) (hsm : sm l) (hT : Tabs w) (hD : allD l = true) (hi0 : 1 ≤ i) (hi1 : i ≤ l.length) :
    Calls Tryz.prog 10 #[.slice A l.length c, .int .i64 i] w fun e w' => ∃ A' c', e = .returned (.tuple #[.slice A' (lk l i.toNat true).length c', .int .i64 0]) ∧ (lk l i.toNat true).length ≤ c' ∧ Strs w' A' (lk l i.toNat true) ∧ (∀ a, A' = some a → w.heap.size ≤ a.block ∧ a.block < w'.heap.size) ∧ Below w.heap.size w w' := by
  obtain ⟨ii, rfl⟩ : ∃ ii : Nat, i = ii := ⟨i.toNat, by omega⟩
  rw [Int.toNat_natCast]
  have hpl : (lk l ii true).length ≤ l.length := by rw [lk_len l ii true (by omega)]; exact llen_le_n _ _ _ (by omega)
  obtain ⟨P0, hP0⟩ : ∃ P0, lk l ii true = P0 := ⟨_, rfl⟩
  have HPL := Lib.hid hpl
  rw [hP0] at HPL ⊢
  have HP0 := Lib.hid hP0
  obtain ⟨ip, hj1, hy0, hy1, hy2⟩ := info_parts info_strg
  have HI := Lib.hid (And.intro hj1 (And.intro hy0 (And.intro hy1 hy2)))
  have HPR := Lib.hid (proper_any A c l w (by omega) hS (fun s hs => by have := hsm s hs; omega))
  rw [hD] at HPR
  have HTOT : Hid (∀ (b off c' : Nat) (l' : List ByteArray) (W : World), Below w.heap.size w W → Strs w (some ⟨b, off, none⟩) l' → sm l' → l'.length ≤ c' → l'.length ≤ 100000 → Calls Tryz.prog 23 #[.slice (some ⟨b, off, none⟩) l'.length c'] W fun e w' => e = .returned (.string (rt l')) ∧ Below W.heap.size W w') :=
    Lib.hid (fun b off c' l' W hW hs hm hc hb => total_any (some ⟨b, off, none⟩) c' l' W (by omega) hc (hs.below hW) hm (hT.below hW))
  obtain ⟨b0, off0, rfl, -⟩ := hS.2 (by omega)
  have HS := Lib.hid hS
  have HSM := Lib.hid hsm
  clear hj1 hy0 hy1 hy2 hD hT hS hsm hP0 hpl
  have HO : Hid (w.ownsRow w.heap.size 9 1 (.slice none 0 0) 0 []) := ⟨rfl, .inl ⟨rfl, rfl⟩⟩
  have hd1 : decide (l.length < ii) = false := decide_eq_false (by omega)
  have hd2 : decide ((ii : Int) < 0) = false := decide_eq_false (by omega)
  have hd3 : ((ii : Int) == 0) = false := by simp; omega
  go_enter Tryz.func10, Tryz.ntmps10
  go_wp2_with fail
  refine HPR.out.mono ?_
  rintro e w1 ⟨rfl, hb1⟩
  have HB1 := Lib.hid hb1
  have HO1 := Lib.hid (row_below HO.out hb1)
  clear hb1
  go_wp2_with fail
  go_loopw [0, 1, 6, 7] (fun u0 u1 u6 u7 wr => ∃ (b off c' : Nat) (l' : List ByteArray) (i' : Nat) (wh : Bool) (rest : List ByteArray), u0 = .slice (some ⟨b, off, none⟩) l'.length c' ∧ u1 = .int .i64 i' ∧ u7 = .bool wh ∧ 1 ≤ i' ∧ i' ≤ l'.length ∧ l'.length ≤ c' ∧ l'.length ≤ 100000 ∧ Strs w (some ⟨b, off, none⟩) l' ∧ sm l' ∧
      P0 = lk l' i' wh ++ rest ∧ Below w.heap.size w wr ∧ wr.ownsRow w.heap.size 9 1 u6 rest.length (rest.reverse.map Value.string)) (fun u0 _ _ _ _ => lenV u0)
  case atStart => exact ⟨b0, off0, c, l, ii, true, [], rfl, rfl, rfl, by omega, by omega, hcap, hbig, HS.out, HSM.out, by rw [List.append_nil, HP0.out], HB1.out, HO1.out⟩
  case round =>
    obtain ⟨b, off, c', l', i', wh, rest, rfl, rfl, rfl, g0, g1, g2, g3, hs', hm', hp', hb', ho'⟩ := hrel
    have HS' := Lib.hid hs'
    have HM' := Lib.hid hm'
    have HP' := Lib.hid hp'
    have HB' := Lib.hid hb'
    have HO' := Lib.hid ho'
    clear hs' hm' hp' hb' ho'
    by_cases hlt : i' < l'.length
    · obtain ⟨k, hk⟩ : ∃ k, hf l'.length = k := ⟨_, rfl⟩
      have h2 : 2 ≤ l'.length := by omega
      have k1 := hf_lt l'.length h2
      have k2 := hf_pos l'.length
      rw [hk] at k1 k2
      have HH := Lib.hid (fun W => half_any l'.length (by omega) W)
      rw [hk] at HH
      by_cases hik : i' ≤ k
      · have hst := lk_le l' i' wh hlt h2 (by rw [hk]; exact hik)
        rw [hk] at hst
        have hside := HTOT.out b (off + k) (c' - k) (l'.drop k) wr HB'.out (HS'.out.drop k) (HM'.out.drop k) (by rw [List.length_drop]; omega) (by rw [List.length_drop]; omega)
        rw [List.length_drop] at hside
        have hnl : (l'.take k).length = k := by rw [List.length_take]; omega
        have HSIDE := Lib.hid hside
        have HNL := Lib.hid hnl
        have HSN := Lib.hid (HS'.out.take k)
        have HMN := Lib.hid (HM'.out.take k)
        obtain ⟨x, hx⟩ : ∃ x, rt (l'.drop k) = x := ⟨_, rfl⟩
        rw [hx] at HSIDE hst
        have hp2 : P0 = lk (l'.take k) i' wh ++ (x :: rest) := by rw [HP'.out, hst, List.append_assoc]; rfl
        have hre : rest.length + 1 ≤ P0.length := by rw [hp2]; simp
        have HP2 := Lib.hid hp2
        have HRE : Hid (rest.length ≤ 100000) := Lib.hid (by have := HPL.out; omega)
        clear hst hside hnl hx hp2 hre
        generalize l'.length = m at *
        have hkm : (k : Int) ≤ (m : Int) := by omega
        have hkc : (k : Int) ≤ (c' : Int) := by omega
        have hck : (c' = k) = False := by simp; omega
        have hyi : (i' : Int) ≤ (k : Int) := by omega
        go_wp2_with fail
        refine (HH.out wr).mono ?_
        rintro e _ ⟨rfl, rfl⟩
        go_wp2_with fail
        refine HSIDE.out.mono ?_
        rintro e w3 ⟨rfl, hb3⟩
        have HB3 := Lib.hid (below_trans HB'.out hb3)
        have HOA : Hid ((w3.alloc (.cells #[.string x] 9)).ownsRow w.heap.size 9 1 u6 rest.length (rest.reverse.map Value.string)) := Lib.hid (row_below (row_below HO'.out hb3) (below_alloc (Below.refl _ _) _))
        clear hb3
        go_wp2_with (at_builtin; refine wpList_app _ rfl (.tmp 34) (.tmp 39) 22 22 rfl w.heap.size 9 9 ip _ 1 16 Tryz.underlying22 Tryz.underlying22 HI.out.1 HI.out.2.1 HI.out.2.2.1 HI.out.2.2.2 rfl (by omega) u6 rest.length _ rfl HOA.out (some ⟨w3.heap.size, 0, none⟩) 1 1 [.string x] rfl (Rd_new w3 #[.string x] _ 1 1 _ rfl rfl) (by simp [Value.oneCell']) (by have := HRE.out; simp only [maxLen]; omega) (by have := HRE.out; omega) (by have := HB3.out.size; simp; omega) ?_)
        intro v6 w4 hown4 hg4
        have HB4 : Hid (Below w.heap.size w w4) := Lib.hid ((below_alloc HB3.out _).grown hg4 (by have := HB3.out.size; simp; omega) (fun j hj => (HOA.out.lt j hj).1))
        have e4 : (rest.map Value.string).reverse ++ [.string x] = (x :: rest).reverse.map Value.string := by simp
        rw [e4] at hown4
        have HO4 := Lib.hid hown4
        clear hown4 hg4 e4
        go_wp2
        go_roundw
        case rel =>
          refine ⟨b, off, c', l'.take k, i', wh, x :: rest, by rw [HNL.out], by go_num, rfl, by omega, by rw [HNL.out]; omega, by rw [HNL.out]; omega, by rw [HNL.out]; omega, HSN.out, HMN.out, HP2.out, HB4.out, HO4.out⟩
        case measure => simp [lenV]; omega
      · have hst := lk_gt l' i' wh hlt h2 (by rw [hk]; exact hik)
        rw [hk] at hst
        have hside := HTOT.out b off c' (l'.take k) wr HB'.out (HS'.out.take k) (HM'.out.take k) (by rw [List.length_take]; omega) (by rw [List.length_take]; omega)
        rw [List.length_take, Nat.min_eq_left (by omega)] at hside
        have hnl : (l'.drop k).length = l'.length - k := by rw [List.length_drop]
        have HSIDE := Lib.hid hside
        have HNL := Lib.hid hnl
        have HSN := Lib.hid (HS'.out.drop k)
        have HMN := Lib.hid (HM'.out.drop k)
        obtain ⟨x, hx⟩ : ∃ x, rt (l'.take k) = x := ⟨_, rfl⟩
        rw [hx] at HSIDE hst
        have hp2 : P0 = lk (l'.drop k) (i' - k) false ++ (x :: rest) := by rw [HP'.out, hst, List.append_assoc]; rfl
        have hre : rest.length + 1 ≤ P0.length := by rw [hp2]; simp
        have HP2 := Lib.hid hp2
        have HRE : Hid (rest.length ≤ 100000) := Lib.hid (by have := HPL.out; omega)
        clear hst hside hnl hx hp2 hre
        generalize l'.length = m at *
        have hkm : (k : Int) ≤ (m : Int) := by omega
        have hkc : (k : Int) ≤ (c' : Int) := by omega
        have hck : (c' = k) = False := by simp; omega
        have hni : ¬ (i' : Int) ≤ (k : Int) := by omega
        go_wp2_with fail
        refine (HH.out wr).mono ?_
        rintro e _ ⟨rfl, rfl⟩
        go_wp2_with fail
        refine HSIDE.out.mono ?_
        rintro e w3 ⟨rfl, hb3⟩
        have HB3 := Lib.hid (below_trans HB'.out hb3)
        have HOA : Hid ((w3.alloc (.cells #[.string x] 9)).ownsRow w.heap.size 9 1 u6 rest.length (rest.reverse.map Value.string)) := Lib.hid (row_below (row_below HO'.out hb3) (below_alloc (Below.refl _ _) _))
        clear hb3
        go_wp2_with (at_builtin; refine wpList_app _ rfl (.tmp 44) (.tmp 49) 22 22 rfl w.heap.size 9 9 ip _ 1 16 Tryz.underlying22 Tryz.underlying22 HI.out.1 HI.out.2.1 HI.out.2.2.1 HI.out.2.2.2 rfl (by omega) u6 rest.length _ rfl HOA.out (some ⟨w3.heap.size, 0, none⟩) 1 1 [.string x] rfl (Rd_new w3 #[.string x] _ 1 1 _ rfl rfl) (by simp [Value.oneCell']) (by have := HRE.out; simp only [maxLen]; omega) (by have := HRE.out; omega) (by have := HB3.out.size; simp; omega) ?_)
        intro v6 w4 hown4 hg4
        have HB4 : Hid (Below w.heap.size w w4) := Lib.hid ((below_alloc HB3.out _).grown hg4 (by have := HB3.out.size; simp; omega) (fun j hj => (HOA.out.lt j hj).1))
        have e4 : (rest.map Value.string).reverse ++ [.string x] = (x :: rest).reverse.map Value.string := by simp
        rw [e4] at hown4
        have HO4 := Lib.hid hown4
        clear hown4 hg4 e4
        go_wp2
        go_roundw
        case rel =>
          refine ⟨b, (off + k), (c' - k), l'.drop k, (i' - k), false, x :: rest, by rw [HNL.out], by go_num, rfl, by omega, by rw [HNL.out]; omega, by rw [HNL.out]; omega, by rw [HNL.out]; omega, HSN.out, HMN.out, HP2.out, HB4.out, HO4.out⟩
        case measure => simp [lenV]; omega
    · have hie : i' = l'.length := by omega
      have hnl : ¬ (i' : Int) < (l'.length : Int) := by omega
      cases wh with
      | true =>
      have hp2 : P0 = rest := by rw [HP'.out, lk_end l' i' true hlt]; rfl
      obtain rfl := hp2
      have hr := rev_any w.heap.size u6 P0.reverse wr (by rw [List.length_reverse]; exact HO'.out) (by rw [List.length_reverse]; have := HPL.out; omega) HB'.out.size
      rw [List.reverse_reverse, List.length_reverse] at hr
      have HR := Lib.hid hr
      clear hr
      go_wp2_with fail
      refine HR.out.mono ?_
      rintro e w5 ⟨rfl, A', c'', rfl, hc, hs3, ha3, hb3⟩
      have HC := Lib.hid hc
      have HS3 := Lib.hid hs3
      have HA3 := Lib.hid ha3
      have HB5 := Lib.hid (Below.trans HB'.out hb3)
      clear hc hs3 ha3 hb3
      go_wp2
      go_ret2
      exact ⟨A', c'', rfl, HC.out, HS3.out, HA3.out, HB5.out⟩
      | false =>
      obtain ⟨x, hx⟩ : ∃ x, rt l' = x := ⟨_, rfl⟩
      have hp2 : P0 = x :: rest := by rw [HP'.out, lk_end l' i' false hlt, hx]; rfl
      have HSIDE := Lib.hid (HTOT.out b off c' l' wr HB'.out HS'.out HM'.out g2 g3)
      rw [hx] at HSIDE
      have hre : rest.length + 1 ≤ P0.length := by rw [hp2]; simp
      have HRE : Hid (rest.length ≤ 100000) := Lib.hid (by have := HPL.out; omega)
      clear hx hre
      go_wp2_with fail
      refine HSIDE.out.mono ?_
      rintro e w3 ⟨rfl, hb3⟩
      have HB3 := Lib.hid (below_trans HB'.out hb3)
      have HOA : Hid ((w3.alloc (.cells #[.string x] 9)).ownsRow w.heap.size 9 1 u6 rest.length (rest.reverse.map Value.string)) := Lib.hid (row_below (row_below HO'.out hb3) (below_alloc (Below.refl _ _) _))
      clear hb3
      go_wp2_with (at_builtin; refine wpList_app _ rfl (.tmp 59) (.tmp 62) 22 22 rfl w.heap.size 9 9 ip _ 1 16 Tryz.underlying22 Tryz.underlying22 HI.out.1 HI.out.2.1 HI.out.2.2.1 HI.out.2.2.2 rfl (by omega) u6 rest.length _ rfl HOA.out (some ⟨w3.heap.size, 0, none⟩) 1 1 [.string x] rfl (Rd_new w3 #[.string x] _ 1 1 _ rfl rfl) (by simp [Value.oneCell']) (by have := HRE.out; simp only [maxLen]; omega) (by have := HRE.out; omega) (by have := HB3.out.size; simp; omega) ?_)
      intro v6 w4 hown4 hg4
      have HB4 : Hid (Below w.heap.size w w4) := Lib.hid ((below_alloc HB3.out _).grown hg4 (by have := HB3.out.size; simp; omega) (fun j hj => (HOA.out.lt j hj).1))
      have e4 : (rest.map Value.string).reverse ++ [.string x] = (x :: rest).reverse.map Value.string := by simp
      rw [e4] at hown4
      have HO4 := Lib.hid hown4
      clear hown4 hg4 e4
      obtain rfl := hp2
      have hr := rev_any w.heap.size v6 (x :: rest).reverse w4 (by rw [List.length_reverse]; exact HO4.out) (by rw [List.length_reverse]; have := HPL.out; omega) HB4.out.size
      rw [List.reverse_reverse, List.length_reverse] at hr
      have HR := Lib.hid hr
      clear hr
      go_wp2_with fail
      refine HR.out.mono ?_
      rintro e w5 ⟨rfl, A', c'', rfl, hc, hs3, ha3, hb3⟩
      have HC := Lib.hid hc
      have HS3 := Lib.hid hs3
      have HA3 := Lib.hid ha3
      have HB5 := Lib.hid (Below.trans HB4.out hb3)
      clear hc hs3 ha3 hb3
      go_wp2
      go_ret2
      exact ⟨A', c'', rfl, HC.out, HS3.out, HA3.out, HB5.out⟩

end Go.Proofs.YtfmlhlliephlhaaGreatDoor
