/- Layer 2: Reverse, Path. The reference of layer 2: Half, Empty, node, root. The reference of layer 2: up, PathTexts. The reference of layer 2: Texts. The reference of layer 2: Shown. Plain words of layer 2 that the laws share; an append that is guarded. Plain: the string of a share; what SharesCommit says of the strings that were digested. Arguments of chapter 7's laws: a share, a list of shares, a list of numbers. -/
import Derived.Test.YtjfondfjdhjooaaGreatDoorCbB
import Derived.Deep.RegionHeld3
namespace Go.Proofs.YtjfondfjdhjooaaGreatDoor
set_option linter.unusedVariables false
set_option linter.unusedSimpArgs false

section
open Go.RowKit

theorem info_strg : (Tryz.prog.info? 9).map (fun i => (i.zero, i.size, i.bytes)) = some (some (.string ByteArray.empty), 1, 16) := by kernel_rfl
theorem strsOf_rev (l : List ByteArray) : ((Go.Lib.strsOf (fun i => l.getD i ByteArray.empty) l.length).reverse.map encStr) = l.reverse.map Value.string := by
  have e : Go.Lib.strsOf (fun i => l.getD i ByteArray.empty) l.length = l.map (fun s => s.data.toList) := by
    apply List.ext_getElem?
    intro i
    by_cases hi : i < l.length
    · simp [Go.Lib.strsOf, hi]
    · simp [Go.Lib.strsOf, hi]
  rw [e, ← List.map_reverse, List.map_map]
  rfl

theorem below_setCs {B : Nat} {a : World} (b : Nat) (hb : B ≤ b) : ∀ (vs : List Value) (o : Nat) {w : World}, Below B a w → Below B a (w.setCells b o vs)
  | [], _, _, h => h
  | v :: r, o, _, h => below_setCs b hb r (o + 1) (h.setCell (p := ⟨b, o, none⟩) hb v)

theorem setCs_kind (g : Nat) (T : Nat) : ∀ (vs : List Value) (o : Nat) {w : World} {cs : Array Value}, w.heap[g]? = some (.cells cs T (0, 0)) → ∃ cs', (w.setCells g o vs).heap[g]? = some (.cells cs' T (0, 0))
  | [], _, _, cs, h => ⟨cs, h⟩
  | v :: r, o, w, cs, h => setCs_kind g T r (o + 1) (heap_setCell_same w g o cs T v h)
theorem rev_any (B : Nat) (v : Value) (l : List ByteArray) (w : World) (h : w.ownsRow B 9 1 v l.length (l.map Value.string)) (hb : l.length ≤ 1000000) (hB : B ≤ w.heap.size) :
    Calls Tryz.prog 95 #[v] w fun e w' => e = .returned (.tuple #[]) ∧ ∃ A c, v = .slice A l.length c ∧ l.length ≤ c ∧ Strs w' A l.reverse ∧ (∀ a, A = some a → B ≤ a.block ∧ a.block < w'.heap.size ∧ ∃ cs, w'.heap[a.block]? = some (.cells cs 9 (0, 0))) ∧ Below B w w' := by
  rcases h.2 with ⟨rfl, h0⟩ | ⟨g, cap, cur, rfl, hg1, hg2, hg3, hg4, hg5, hg6⟩
  · have h0' : l.length = 0 := h0
    obtain rfl : l = [] := List.eq_nil_of_length_eq_zero h0'
    refine (Tryz.slices_Reverse_string_empty none 0 w).mono ?_
    rintro e w' ⟨rfl, rfl⟩
    exact ⟨rfl, none, 0, rfl, Nat.le_refl _, ⟨rfl, fun h => by simp at h⟩, fun a ha => (by cases ha), Below.refl _ _⟩
  · have hrd := Rd.of_own h
    obtain ⟨A, c, hv, hc1, -, hR⟩ := hrd
    obtain ⟨rfl, rfl⟩ : some ⟨g, 0, none⟩ = A ∧ cap = c := by simpa using hv
    have hcell : ∀ i, i < l.length → w.cell? ⟨g, 0 + i, none⟩ = some (.string (l.getD i ByteArray.empty)) := fun i hi => by
      obtain ⟨b', off', e, hc⟩ := hR.2 (by omega)
      obtain ⟨rfl, rfl⟩ : g = b' ∧ 0 = off' := by simpa using e
      exact hc i _ (by simp [hi])
    refine (Tryz.slices_Reverse_string_cells g 0 l.length cap (fun i => l.getD i ByteArray.empty) w (by omega) hcell (fun j _ => frozen_of_row w g _ cur 9 hg2)).mono ?_
    rintro e w' ⟨rfl, q, rfl⟩
    rw [strsOf_rev]
    have hbel : Below B w ((w.drewN q).setCells g 0 (l.reverse.map Value.string)) := below_setCs g hg1 _ 0 ⟨rfl, rfl, rfl, Nat.le_refl _, fun _ _ => rfl⟩
    refine ⟨rfl, some ⟨g, 0, none⟩, cap, rfl, hc1, ⟨by simp, fun hn => ⟨g, 0, rfl, fun j u hu => ?_⟩⟩, fun a ha => ?_, hbel⟩
    · have hj : j < (l.reverse.map Value.string).length := (List.getElem?_eq_some_iff.1 hu).1
      have hin := World.cell?_setCells_in g (l.reverse.map Value.string) 0 (w.drewN q) (fun i hi => by
        have : i < l.length := by simpa using hi
        show ((w.drewN q).cell? ⟨g, 0 + i, none⟩).isSome = true
        have h2 : (w.drewN q).cell? ⟨g, 0 + i, none⟩ = w.cell? ⟨g, 0 + i, none⟩ := rfl
        rw [h2, hcell i this]; rfl) j hj
      rw [hin, ← (List.getElem?_eq_some_iff.1 hu).2]
    · cases ha
      exact ⟨hg1, Nat.lt_of_lt_of_le (Array.getElem?_eq_some_iff.1 hg2).1 hbel.size, setCs_kind g 9 _ 0 (w := w.drewN q) hg2⟩

def lenV : Value → Nat
  | .slice _ n _ => n
  | _ => 0

theorem pt_below (l : List ByteArray) (i : Nat) (h : sm l) : ∀ s ∈ pt l i, s.size ≤ 200 := by
  obtain ⟨n, hn⟩ : ∃ n, l.length = n := ⟨_, rfl⟩
  induction n using Nat.strongRecOn generalizing l i with
  | _ n ih =>
    by_cases h2 : 2 ≤ l.length
    · have k1 := hf_lt l.length h2
      have k2 := hf_pos l.length
      intro s hs
      by_cases hi : i < hf l.length
      · rw [pt_lt l i h2 hi] at hs
        rcases List.mem_append.1 hs with h3 | h3
        · exact ih _ (by rw [List.length_take]; omega) _ i (h.take _) rfl s h3
        · rw [List.mem_singleton.1 h3]; exact rt_size _ (h.drop _)
      · rw [pt_ge l i h2 hi] at hs
        rcases List.mem_append.1 hs with h3 | h3
        · exact ih _ (by rw [List.length_drop]; omega) _ _ (h.drop _) rfl s h3
        · rw [List.mem_singleton.1 h3]; exact rt_size _ (h.take _)
    · rw [pt_one l i h2]; intro s hs; cases hs
theorem plen_lt_n (n i : Nat) (h : 1 ≤ n) : plen n i < n := by
  induction n using Nat.strongRecOn generalizing i with
  | _ n ih =>
    by_cases h2 : 2 ≤ n
    · have k1 := hf_lt n h2
      have k2 := hf_pos n
      by_cases hi : i < hf n
      · rw [plen_lt n i h2 hi]; have := ih (hf n) k1 i k2; omega
      · rw [plen_ge n i h2 hi]; have := ih (n - hf n) (by omega) (i - hf n) (by omega); omega
    · rw [plen_one n i h2]; omega

set_option maxRecDepth 100000 in
set_option maxHeartbeats 16000000 in
theorem tpath_any (A : Option Addr) (c : Nat) (l : List ByteArray) (i : Int) (w : World) (hbig : l.length ≤ 100000) (hcap : l.length ≤ c) (hS : Strs w A l) (hsm : sm l) (hT : Tabs w) (hD : allD l = true) (hi0 : 0 ≤ i) (hi1 : i < l.length) :
    Calls Tryz.prog 53 #[.slice A l.length c, .int .i64 i] w fun e w' => ∃ A' c', e = .returned (.tuple #[.slice A' (pt l i.toNat).length c', .int .i64 0]) ∧ (pt l i.toNat).length ≤ c' ∧ Strs w' A' (pt l i.toNat) ∧ (∀ a, A' = some a → w.heap.size ≤ a.block ∧ a.block < w'.heap.size ∧ ∃ cs, w'.heap[a.block]? = some (.cells cs 9 (0, 0))) ∧ Below w.heap.size w w' := by
  obtain ⟨ii, rfl⟩ : ∃ ii : Nat, i = ii := ⟨i.toNat, by omega⟩
  rw [Int.toNat_natCast]
  have hpl : (pt l ii).length ≤ l.length := by rw [pt_len]; have := plen_lt_n l.length ii (by omega); omega
  obtain ⟨P0, hP0⟩ : ∃ P0, pt l ii = P0 := ⟨_, rfl⟩
  have HPL := Lib.hid hpl
  rw [hP0] at HPL ⊢
  have HP0 := Lib.hid hP0
  obtain ⟨ip, hj1, hy0, hy1, hy2⟩ := info_parts info_strg
  have HI := Lib.hid (And.intro hj1 (And.intro hy0 (And.intro hy1 hy2)))
  have HPR := Lib.hid (proper_any A c l w (by omega) hS (fun s hs => by have := hsm s hs; omega))
  rw [hD] at HPR
  have HTOT : Hid (∀ (b off c' : Nat) (l' : List ByteArray) (W : World), Below w.heap.size w W → Strs w (some ⟨b, off, none⟩) l' → sm l' → l'.length ≤ c' → l'.length ≤ 100000 → Calls Tryz.prog 89 #[.slice (some ⟨b, off, none⟩) l'.length c'] W fun e w' => e = .returned (.string (rt l')) ∧ Below W.heap.size W w') :=
    Lib.hid (fun b off c' l' W hW hs hm hc hb => total_any (some ⟨b, off, none⟩) c' l' W (by omega) hc (hs.below hW) hm (hT.below hW))
  obtain ⟨b0, off0, rfl, -⟩ := hS.2 (by omega)
  have HS := Lib.hid hS
  have HSM := Lib.hid hsm
  clear hj1 hy0 hy1 hy2 hD hT hS hsm hP0 hpl
  have HO : Hid (w.ownsRow w.heap.size 9 1 (.slice none 0 0) 0 []) := ⟨rfl, .inl ⟨rfl, rfl⟩⟩
  have hd1 : decide (l.length ≤ ii) = false := decide_eq_false (by omega)
  have hd2 : decide ((ii : Int) < 0) = false := decide_eq_false (by omega)
  go_enter Tryz.func53, Tryz.ntmps53
  go_wp2_with fail
  refine HPR.out.mono ?_
  rintro e w1 ⟨rfl, hb1⟩
  have HB1 := Lib.hid hb1
  have HO1 := Lib.hid (row_below HO.out hb1)
  clear hb1
  go_wp2_with fail
  go_loopw [0, 1, 6] (fun u0 u1 u6 wr => ∃ (b off c' : Nat) (l' : List ByteArray) (i' : Nat) (rest : List ByteArray), u0 = .slice (some ⟨b, off, none⟩) l'.length c' ∧ u1 = .int .i64 i' ∧ i' < l'.length ∧ l'.length ≤ c' ∧ l'.length ≤ 100000 ∧ Strs w (some ⟨b, off, none⟩) l' ∧ sm l' ∧
      P0 = pt l' i' ++ rest ∧ Below w.heap.size w wr ∧ wr.ownsRow w.heap.size 9 1 u6 rest.length (rest.reverse.map Value.string)) (fun u0 _ _ _ => lenV u0)
  case atStart => exact ⟨b0, off0, c, l, ii, [], rfl, rfl, by omega, hcap, hbig, HS.out, HSM.out, by rw [List.append_nil, HP0.out], HB1.out, HO1.out⟩
  case round =>
    obtain ⟨b, off, c', l', i', rest, rfl, rfl, g1, g2, g3, hs', hm', hp', hb', ho'⟩ := hrel
    have HS' := Lib.hid hs'
    have HM' := Lib.hid hm'
    have HP' := Lib.hid hp'
    have HB' := Lib.hid hb'
    have HO' := Lib.hid ho'
    clear hs' hm' hp' hb' ho'
    by_cases h2 : 2 ≤ l'.length
    · obtain ⟨k, hk⟩ : ∃ k, hf l'.length = k := ⟨_, rfl⟩
      have k1 := hf_lt l'.length h2
      have k2 := hf_pos l'.length
      rw [hk] at k1 k2
      have HH := Lib.hid (fun W => half_any l'.length (by omega) W)
      rw [hk] at HH
      by_cases hik : i' < k
      · have hst := pt_lt l' i' h2 (by rw [hk]; exact hik)
        rw [hk] at hst
        have hside := HTOT.out b (off + k) (c' - k) (l'.drop k) wr HB'.out (HS'.out.drop k) (HM'.out.drop k) (by rw [List.length_drop]; omega) (by rw [List.length_drop]; omega)
        rw [List.length_drop] at hside
        have hnl : (l'.take k).length = k := by rw [List.length_take]; omega
        have HSIDE := Lib.hid hside
        have HNL := Lib.hid hnl
        have HSN := Lib.hid (HS'.out.take k)
        have HMN := Lib.hid (HM'.out.take k)
        obtain ⟨x, hx⟩ : ∃ x, rt (l'.drop k) = x := ⟨_, rfl⟩
        rw [hx] at HSIDE hst
        have hp2 : P0 = pt (l'.take k) i' ++ (x :: rest) := by rw [HP'.out, hst, List.append_assoc]; rfl
        have hre : rest.length + 1 ≤ P0.length := by rw [hp2]; simp
        have HP2 := Lib.hid hp2
        have HRE : Hid (rest.length ≤ 100000) := Lib.hid (by have := HPL.out; omega)
        clear hst hside hnl hx hp2 hre
        generalize l'.length = m at *
        have hkm : (k : Int) ≤ (m : Int) := by omega
        have hkc : (k : Int) ≤ (c' : Int) := by omega
        have hck : (c' = k) = False := by simp; omega
        have hyi : (i' : Int) < (k : Int) := by omega
        go_wp2_with fail
        refine (HH.out wr).mono ?_
        rintro e _ ⟨rfl, rfl⟩
        go_wp2_with fail
        refine HSIDE.out.mono ?_
        rintro e w3 ⟨rfl, hb3⟩
        have HB3 := Lib.hid (below_trans HB'.out hb3)
        have HOA : Hid ((w3.alloc (.cells #[.string x] 9)).ownsRow w.heap.size 9 1 u6 rest.length (rest.reverse.map Value.string)) := Lib.hid (row_below (row_below HO'.out hb3) (below_alloc (Below.refl _ _) _))
        clear hb3
        go_wp2_with (at_builtin; refine wpList_app _ rfl (.tmp 30) (.tmp 35) 30 30 rfl w.heap.size 9 9 ip _ 1 16 Tryz.underlying30 Tryz.underlying30 HI.out.1 HI.out.2.1 HI.out.2.2.1 HI.out.2.2.2 rfl (by omega) u6 rest.length _ rfl HOA.out (some ⟨w3.heap.size, 0, none⟩) 1 1 [.string x] rfl (Rd_new w3 #[.string x] _ 1 1 _ rfl rfl) (by simp [Value.oneCell']) (by have := HRE.out; simp only [maxLen]; omega) (by have := HRE.out; omega) (by have := HB3.out.size; simp; omega) ?_)
        intro v6 w4 hown4 hg4
        have HB4 : Hid (Below w.heap.size w w4) := Lib.hid ((below_alloc HB3.out _).grown hg4 (by have := HB3.out.size; simp; omega) (fun j hj => (HOA.out.lt j hj).1))
        have e4 : (rest.map Value.string).reverse ++ [.string x] = (x :: rest).reverse.map Value.string := by simp
        rw [e4] at hown4
        have HO4 := Lib.hid hown4
        clear hown4 hg4 e4
        go_wp2
        go_roundw
        case rel =>
          refine ⟨b, off, c', l'.take k, i', x :: rest, by rw [HNL.out], by go_num, by rw [HNL.out]; omega, by rw [HNL.out]; omega, by rw [HNL.out]; omega, HSN.out, HMN.out, HP2.out, HB4.out, HO4.out⟩
        case measure => simp [lenV]; omega
      · have hst := pt_ge l' i' h2 (by rw [hk]; exact hik)
        rw [hk] at hst
        have hside := HTOT.out b off c' (l'.take k) wr HB'.out (HS'.out.take k) (HM'.out.take k) (by rw [List.length_take]; omega) (by rw [List.length_take]; omega)
        rw [List.length_take, Nat.min_eq_left (by omega)] at hside
        have hnl : (l'.drop k).length = l'.length - k := by rw [List.length_drop]
        have HSIDE := Lib.hid hside
        have HNL := Lib.hid hnl
        have HSN := Lib.hid (HS'.out.drop k)
        have HMN := Lib.hid (HM'.out.drop k)
        obtain ⟨x, hx⟩ : ∃ x, rt (l'.take k) = x := ⟨_, rfl⟩
        rw [hx] at HSIDE hst
        have hp2 : P0 = pt (l'.drop k) (i' - k) ++ (x :: rest) := by rw [HP'.out, hst, List.append_assoc]; rfl
        have hre : rest.length + 1 ≤ P0.length := by rw [hp2]; simp
        have HP2 := Lib.hid hp2
        have HRE : Hid (rest.length ≤ 100000) := Lib.hid (by have := HPL.out; omega)
        clear hst hside hnl hx hp2 hre
        generalize l'.length = m at *
        have hkm : (k : Int) ≤ (m : Int) := by omega
        have hkc : (k : Int) ≤ (c' : Int) := by omega
        have hck : (c' = k) = False := by simp; omega
        have hni : ¬ (i' : Int) < (k : Int) := by omega
        go_wp2_with fail
        refine (HH.out wr).mono ?_
        rintro e _ ⟨rfl, rfl⟩
        go_wp2_with fail
        refine HSIDE.out.mono ?_
        rintro e w3 ⟨rfl, hb3⟩
        have HB3 := Lib.hid (below_trans HB'.out hb3)
        have HOA : Hid ((w3.alloc (.cells #[.string x] 9)).ownsRow w.heap.size 9 1 u6 rest.length (rest.reverse.map Value.string)) := Lib.hid (row_below (row_below HO'.out hb3) (below_alloc (Below.refl _ _) _))
        clear hb3
        go_wp2_with (at_builtin; refine wpList_app _ rfl (.tmp 40) (.tmp 45) 30 30 rfl w.heap.size 9 9 ip _ 1 16 Tryz.underlying30 Tryz.underlying30 HI.out.1 HI.out.2.1 HI.out.2.2.1 HI.out.2.2.2 rfl (by omega) u6 rest.length _ rfl HOA.out (some ⟨w3.heap.size, 0, none⟩) 1 1 [.string x] rfl (Rd_new w3 #[.string x] _ 1 1 _ rfl rfl) (by simp [Value.oneCell']) (by have := HRE.out; simp only [maxLen]; omega) (by have := HRE.out; omega) (by have := HB3.out.size; simp; omega) ?_)
        intro v6 w4 hown4 hg4
        have HB4 : Hid (Below w.heap.size w w4) := Lib.hid ((below_alloc HB3.out _).grown hg4 (by have := HB3.out.size; simp; omega) (fun j hj => (HOA.out.lt j hj).1))
        have e4 : (rest.map Value.string).reverse ++ [.string x] = (x :: rest).reverse.map Value.string := by simp
        rw [e4] at hown4
        have HO4 := Lib.hid hown4
        clear hown4 hg4 e4
        go_wp2
        go_roundw
        case rel =>
          refine ⟨b, (off + k), (c' - k), l'.drop k, (i' - k), x :: rest, by rw [HNL.out], by go_num, by rw [HNL.out]; omega, by rw [HNL.out]; omega, by rw [HNL.out]; omega, HSN.out, HMN.out, HP2.out, HB4.out, HO4.out⟩
        case measure => simp [lenV]; omega
    · have hm1 : l'.length = 1 := by omega
      have hp2 : P0 = rest := by rw [HP'.out, pt_one l' i' h2]; rfl
      obtain rfl := hp2
      have hr := rev_any w.heap.size u6 P0.reverse wr (by rw [List.length_reverse]; exact HO'.out) (by rw [List.length_reverse]; have := HPL.out; omega) HB'.out.size
      rw [List.reverse_reverse, List.length_reverse] at hr
      have HR := Lib.hid hr
      clear hr
      go_wp2_with fail
      refine HR.out.mono ?_
      rintro e w3 ⟨rfl, A', c'', rfl, hc, hs3, ha3, hb3⟩
      have HC := Lib.hid hc
      have HS3 := Lib.hid hs3
      have HA3 := Lib.hid ha3
      have HB3 := Lib.hid (Below.trans HB'.out hb3)
      clear hc hs3 ha3 hb3
      go_wp2
      go_ret2
      exact ⟨A', c'', rfl, HC.out, HS3.out, HA3.out, HB3.out⟩
end

section
open Go.RowKit

set_option maxHeartbeats 1600000 in
theorem rhalf_any (n : Nat) (h : n ≤ 1000000) (w : World) : Calls Tryz.prog 115 #[.int .i64 n] w fun e w' => e = .returned (.int .i64 (hf n)) ∧ w = w' := by
  go_enter Tryz.func115, Tryz.ntmps115
  go_wp2_with fail
  go_loop [3] (fun u => ∃ j k : Nat, k = 2 ^ j ∧ (k < n ∨ j = 0) ∧ u = .int .i64 k) (fun u => n - (intOf u).toNat)
  case atStart => exact ⟨0, 1, rfl, .inr rfl, rfl⟩
  case round =>
    obtain ⟨j, k, hk, hj, rfl⟩ := hrel
    have hk1 : 1 ≤ k := by rw [hk]; exact Nat.one_le_two_pow
    have hk2 : k ≤ 1000000 := by
      rcases hj with h1 | rfl
      · omega
      · simp at hk; omega
    have HK := Lib.hid hk
    have HJ := Lib.hid hj
    clear hk hj
    by_cases hlt : 2 * k < n
    · go_wp2
      go_round
      case rel => exact ⟨j + 1, 2 * k, by rw [HK.out, Nat.pow_succ]; omega, .inl hlt, by go_num⟩
      case measure => simp [intOf]; omega
    · have he : hf n = k := by
        have := hf_eq n j (by rcases HJ.out with h1 | h1; exact .inl (by rw [← HK.out]; exact h1); exact .inr h1) (by rw [← HK.out]; omega)
        rw [this, HK.out]
      have HE := Lib.hid he
      clear he
      go_wp2
      go_ret
      exact ⟨ret_int (by rw [HE.out]), rfl⟩

set_option maxHeartbeats 1600000 in
theorem rnode_any (a b : ByteArray) (ha : a.size ≤ 200) (hb : b.size ≤ 200) (w : World) :
    Calls Tryz.prog 124 #[.string a, .string b] w fun e w' => e = .returned (.string (nd a b)) ∧ Below w.heap.size w w' := by
  obtain ⟨wa, hwa⟩ : ∃ wa, w.alloc (.cells #[.string bNode, .string a, .string b] 9) = wa := ⟨_, rfl⟩
  have HBA : Hid (Below w.heap.size w wa) := Lib.hid (by rw [← hwa]; exact below_alloc (Below.refl _ _) _)
  have HSA : Hid (Strs wa (some ⟨w.heap.size, 0, none⟩) [bNode, a, b]) := Lib.hid (by rw [← hwa]; exact Strs_new _ _ _ _ _ rfl rfl)
  have HWA := Lib.hid hwa
  have HL := Lib.hid (rlist (some ⟨w.heap.size, 0, none⟩) 3 [bNode, a, b] wa HSA.out (by simp) (by
    intro s hs
    simp only [List.mem_cons, List.not_mem_nil, or_false] at hs
    rcases hs with rfl | rfl | rfl
    · decide
    · exact ha
    · exact hb))
  clear hwa
  go_enter Tryz.func124, Tryz.ntmps124
  go_wp2_with fail
  have hwa := HWA.out
  unfold bNode at hwa
  rw [hwa]
  refine HL.out.mono ?_
  rintro e w1 ⟨rfl, hb1⟩
  have HB1 := Lib.hid (below_trans HBA.out hb1)
  clear hb1 hwa
  go_wp2
  go_ret
  exact ⟨rfl, HB1.out⟩

set_option maxHeartbeats 1600000 in
theorem rempty_any (w : World) : Calls Tryz.prog 123 #[] w fun e w' => e = .returned (.string em) ∧ Below w.heap.size w w' := by
  have HL := Lib.hid (rlist (some ⟨w.heap.size, 0, none⟩) 1 [bEmpty] (w.alloc (.cells #[.string bEmpty] 9)) (Strs_new _ _ _ _ _ rfl rfl) (by simp) (by intro s hs; rw [List.mem_singleton.1 hs]; decide))
  unfold bEmpty at HL
  go_enter Tryz.func123, Tryz.ntmps123
  go_wp2_with fail
  refine HL.out.mono ?_
  rintro e w1 ⟨rfl, hb1⟩
  have HB1 := Lib.hid (below_trans (below_alloc (Below.refl _ _) _) hb1)
  clear hb1
  go_wp2
  go_ret
  exact ⟨rfl, HB1.out⟩

set_option maxRecDepth 100000 in
set_option maxHeartbeats 8000000 in
theorem rroot_any (n : Nat) : ∀ (A : Option Addr) (c : Nat) (l : List ByteArray) (w : World), l.length ≤ n → l.length ≤ 100000 → l.length ≤ c → Strs w A l → sm l →
    Calls Tryz.prog 93 #[.slice A l.length c] w fun e w' => e = .returned (.string (rt l)) ∧ Below w.heap.size w w' := by
  induction n with
  | zero =>
    intro A c l w h1 h2 h3 hS hsm
    obtain rfl : l = [] := List.eq_nil_of_length_eq_zero (by omega)
    have HE := Lib.hid (rempty_any w)
    rw [rt_nil]
    clear hS hsm
    go_enter Tryz.func93, Tryz.ntmps93
    go_wp2_with fail
    refine HE.out.mono ?_
    rintro e w1 ⟨rfl, hb1⟩
    have HB1 := Lib.hid hb1
    clear hb1
    go_wp2
    go_ret
    exact ⟨rfl, HB1.out⟩
  | succ n ih =>
    intro A c l w hn hbig hcap hS hsm
    by_cases h2 : 2 ≤ l.length
    · obtain ⟨b, off, rfl, -⟩ := hS.2 (by omega)
      obtain ⟨k, hk⟩ : ∃ k, hf l.length = k := ⟨_, rfl⟩
      have HH := Lib.hid (rhalf_any l.length (by omega) w)
      rw [hk] at HH
      have k1 := hf_lt l.length h2
      have k2 := hf_pos l.length
      rw [hk] at k1 k2
      have hrt := rt_split l k h2 hk
      have hs1 := rt_size _ (hsm.take k)
      have hs2 := rt_size _ (hsm.drop k)
      have H1 : Hid (∀ W, Below w.heap.size w W → Calls Tryz.prog 93 #[.slice (some ⟨b, off, none⟩) k c] W fun e w' => e = .returned (.string (rt (l.take k))) ∧ Below w.heap.size w w') := Lib.hid (fun W hW => by
        have := ih (some ⟨b, off, none⟩) c (l.take k) W (by rw [List.length_take]; omega) (by rw [List.length_take]; omega) (by rw [List.length_take]; omega) ((hS.below hW).take k) (hsm.take k)
        rw [List.length_take, Nat.min_eq_left (by omega)] at this
        exact this.mono fun _ _ ⟨he, hb⟩ => ⟨he, below_trans hW hb⟩)
      have H2 : Hid (∀ W, Below w.heap.size w W → Calls Tryz.prog 93 #[.slice (some ⟨b, off + k, none⟩) (l.length - k) (c - k)] W fun e w' => e = .returned (.string (rt (l.drop k))) ∧ Below w.heap.size w w') := Lib.hid (fun W hW => by
        have := ih (some ⟨b, off + k, none⟩) (c - k) (l.drop k) W (by rw [List.length_drop]; omega) (by rw [List.length_drop]; omega) (by rw [List.length_drop]; omega) ((hS.below hW).drop k) (hsm.drop k)
        rw [List.length_drop] at this
        exact this.mono fun _ _ ⟨he, hb⟩ => ⟨he, below_trans hW hb⟩)
      have H3 : Hid (∀ W, Below w.heap.size w W → Calls Tryz.prog 124 #[.string (rt (l.take k)), .string (rt (l.drop k))] W fun e w' => e = .returned (.string (nd (rt (l.take k)) (rt (l.drop k)))) ∧ Below w.heap.size w w') := Lib.hid (fun W hW => (rnode_any _ _ hs1 hs2 W).mono fun _ _ ⟨he, hb⟩ => ⟨he, below_trans hW hb⟩)
      rw [hrt]
      generalize rt (l.take k) = r1 at *
      generalize rt (l.drop k) = r2 at *
      generalize l.length = m at *
      clear hrt hs1 hs2 hS hsm ih hk h2
      have hne : ((m : Int) == 1) = false := by simp; omega
      have hne0 : ((m : Int) == 0) = false := by simp; omega
      have hkm : (k : Int) ≤ (m : Int) := by omega
      have hkc : (k : Int) ≤ (c : Int) := by omega
      have hck : (c = k) = False := by simp; omega
      go_enter Tryz.func93, Tryz.ntmps93
      go_wp2_with fail
      refine HH.out.mono ?_
      rintro e _ ⟨rfl, rfl⟩
      go_wp2_with fail
      refine wp_region_below (by kernel_rfl) (by kernel_rfl) ?_
      refine wpQuiet_step (fun K hK => ?_)
      go_simp
      apply Exists.intro
      refine ⟨fun W hW => ?_, hK _ ?_⟩
      · (try go_simp
         exact rfl)
      clear hK K
      refine wpQuiet_step (fun K hK => ?_)
      go_simp
      apply Exists.intro
      refine ⟨fun W hW => ?_, hK _ ?_⟩
      · (try go_simp
         exact rfl)
      clear hK K
      refine wpQuiet_step (fun K hK => ?_)
      go_simp
      apply Exists.intro
      refine ⟨fun W hW => ?_, hK _ ?_⟩
      · (try go_simp
         exact rfl)
      clear hK K
      refine wpQuiet_step (fun K hK => ?_)
      go_simp
      apply Exists.intro
      refine ⟨fun W hW => ?_, hK _ ?_⟩
      · exact H1.out W hW
      clear hK K
      refine wpQuiet_step (fun K hK => ?_)
      go_simp
      apply Exists.intro
      refine ⟨fun W hW => ?_, hK _ ?_⟩
      · (try go_simp
         exact rfl)
      clear hK K
      refine wpQuiet_step (fun K hK => ?_)
      go_simp
      apply Exists.intro
      refine ⟨fun W hW => ?_, hK _ ?_⟩
      · (try go_simp
         exact rfl)
      clear hK K
      refine wpQuiet_step (fun K hK => ?_)
      go_simp
      apply Exists.intro
      refine ⟨fun W hW => ?_, hK _ ?_⟩
      · (try go_simp
         exact rfl)
      clear hK K
      refine wpQuiet_step (fun K hK => ?_)
      go_simp
      apply Exists.intro
      refine ⟨fun W hW => ?_, hK _ ?_⟩
      · exact H2.out W hW
      clear hK K
      refine wpQuiet_step (fun K hK => ?_)
      go_simp
      apply Exists.intro
      refine ⟨fun W hW => ?_, hK _ ?_⟩
      · exact H3.out W hW
      clear hK K
      refine wpQuiet_step (fun K hK => ?_)
      go_simp
      apply Exists.intro
      refine ⟨fun W hW => ?_, hK _ ?_⟩
      · (try go_simp
         exact rfl)
      clear hK K
      refine wpQuiet_nil ?_
      intro W hW
      go_wp2
      go_ret
      exact ⟨rfl, hW⟩
    · match l, h2, hS with
      | [], _, _ =>
        have HE := Lib.hid (rempty_any w)
        rw [rt_nil]
        clear hsm ih
        go_enter Tryz.func93, Tryz.ntmps93
        go_wp2_with fail
        refine HE.out.mono ?_
        rintro e w1 ⟨rfl, hb1⟩
        have HB1 := Lib.hid hb1
        clear hb1
        go_wp2
        go_ret
        exact ⟨rfl, HB1.out⟩
      | [x], _, hS =>
        obtain ⟨b, off, rfl, c0⟩ := hS.at_ (k := 0) (x := x) rfl
        have c0l := lt_of_cell c0
        rw [rt_one]
        clear ih hS hsm
        simp only [List.length_singleton, Nat.add_zero] at *
        go_enter Tryz.func93, Tryz.ntmps93
        go_wp2
        go_ret
        exact ⟨rfl, Below.refl _ _⟩
      | x :: y :: l, h2, _ => simp at h2
end

section
open Go.RowKit

theorem own_base {w : World} {B B' e size n : Nat} {v : Value} {xs : List Value} (h : w.ownsRow B e size v n xs) (hb : B' ≤ B) : w.ownsRow B' e size v n xs := by
  refine ⟨h.1, ?_⟩
  rcases h.2 with h1 | ⟨g, cap, cur, e1, e2, e3⟩
  · exact .inl h1
  · exact .inr ⟨g, cap, cur, e1, Nat.le_trans hb e2, e3⟩

theorem ptx_len (n i : Nat) (s : ByteArray) (p : List ByteArray) : (ptx n i s p).length = plen n i := by
  induction n using Nat.strongRecOn generalizing i p with
  | _ n ih =>
    by_cases h2 : 2 ≤ n
    · have k1 := hf_lt n h2
      have k2 := hf_pos n
      by_cases hi : i < hf n
      · rw [ptx_lt n i s p h2 hi, plen_lt n i h2 hi, List.length_append, List.length_singleton, ih (hf n) k1]; omega
      · rw [ptx_ge n i s p h2 hi, plen_ge n i h2 hi, List.length_append, List.length_singleton, ih (n - hf n) (by omega)]; omega
    · rw [ptx_one n i s p h2, plen_one n i h2]; rfl

theorem rjoin3 (a b : ByteArray) (ha : a.size ≤ 200) (hb : b.size ≤ 200) (W : World) :
    Calls Tryz.prog 72 #[.slice (some ⟨W.heap.size, 0, none⟩) 3 3] (W.alloc (.cells #[.string ⟨#[110, 111, 100, 101]⟩, .string a, .string b] 9)) fun e w' => e = .returned (.string (jb [bNode, a, b])) ∧ Below W.heap.size W w' := by
  have := rjoined (some ⟨W.heap.size, 0, none⟩) 3 [bNode, a, b] (W.alloc (.cells #[.string ⟨#[110, 111, 100, 101]⟩, .string a, .string b] 9)) (Strs_new _ _ _ _ _ rfl rfl) (by simp) (by
    intro s hs
    simp only [List.mem_cons, List.not_mem_nil, or_false] at hs
    rcases hs with rfl | rfl | rfl
    · decide
    · exact ha
    · exact hb)
  exact this.mono fun _ _ ⟨he, hb⟩ => ⟨he, below_trans (below_alloc (Below.refl _ _) _) hb⟩

theorem last_parts (p : List ByteArray) (h : 1 ≤ p.length) (hsm : sm p) : ∃ m x, p.length = m + 1 ∧ p[m]? = some x ∧ p.getLastD ByteArray.empty = x ∧ p.dropLast.length = m ∧ x.size ≤ 200 := by
  obtain ⟨m, hm⟩ : ∃ m, p.length = m + 1 := ⟨p.length - 1, by omega⟩
  obtain ⟨x, hx⟩ := get_some p m (by omega)
  refine ⟨m, x, hm, hx, ?_, by rw [List.length_dropLast, hm]; rfl, hsm x (List.mem_of_getElem? hx)⟩
  rw [List.getLastD_eq_getLast?, List.getLast?_eq_getElem?, hm]
  simp only [Nat.add_sub_cancel, hx, Option.getD_some]

set_option maxRecDepth 100000 in
set_option maxHeartbeats 16000000 in
theorem rup_any (q : Nat) : ∀ (n i : Nat) (s : ByteArray) (A : Option Addr) (c : Nat) (p : List ByteArray) (w : World), n ≤ q → 1 ≤ n → n ≤ 1000000 → i < n → p.length = plen n i → p.length ≤ c → Strs w A p → sm p → s.size ≤ 200 →
    Calls Tryz.prog 114 #[.int .i64 n, .int .i64 i, .string s, .slice A p.length c] w fun e w' => e = .returned (.string (upv n i s p)) ∧ Below w.heap.size w w' := by
  induction q with
  | zero => intro n i s A c p w h1 h2; omega
  | succ q ih =>
    intro n i s A c p w hn h1 hbig hi hpl hcap hS hsm hs
    by_cases h2 : 2 ≤ n
    · have k1 := hf_lt n h2
      have k2 := hf_pos n
      have hpn := plen_lt_n n i h1
      obtain ⟨m, x, hm, hx, hlast, hdl, hxs⟩ := last_parts p (by have := plen_zero n i; omega) hsm
      obtain ⟨b, off, rfl, c1⟩ := hS.at_ hx
      have c1l := lt_of_cell c1
      have HC1 : Hid (∀ W, Below w.heap.size w W → W.cell? ⟨b, off + m, none⟩ = some (.string x)) := Lib.hid (fun W hW => kept_cell hW c1)
      have HU : Hid (∀ (n' i' : Nat) (W : World), n' < n → 1 ≤ n' → i' < n' → m = plen n' i' → Below w.heap.size w W → Calls Tryz.prog 114 #[.int .i64 n', .int .i64 i', .string s, .slice (some ⟨b, off, none⟩) m c] W fun e w' => e = .returned (.string (upv n' i' s p.dropLast)) ∧ Below W.heap.size W w') := Lib.hid (fun n' i' W g1 g2 g4 g5 hW => by
        have := ih n' i' s (some ⟨b, off, none⟩) c p.dropLast W (by omega) g2 (by omega) g4 (by rw [hdl]; exact g5) (by rw [hdl]; omega) (by rw [List.dropLast_eq_take]; exact (hS.below hW).take _) (by rw [List.dropLast_eq_take]; exact hsm.take _) hs
        rw [hdl] at this
        exact this)
      have HND : Hid (∀ (a b : ByteArray) (W : World), a.size ≤ 200 → b.size ≤ 200 → Below w.heap.size w W → Calls Tryz.prog 124 #[.string a, .string b] W fun e w' => e = .returned (.string (nd a b)) ∧ Below W.heap.size W w') := Lib.hid (fun a b W ha hb _ => rnode_any a b ha hb W)
      obtain ⟨k, hk⟩ : ∃ k, hf n = k := ⟨_, rfl⟩
      have HH := Lib.hid (rhalf_any n hbig w)
      rw [hk] at HH
      have hwr : IntKind.i64.wrap (((m + 1 : Nat) : Int) - 1) = (m : Int) := by rw [IntWalk.i64_in _ (by omega)]; omega
      have hn1 : ((n : Int) == 1) = false := by simp; omega
      have hn10 : (n == 1) = false := by simp; omega
      by_cases hik : i < hf n
      · have hst := upv_lt n i s p h2 hik
        rw [hlast] at hst
        have hpp := plen_lt n i h2 hik
        rw [hk] at hst hpp hik k1 k2
        rw [hst, hm]
        have hus := upv_size k i s p.dropLast hs
        have HUP : Hid (∀ (W : World), Below w.heap.size w W → Calls Tryz.prog 114 #[.int .i64 (k : Nat), .int .i64 (i : Nat), .string s, .slice (some ⟨b, off, none⟩) m c] W fun e w' => e = .returned (.string (upv k i s p.dropLast)) ∧ Below W.heap.size W w') := Lib.hid (fun W hW => HU.out k i W (by omega) (by omega) (by omega) (by omega) hW)
        have c1' := c1
        have HUS := Lib.hid hus
        have HXS := Lib.hid hxs
        generalize upv k i s p.dropLast = u at *
        clear hst hpp hlast hdl hx hS hsm hk h2 HU hus hxs hs hpl ih hpn c1
        rw [hm] at hcap
        clear hm
        generalize hK : m + 1 = K at *
        have hmK : m < K := by omega
        have hmc : (m : Int) ≤ (c : Int) := by omega
        have hmm : (m : Int) ≤ (K : Int) := by omega
        have hyi : (i : Int) < (k : Int) := by omega
        go_enter Tryz.func114, Tryz.ntmps114
        go_wp2_with fail
        refine HH.out.mono ?_
        rintro e _ ⟨rfl, rfl⟩
        go_wp2_with fail
        refine (HUP.out w (Below.refl _ _)).mono ?_
        rintro e w1 ⟨rfl, hb1⟩
        have HB1 := Lib.hid hb1
        clear hb1
        go_wp2_with fail
        refine (HND.out u x w1 HUS.out HXS.out HB1.out).mono ?_
        rintro e w2 ⟨rfl, hb2⟩
        have HB2 := Lib.hid (below_trans HB1.out hb2)
        clear hb2
        go_wp2
        go_ret
        exact ⟨rfl, HB2.out⟩
      · have hst := upv_ge n i s p h2 hik
        rw [hlast] at hst
        have hpp := plen_ge n i h2 hik
        rw [hk] at hst hpp hik k1 k2
        rw [hst, hm]
        have hus := upv_size (n - k) (i - k) s p.dropLast hs
        have HUP : Hid (∀ (W : World), Below w.heap.size w W → Calls Tryz.prog 114 #[.int .i64 ((n - k) : Nat), .int .i64 ((i - k) : Nat), .string s, .slice (some ⟨b, off, none⟩) m c] W fun e w' => e = .returned (.string (upv (n - k) (i - k) s p.dropLast)) ∧ Below W.heap.size W w') := Lib.hid (fun W hW => HU.out (n - k) (i - k) W (by omega) (by omega) (by omega) (by omega) hW)
        have c1' := c1
        have HUS := Lib.hid hus
        have HXS := Lib.hid hxs
        generalize upv (n - k) (i - k) s p.dropLast = u at *
        clear hst hpp hlast hdl hx hS hsm hk h2 HU hus hxs hs hpl ih hpn c1
        rw [hm] at hcap
        clear hm
        generalize hK : m + 1 = K at *
        have hmK : m < K := by omega
        have hmc : (m : Int) ≤ (c : Int) := by omega
        have hmm : (m : Int) ≤ (K : Int) := by omega
        have hni : ¬ (i : Int) < (k : Int) := by omega
        have e1 : (n : Int) - (k : Int) = ((n - k : Nat) : Int) := by omega
        have e2 : (i : Int) - (k : Int) = ((i - k : Nat) : Int) := by omega
        have HE1 := Lib.hid e1
        have HE2 := Lib.hid e2
        clear e1 e2
        go_enter Tryz.func114, Tryz.ntmps114
        go_wp2_with fail
        refine HH.out.mono ?_
        rintro e _ ⟨rfl, rfl⟩
        go_wp2_with fail
        rw [HE1.out, HE2.out]
        refine (HUP.out w (Below.refl _ _)).mono ?_
        rintro e w1 ⟨rfl, hb1⟩
        have HB1 := Lib.hid hb1
        clear hb1
        go_wp2_with fail
        refine (HND.out x u w1 HXS.out HUS.out HB1.out).mono ?_
        rintro e w2 ⟨rfl, hb2⟩
        have HB2 := Lib.hid (below_trans HB1.out hb2)
        clear hb2
        go_wp2
        go_ret
        exact ⟨rfl, HB2.out⟩
    · obtain rfl : n = 1 := by omega
      rw [upv_one 1 i s p (by omega)]
      clear ih hS hsm
      go_enter Tryz.func114, Tryz.ntmps114
      go_wp2
      go_ret
      exact ⟨rfl, Below.refl _ _⟩

set_option maxRecDepth 100000 in
set_option maxHeartbeats 16000000 in
theorem rptx_any (q : Nat) : ∀ (n i : Nat) (s : ByteArray) (A : Option Addr) (c : Nat) (p : List ByteArray) (w : World), n ≤ q → 1 ≤ n → n ≤ 1000000 → i < n → p.length = plen n i → p.length ≤ c → Strs w A p → sm p → s.size ≤ 200 →
    Calls Tryz.prog 74 #[.int .i64 n, .int .i64 i, .string s, .slice A p.length c] w fun e w' => ∃ v, e = .returned v ∧ w'.ownsRow w.heap.size 9 1 v (ptx n i s p).length ((ptx n i s p).map Value.string) ∧ Below w.heap.size w w' := by
  induction q with
  | zero => intro n i s A c p w h1 h2; omega
  | succ q ih =>
    intro n i s A c p w hn h1 hbig hi hpl hcap hS hsm hs
    by_cases h2 : 2 ≤ n
    · have k1 := hf_lt n h2
      have k2 := hf_pos n
      have hpn := plen_lt_n n i h1
      obtain ⟨m, x, hm, hx, hlast, hdl, hxs⟩ := last_parts p (by have := plen_zero n i; omega) hsm
      obtain ⟨b, off, rfl, c1⟩ := hS.at_ hx
      have c1l := lt_of_cell c1
      have HC1 : Hid (∀ W, Below w.heap.size w W → W.cell? ⟨b, off + m, none⟩ = some (.string x)) := Lib.hid (fun W hW => kept_cell hW c1)
      have HU : Hid (∀ (n' i' : Nat) (W : World), n' < n → 1 ≤ n' → i' < n' → m = plen n' i' → Below w.heap.size w W → Calls Tryz.prog 114 #[.int .i64 n', .int .i64 i', .string s, .slice (some ⟨b, off, none⟩) m c] W fun e w' => e = .returned (.string (upv n' i' s p.dropLast)) ∧ Below W.heap.size W w') := Lib.hid (fun n' i' W g1 g2 g4 g5 hW => by
        have := rup_any q n' i' s (some ⟨b, off, none⟩) c p.dropLast W (by omega) g2 (by omega) g4 (by rw [hdl]; exact g5) (by rw [hdl]; omega) (by rw [List.dropLast_eq_take]; exact (hS.below hW).take _) (by rw [List.dropLast_eq_take]; exact hsm.take _) hs
        rw [hdl] at this
        exact this)
      have HP : Hid (∀ (n' i' : Nat), n' < n → 1 ≤ n' → i' < n' → m = plen n' i' → Calls Tryz.prog 74 #[.int .i64 n', .int .i64 i', .string s, .slice (some ⟨b, off, none⟩) m c] w fun e w' => ∃ v, e = .returned v ∧ w'.ownsRow w.heap.size 9 1 v (ptx n' i' s p.dropLast).length ((ptx n' i' s p.dropLast).map Value.string) ∧ Below w.heap.size w w') := Lib.hid (fun n' i' g1 g2 g4 g5 => by
        have := ih n' i' s (some ⟨b, off, none⟩) c p.dropLast w (by omega) g2 (by omega) g4 (by rw [hdl]; exact g5) (by rw [hdl]; omega) (by rw [List.dropLast_eq_take]; exact hS.take _) (by rw [List.dropLast_eq_take]; exact hsm.take _) hs
        rw [hdl] at this
        exact this)
      have HND : Hid (∀ (a b : ByteArray) (W : World), a.size ≤ 200 → b.size ≤ 200 → Below w.heap.size w W → Calls Tryz.prog 124 #[.string a, .string b] W fun e w' => e = .returned (.string (nd a b)) ∧ Below W.heap.size W w') := Lib.hid (fun a b W ha hb _ => rnode_any a b ha hb W)
      obtain ⟨k, hk⟩ : ∃ k, hf n = k := ⟨_, rfl⟩
      have HH := Lib.hid (rhalf_any n hbig w)
      rw [hk] at HH
      have hwr : IntKind.i64.wrap (((m + 1 : Nat) : Int) - 1) = (m : Int) := by rw [IntWalk.i64_in _ (by omega)]; omega
      have hn1 : ((n : Int) == 1) = false := by simp; omega
      have hn10 : (n == 1) = false := by simp; omega
      by_cases hik : i < hf n
      · have hst := ptx_lt n i s p h2 hik
        rw [hlast] at hst
        have hpp := plen_lt n i h2 hik
        rw [hk] at hst hpp hik k1 k2
        rw [hst, hm]
        have hus := upv_size k i s p.dropLast hs
        have HUP : Hid (∀ (W : World), Below w.heap.size w W → Calls Tryz.prog 114 #[.int .i64 (k : Nat), .int .i64 (i : Nat), .string s, .slice (some ⟨b, off, none⟩) m c] W fun e w' => e = .returned (.string (upv k i s p.dropLast)) ∧ Below W.heap.size W w') := Lib.hid (fun W hW => HU.out k i W (by omega) (by omega) (by omega) (by omega) hW)
        have HPT := Lib.hid (HP.out k i (by omega) (by omega) (by omega) (by omega))
        have htl : (ptx k i s p.dropLast).length ≤ 1000000 := by rw [ptx_len]; omega
        have HTL := Lib.hid htl
        obtain ⟨ip, hj1, hy0, hy1, hy2⟩ := info_parts info_strg
        have HI := Lib.hid (And.intro hj1 (And.intro hy0 (And.intro hy1 hy2)))
        clear hj1 hy0 hy1 hy2 htl
        generalize ptx k i s p.dropLast = T at *
        have HJ : Hid (∀ W : World, Below w.heap.size w W → Calls Tryz.prog 72 #[.slice (some ⟨W.heap.size, 0, none⟩) 3 3] (W.alloc (.cells #[.string ⟨#[110, 111, 100, 101]⟩, .string (upv k i s p.dropLast), .string x] 9)) fun e w' => e = .returned (.string (jb [bNode, (upv k i s p.dropLast), x])) ∧ Below W.heap.size W w') := Lib.hid (fun W _ => rjoin3 _ x hus hxs W)
        have c1' := c1
        have HUS := Lib.hid hus
        have HXS := Lib.hid hxs
        generalize upv k i s p.dropLast = u at *
        generalize jb [bNode, u, x] = y at *
        clear hst hpp hlast hdl hx hS hsm hk h2 HU hus hxs hs hpl ih hpn c1 HP
        rw [hm] at hcap
        clear hm
        generalize hK : m + 1 = K at *
        have hmK : m < K := by omega
        have hmc : (m : Int) ≤ (c : Int) := by omega
        have hmm : (m : Int) ≤ (K : Int) := by omega
        have hyi : (i : Int) < (k : Int) := by omega
        go_enter Tryz.func74, Tryz.ntmps74
        go_wp2_with fail
        refine HH.out.mono ?_
        rintro e _ ⟨rfl, rfl⟩
        go_wp2_with fail
        refine HPT.out.mono ?_
        rintro e w1 ⟨v1, rfl, ho1, hb1⟩
        have HO1 := Lib.hid ho1
        have HB1 := Lib.hid hb1
        clear ho1
        go_wp2_with fail
        refine (HUP.out w1 HB1.out).mono ?_
        rintro e w2 ⟨rfl, hb2⟩
        have HB2 := Lib.hid (below_trans HB1.out hb2)
        have HO2 := Lib.hid (row_below HO1.out hb2)
        clear hb2
        go_wp2_with fail
        refine (HJ.out w2 HB2.out).mono ?_
        rintro e w3 ⟨rfl, hb3⟩
        have HB3 := Lib.hid (below_trans HB2.out hb3)
        have HO3 : Hid ((w3.alloc (.cells #[.string y] 9)).ownsRow w.heap.size 9 1 v1 T.length (T.map Value.string)) := Lib.hid (row_below (row_below HO2.out hb3) (below_alloc (Below.refl _ _) _))
        clear hb3
        go_wp2_with (at_builtin; refine wpList_app _ rfl (.tmp 34) (.tmp 43) 30 30 rfl w.heap.size 9 9 ip _ 1 16 Tryz.underlying30 Tryz.underlying30 HI.out.1 HI.out.2.1 HI.out.2.2.1 HI.out.2.2.2 rfl (by omega) v1 T.length _ rfl HO3.out (some ⟨w3.heap.size, 0, none⟩) 1 1 [.string y] rfl (Rd_new w3 #[.string y] _ 1 1 _ rfl rfl) (by simp [Value.oneCell']) (by have := HTL.out; simp only [maxLen]; omega) (by have := HTL.out; omega) (by have := HB3.out.size; simp; omega) ?_)
        intro v4 w4 hown4 hg4
        have HB4 : Hid (Below w.heap.size w w4) := Lib.hid ((below_alloc HB3.out _).grown hg4 (by have := HB3.out.size; simp; omega) (fun j hj => (HO3.out.lt j hj).1))
        have HO4 := Lib.hid hown4
        clear hown4 hg4
        go_wp2
        go_ret
        refine ⟨v4, rfl, ?_, HB4.out⟩
        have := HO4.out
        simpa using this
      · have hst := ptx_ge n i s p h2 hik
        rw [hlast] at hst
        have hpp := plen_ge n i h2 hik
        rw [hk] at hst hpp hik k1 k2
        rw [hst, hm]
        have hus := upv_size (n - k) (i - k) s p.dropLast hs
        have HUP : Hid (∀ (W : World), Below w.heap.size w W → Calls Tryz.prog 114 #[.int .i64 ((n - k) : Nat), .int .i64 ((i - k) : Nat), .string s, .slice (some ⟨b, off, none⟩) m c] W fun e w' => e = .returned (.string (upv (n - k) (i - k) s p.dropLast)) ∧ Below W.heap.size W w') := Lib.hid (fun W hW => HU.out (n - k) (i - k) W (by omega) (by omega) (by omega) (by omega) hW)
        have HPT := Lib.hid (HP.out (n - k) (i - k) (by omega) (by omega) (by omega) (by omega))
        have htl : (ptx (n - k) (i - k) s p.dropLast).length ≤ 1000000 := by rw [ptx_len]; omega
        have HTL := Lib.hid htl
        obtain ⟨ip, hj1, hy0, hy1, hy2⟩ := info_parts info_strg
        have HI := Lib.hid (And.intro hj1 (And.intro hy0 (And.intro hy1 hy2)))
        clear hj1 hy0 hy1 hy2 htl
        generalize ptx (n - k) (i - k) s p.dropLast = T at *
        have HJ : Hid (∀ W : World, Below w.heap.size w W → Calls Tryz.prog 72 #[.slice (some ⟨W.heap.size, 0, none⟩) 3 3] (W.alloc (.cells #[.string ⟨#[110, 111, 100, 101]⟩, .string x, .string (upv (n - k) (i - k) s p.dropLast)] 9)) fun e w' => e = .returned (.string (jb [bNode, x, (upv (n - k) (i - k) s p.dropLast)])) ∧ Below W.heap.size W w') := Lib.hid (fun W _ => rjoin3 x _ hxs hus W)
        have c1' := c1
        have HUS := Lib.hid hus
        have HXS := Lib.hid hxs
        generalize upv (n - k) (i - k) s p.dropLast = u at *
        generalize jb [bNode, x, u] = y at *
        clear hst hpp hlast hdl hx hS hsm hk h2 HU hus hxs hs hpl ih hpn c1 HP
        rw [hm] at hcap
        clear hm
        generalize hK : m + 1 = K at *
        have hmK : m < K := by omega
        have hmc : (m : Int) ≤ (c : Int) := by omega
        have hmm : (m : Int) ≤ (K : Int) := by omega
        have hni : ¬ (i : Int) < (k : Int) := by omega
        have e1 : (n : Int) - (k : Int) = ((n - k : Nat) : Int) := by omega
        have e2 : (i : Int) - (k : Int) = ((i - k : Nat) : Int) := by omega
        have HE1 := Lib.hid e1
        have HE2 := Lib.hid e2
        clear e1 e2
        go_enter Tryz.func74, Tryz.ntmps74
        go_wp2_with fail
        refine HH.out.mono ?_
        rintro e _ ⟨rfl, rfl⟩
        go_wp2_with fail
        rw [HE1.out, HE2.out]
        refine HPT.out.mono ?_
        rintro e w1 ⟨v1, rfl, ho1, hb1⟩
        have HO1 := Lib.hid ho1
        have HB1 := Lib.hid hb1
        clear ho1
        go_wp2_with fail
        rw [HE1.out, HE2.out]
        refine (HUP.out w1 HB1.out).mono ?_
        rintro e w2 ⟨rfl, hb2⟩
        have HB2 := Lib.hid (below_trans HB1.out hb2)
        have HO2 := Lib.hid (row_below HO1.out hb2)
        clear hb2
        go_wp2_with fail
        refine (HJ.out w2 HB2.out).mono ?_
        rintro e w3 ⟨rfl, hb3⟩
        have HB3 := Lib.hid (below_trans HB2.out hb3)
        have HO3 : Hid ((w3.alloc (.cells #[.string y] 9)).ownsRow w.heap.size 9 1 v1 T.length (T.map Value.string)) := Lib.hid (row_below (row_below HO2.out hb3) (below_alloc (Below.refl _ _) _))
        clear hb3
        go_wp2_with (at_builtin; refine wpList_app _ rfl (.tmp 53) (.tmp 66) 30 30 rfl w.heap.size 9 9 ip _ 1 16 Tryz.underlying30 Tryz.underlying30 HI.out.1 HI.out.2.1 HI.out.2.2.1 HI.out.2.2.2 rfl (by omega) v1 T.length _ rfl HO3.out (some ⟨w3.heap.size, 0, none⟩) 1 1 [.string y] rfl (Rd_new w3 #[.string y] _ 1 1 _ rfl rfl) (by simp [Value.oneCell']) (by have := HTL.out; simp only [maxLen]; omega) (by have := HTL.out; omega) (by have := HB3.out.size; simp; omega) ?_)
        intro v4 w4 hown4 hg4
        have HB4 : Hid (Below w.heap.size w w4) := Lib.hid ((below_alloc HB3.out _).grown hg4 (by have := HB3.out.size; simp; omega) (fun j hj => (HO3.out.lt j hj).1))
        have HO4 := Lib.hid hown4
        clear hown4 hg4
        go_wp2
        go_ret
        refine ⟨v4, rfl, ?_, HB4.out⟩
        have := HO4.out
        simpa using this
    · obtain rfl : n = 1 := by omega
      rw [ptx_one 1 i s p (by omega)]
      clear ih hS hsm
      go_enter Tryz.func74, Tryz.ntmps74
      go_wp2
      go_ret
      exact ⟨_, rfl, ⟨rfl, .inl ⟨rfl, rfl⟩⟩, Below.refl _ _⟩
end

section
open Go.RowKit
theorem step_appT {P : Program} (w : World) {ops : Array Oper} {o : Oper} {a : Act} {K : Act → World → Prop} {Q : Exit → Act → World → Prop} {E : Prop} (hw : Region.wanted o (yielded ops a.tmps) = true) (s x : Operand) (t t2 : TypeId)
    (ho : o.op = .call { callee := .builtin .append, args := #[s, x], argTypes := #[t, t2] })
    (base : Nat) (e e2 : TypeId) (i : TypeInfo) (z : Value) (size bytes : Nat) (ht : P.underlying t = some (.slice e)) (ht2 : P.underlying t2 = some (.slice e2)) (hi : P.info? e = some i) (hz : i.zero = some z)
    (hsize : i.size = size) (hby : i.bytes = bytes) (hzs : z.cells.size = size) (hsz : 0 < size)
    (v : Value) (n : Nat) (xs : List Value) (hs : a.eval s = v) (hown : w.ownsRow base e size v n xs)
    (A : Option Addr) (m c : Nat) (news : List Value) (hx : a.eval x = .slice A m c) (hr : Rd w size A m news) (h1 : ∀ u ∈ news, u.oneCell' = true)
    (h63 : n + m ≤ maxLen) (hbytes : (n + m) * bytes ≤ 140737488355328) (hbase : base ≤ w.heap.size)
    (h : ∀ v' w', w'.ownsRow base e size v' (n + m) (xs ++ news) → w.grownBy w' v.ownBlock → K (a.put o.dst v') w') :
    if Region.wanted o (yielded ops a.tmps) = true then Oper.wp P o a w K Q else E := by
  rw [if_pos hw]
  obtain ⟨v', w', hrun, h2, h3⟩ := run_app (P := P) w base t t2 o.type e e2 i z size bytes ht ht2 hi hz hsize hby hzs hsz v n xs hown A m c news hr h1 h63 hbytes hbase
  unfold Oper.wp execOp
  simp only [ho, resolve, invoke, builtin, Sem.run_bind, Sem.run_pure, Result.andThen_ok, List.map_toArray, List.map_cons, List.map_nil, hs, hx, hrun]
  exact h v' w' h2 h3

theorem txt_len (l : List ByteArray) : (txt l).length ≤ l.length + 1 ∧ (1 ≤ l.length → (txt l).length + 1 = l.length) := by
  obtain ⟨n, hn⟩ : ∃ n, l.length = n := ⟨_, rfl⟩
  induction n using Nat.strongRecOn generalizing l with
  | _ n ih =>
    by_cases h2 : 2 ≤ l.length
    · have k1 := hf_lt l.length h2
      have k2 := hf_pos l.length
      have e1 := (ih (hf l.length) (by omega) (l.take (hf l.length)) (by rw [List.length_take]; omega)).2 (by rw [List.length_take]; omega)
      have e2 := (ih (l.length - hf l.length) (by omega) (l.drop (hf l.length)) (by rw [List.length_drop])).2 (by rw [List.length_drop]; omega)
      rw [List.length_take] at e1
      rw [List.length_drop] at e2
      rw [txt_two l h2, List.length_append, List.length_append, List.length_singleton]
      omega
    · match l, h2 with
      | [], _ => rw [txt_nil]; simp
      | [x], _ => rw [txt_one]; simp
      | x :: y :: l, h2 => simp at h2

theorem own_new (w : World) (x : ByteArray) : (w.alloc (.cells #[.string x] 9)).ownsRow w.heap.size 9 1 (.slice (some ⟨w.heap.size, 0, none⟩) 1 1) 1 [.string x] :=
  ⟨rfl, .inr ⟨w.heap.size, 1, #[.string x], rfl, Nat.le_refl _, Blk.new w _ _ _ rfl, Nat.le_refl _, by decide, rfl, rfl⟩⟩

theorem rjoin1 (W : World) : Calls Tryz.prog 72 #[.slice (some ⟨W.heap.size, 0, none⟩) 1 1] (W.alloc (.cells #[.string ⟨#[101, 109, 112, 116, 121]⟩] 9)) fun e w' => e = .returned (.string (jb [bEmpty])) ∧ Below W.heap.size W w' := by
  have := rjoined (some ⟨W.heap.size, 0, none⟩) 1 [bEmpty] (W.alloc (.cells #[.string ⟨#[101, 109, 112, 116, 121]⟩] 9)) (Strs_new _ _ _ _ _ rfl rfl) (by simp) (by intro s hs; rw [List.mem_singleton.1 hs]; decide)
  exact this.mono fun _ _ ⟨he, hb⟩ => ⟨he, below_trans (below_alloc (Below.refl _ _) _) hb⟩

/-- A list at a block that an append does not touch. -/
theorem Rd_grown {w w' : World} {size m : Nat} {A : Option Addr} {xs : List Value} {row : Option Nat} (h : Rd w size A m xs) (hg : w.grownBy w' row) (hl : ∀ a, A = some a → a.block < w.heap.size ∧ row ≠ some a.block) : Rd w' size A m xs := by
  refine ⟨h.1, fun hn => ?_⟩
  obtain ⟨b, off, e, hv⟩ := h.2 hn
  obtain ⟨h1, h2⟩ := hl _ e
  refine ⟨b, off, e, fun j u hu => ?_⟩
  have h3 := hg.block b h1 (Ne.symm h2)
  have h4 := hv j u hu
  unfold World.cell? at h4 ⊢
  rw [h3]
  exact h4

set_option maxRecDepth 100000 in
set_option maxHeartbeats 32000000 in
theorem rtxt_any (q : Nat) : ∀ (A : Option Addr) (c : Nat) (l : List ByteArray) (w : World), l.length ≤ q → l.length ≤ 100000 → l.length ≤ c → Strs w A l → sm l →
    Calls Tryz.prog 73 #[.slice A l.length c] w fun e w' => ∃ v, e = .returned v ∧ w'.ownsRow w.heap.size 9 1 v (txt l).length ((txt l).map Value.string) ∧ Below w.heap.size w w' := by
  have base : ∀ (A : Option Addr) (c : Nat) (w : World), Calls Tryz.prog 73 #[.slice A 0 c] w fun e w' => ∃ v, e = .returned v ∧ w'.ownsRow w.heap.size 9 1 v (txt []).length ((txt []).map Value.string) ∧ Below w.heap.size w w' := by
    intro A c w
    have HJ := Lib.hid (rjoin1 w)
    rw [txt_nil]
    generalize jb [bEmpty] = y at *
    go_enter Tryz.func73, Tryz.ntmps73
    go_wp2_with fail
    refine HJ.out.mono ?_
    rintro e w1 ⟨rfl, hb1⟩
    have HB1 := Lib.hid hb1
    clear hb1
    go_wp2
    go_ret
    exact ⟨_, rfl, own_base (own_new w1 y) HB1.out.size, below_alloc HB1.out _⟩
  induction q with
  | zero =>
    intro A c l w h1 h2 h3 hS hsm
    obtain rfl : l = [] := List.eq_nil_of_length_eq_zero (by omega)
    exact base A c w
  | succ q ih =>
    intro A c l w hn hbig hcap hS hsm
    by_cases h2 : 2 ≤ l.length
    · obtain ⟨b, off, rfl, -⟩ := hS.2 (by omega)
      obtain ⟨k, hk⟩ : ∃ k, hf l.length = k := ⟨_, rfl⟩
      have HH := Lib.hid (rhalf_any l.length (by omega) w)
      rw [hk] at HH
      have k1 := hf_lt l.length h2
      have k2 := hf_pos l.length
      rw [hk] at k1 k2
      have htx := txt_two l h2
      rw [hk] at htx
      have hs1 := rt_size _ (hsm.take k)
      have hs2 := rt_size _ (hsm.drop k)
      have R1 : Hid (∀ W, Below w.heap.size w W → Calls Tryz.prog 93 #[.slice (some ⟨b, off, none⟩) k c] W fun e w' => e = .returned (.string (rt (l.take k))) ∧ Below W.heap.size W w') := Lib.hid (fun W hW => by
        have := rroot_any q (some ⟨b, off, none⟩) c (l.take k) W (by rw [List.length_take]; omega) (by rw [List.length_take]; omega) (by rw [List.length_take]; omega) ((hS.below hW).take k) (hsm.take k)
        rw [List.length_take, Nat.min_eq_left (by omega)] at this
        exact this)
      have R2 : Hid (∀ W, Below w.heap.size w W → Calls Tryz.prog 93 #[.slice (some ⟨b, off + k, none⟩) (l.length - k) (c - k)] W fun e w' => e = .returned (.string (rt (l.drop k))) ∧ Below W.heap.size W w') := Lib.hid (fun W hW => by
        have := rroot_any q (some ⟨b, off + k, none⟩) (c - k) (l.drop k) W (by rw [List.length_drop]; omega) (by rw [List.length_drop]; omega) (by rw [List.length_drop]; omega) ((hS.below hW).drop k) (hsm.drop k)
        rw [List.length_drop] at this
        exact this)
      have H1 : Hid (∀ W, Below w.heap.size w W → Calls Tryz.prog 73 #[.slice (some ⟨b, off, none⟩) k c] W fun e w' => ∃ v, e = .returned v ∧ w'.ownsRow W.heap.size 9 1 v (txt (l.take k)).length ((txt (l.take k)).map Value.string) ∧ Below W.heap.size W w') := Lib.hid (fun W hW => by
        have := ih (some ⟨b, off, none⟩) c (l.take k) W (by rw [List.length_take]; omega) (by rw [List.length_take]; omega) (by rw [List.length_take]; omega) ((hS.below hW).take k) (hsm.take k)
        rw [List.length_take, Nat.min_eq_left (by omega)] at this
        exact this)
      have H2 : Hid (∀ W, Below w.heap.size w W → Calls Tryz.prog 73 #[.slice (some ⟨b, off + k, none⟩) (l.length - k) (c - k)] W fun e w' => ∃ v, e = .returned v ∧ w'.ownsRow W.heap.size 9 1 v (txt (l.drop k)).length ((txt (l.drop k)).map Value.string) ∧ Below W.heap.size W w') := Lib.hid (fun W hW => by
        have := ih (some ⟨b, off + k, none⟩) (c - k) (l.drop k) W (by rw [List.length_drop]; omega) (by rw [List.length_drop]; omega) (by rw [List.length_drop]; omega) ((hS.below hW).drop k) (hsm.drop k)
        rw [List.length_drop] at this
        exact this)
      have HJ := Lib.hid (fun W => rjoin3 (rt (l.take k)) (rt (l.drop k)) hs1 hs2 W)
      have ht1 := (txt_len (l.take k)).1
      have ht2 := (txt_len (l.drop k)).1
      rw [List.length_take] at ht1
      rw [List.length_drop] at ht2
      have HT1 : Hid ((txt (l.take k)).length ≤ 200000 ∧ (txt (l.drop k)).length ≤ 200000) := Lib.hid ⟨by omega, by omega⟩
      obtain ⟨ip, hj1, hy0, hy1, hy2⟩ := info_parts info_strg
      have HI := Lib.hid (And.intro hj1 (And.intro hy0 (And.intro hy1 hy2)))
      rw [htx]
      clear hj1 hy0 hy1 hy2 htx hs1 hs2 hS hsm ih base hk h2 ht1 ht2
      generalize txt (l.take k) = T1 at *
      generalize txt (l.drop k) = T2 at *
      generalize rt (l.take k) = r1 at *
      generalize rt (l.drop k) = r2 at *
      generalize jb [bNode, r1, r2] = y at *
      generalize l.length = m at *
      have hne : ((m : Int) == 1) = false := by simp; omega
      have hne0 : ((m : Int) == 0) = false := by simp; omega
      have hkm : (k : Int) ≤ (m : Int) := by omega
      have hkc : (k : Int) ≤ (c : Int) := by omega
      have hck : (c = k) = False := by simp; omega
      go_enter Tryz.func73, Tryz.ntmps73
      go_wp2_with fail
      refine HH.out.mono ?_
      rintro e _ ⟨rfl, rfl⟩
      go_wp2_with fail
      refine wp_region_held_drew (S := fun _ => True) (by kernel_rfl) trivial (fun hS5 => ?_)
      refine wpAnyH_take (i := 0) (v := ?_) rfl (by kernel_rfl) (by kernel_rfl) (by kernel_rfl) (fun _ _ _ h => h) (Or.inl ⟨by kernel_rfl, ?hy⟩) hS5 ?rest
      case hy => (intro w hSw; clear hSw; go_simp; try with_reducible rfl)
      case rest =>
      refine wpAnyH_take (i := 1) (v := ?_) rfl (by kernel_rfl) (by kernel_rfl) (by kernel_rfl) (fun _ _ _ h => h) (Or.inl ⟨by kernel_rfl, ?hy⟩) hS5 ?rest
      case hy => (intro w hSw; clear hSw; go_simp; try with_reducible rfl)
      case rest =>
      refine wpAnyH_take (i := 2) (v := ?_) rfl (by kernel_rfl) (by kernel_rfl) (by kernel_rfl) (fun _ _ _ h => h) (Or.inl ⟨by kernel_rfl, ?hy⟩) hS5 ?rest
      case hy => (intro w hSw; clear hSw; go_simp; try with_reducible rfl)
      case rest =>
      refine wpAnyH_take (i := 4) (v := ?_) rfl (by kernel_rfl) (by kernel_rfl) (by kernel_rfl) (fun _ _ _ h => h) (Or.inl ⟨by kernel_rfl, ?hy⟩) hS5 ?rest
      case hy => (intro w hSw; clear hSw; go_simp; try with_reducible rfl)
      case rest =>
      refine wpAnyH_take (i := 5) (v := ?_) rfl (by kernel_rfl) (by kernel_rfl) (by kernel_rfl) (fun _ _ _ h => h) (Or.inl ⟨by kernel_rfl, ?hy⟩) hS5 ?rest
      case hy => (intro w hSw; clear hSw; go_simp; try with_reducible rfl)
      case rest =>
      refine wpAnyH_take (i := 6) (v := ?_) rfl (by kernel_rfl) (by kernel_rfl) (by kernel_rfl) (fun _ _ _ h => h) (Or.inl ⟨by kernel_rfl, ?hy⟩) hS5 ?rest
      case hy => (intro w hSw; clear hSw; go_simp; try with_reducible rfl)
      case rest =>
      refine wpAnyH_ready (rs := [3]) (by kernel_rfl) (by simp) ?_
      refine AllReadyH.cons rfl (fun K hK => ?_) AllReadyH.nil
      go_simp
      refine (R1.out _ (Below.refl _ _).drew).mono ?_
      rintro e W1 ⟨rfl, hb1⟩
      have HB1 : Hid (Below w.heap.size w W1) := Lib.hid (below_trans (Below.refl _ _).drew hb1)
      clear hb1
      go_simp
      refine hK.out _ _ trivial (fun _ => ?_)
      clear hK K
      refine wpAnyH_ready (rs := [7]) (by kernel_rfl) (by simp) ?_
      refine AllReadyH.cons rfl (fun K hK => ?_) AllReadyH.nil
      go_simp
      refine (R2.out W1 HB1.out).mono ?_
      rintro e W2 ⟨rfl, hb2⟩
      have HB2 : Hid (Below w.heap.size w W2) := Lib.hid (below_trans HB1.out hb2)
      clear hb2
      go_simp
      refine hK.out _ _ trivial (fun _ => ?_)
      clear hK K
      refine wpAnyH_ready (rs := [8]) (by kernel_rfl) (by simp) ?_
      refine AllReadyH.cons rfl (fun K hK => ?_) AllReadyH.nil
      go_simp
      refine hK.out _ _ trivial (fun _ => ?_)
      clear hK K
      refine wpAnyH_ready (rs := [9]) (by kernel_rfl) (by simp) ?_
      refine AllReadyH.cons rfl (fun K hK => ?_) AllReadyH.nil
      go_simp
      refine (HJ.out W2).mono ?_
      rintro e W3 ⟨rfl, hb3⟩
      have HB3 : Hid (Below w.heap.size w W3) := Lib.hid (below_trans HB2.out hb3)
      clear hb3
      go_simp
      refine hK.out _ _ trivial (fun _ => ?_)
      clear hK K
      refine wpAnyH_take (i := 10) (v := ?_) rfl (by kernel_rfl) (by kernel_rfl) (by kernel_rfl) (fun _ _ _ h => h) (Or.inl ⟨by kernel_rfl, ?hy⟩) hS5 ?rest
      case hy => (intro w hSw; clear hSw; go_simp; try with_reducible rfl)
      case rest =>
      refine wpAnyH_done (by kernel_rfl) ?_ _
      go_wp2_with fail
      refine wp_region_held_drew (S := fun _ => True) (by kernel_rfl) trivial (fun hS5 => ?_)
      refine wpAnyH_take (i := 0) (v := ?_) rfl (by kernel_rfl) (by kernel_rfl) (by kernel_rfl) (fun _ _ _ h => h) (Or.inl ⟨by kernel_rfl, ?hy⟩) hS5 ?rest
      case hy => (intro w hSw; clear hSw; go_simp; try with_reducible rfl)
      case rest =>
      refine wpAnyH_take (i := 1) (v := ?_) rfl (by kernel_rfl) (by kernel_rfl) (by kernel_rfl) (fun _ _ _ h => h) (Or.inl ⟨by kernel_rfl, ?hy⟩) hS5 ?rest
      case hy => (intro w hSw; clear hSw; go_simp; try with_reducible rfl)
      case rest =>
      refine wpAnyH_take (i := 2) (v := ?_) rfl (by kernel_rfl) (by kernel_rfl) (by kernel_rfl) (fun _ _ _ h => h) (Or.inl ⟨by kernel_rfl, ?hy⟩) hS5 ?rest
      case hy => (intro w hSw; clear hSw; go_simp; try with_reducible rfl)
      case rest =>
      refine wpAnyH_take (i := 4) (v := ?_) rfl (by kernel_rfl) (by kernel_rfl) (by kernel_rfl) (fun _ _ _ h => h) (Or.inl ⟨by kernel_rfl, ?hy⟩) hS5 ?rest
      case hy => (intro w hSw; clear hSw; go_simp; try with_reducible rfl)
      case rest =>
      refine wpAnyH_take (i := 5) (v := ?_) rfl (by kernel_rfl) (by kernel_rfl) (by kernel_rfl) (fun _ _ _ h => h) (Or.inl ⟨by kernel_rfl, ?hy⟩) hS5 ?rest
      case hy => (intro w hSw; clear hSw; go_simp; try with_reducible rfl)
      case rest =>
      refine wpAnyH_take (i := 6) (v := ?_) rfl (by kernel_rfl) (by kernel_rfl) (by kernel_rfl) (fun _ _ _ h => h) (Or.inl ⟨by kernel_rfl, ?hy⟩) hS5 ?rest
      case hy => (intro w hSw; clear hSw; go_simp; try with_reducible rfl)
      case rest =>
      refine wpAnyH_take (i := 9) (v := ?_) rfl (by kernel_rfl) (by kernel_rfl) (by kernel_rfl) (fun _ _ _ h => h) (Or.inl ⟨by kernel_rfl, ?hy⟩) hS5 ?rest
      case hy => (intro w hSw; clear hSw; go_simp; try with_reducible rfl)
      case rest =>
      have HBS : Hid (Below w.heap.size w W3.drew) := Lib.hid HB3.out.drew
      refine wpAnyH_ready (rs := [3, 10]) (by kernel_rfl) (by simp) ?_
      refine AllReadyH.cons rfl (fun K hK => ?_) (AllReadyH.cons rfl (fun K hK => ?_) (AllReadyH.nil))
      · skip
        go_simp
        refine (H1.out _ HBS.out).mono ?_
        rintro e X1 ⟨v1, rfl, ho, hb⟩
        have HB1 : Hid (Below w.heap.size w X1) := Lib.hid (below_trans HBS.out hb)
        have HOv1_1 : Hid (X1.ownsRow (W3.drew).heap.size 9 1 v1 T1.length (T1.map Value.string)) := Lib.hid ho
        clear ho hb
        go_simp
        refine hK.out _ _ trivial (fun _ => ?_)
        clear hK K
        refine wpAnyH_ready (rs := [7, 10]) (by kernel_rfl) (by simp) ?_
        refine AllReadyH.cons rfl (fun K hK => ?_) (AllReadyH.cons rfl (fun K hK => ?_) (AllReadyH.nil))
        · skip
          go_simp
          refine (H2.out _ HB1.out).mono ?_
          rintro e X2 ⟨v2, rfl, ho, hb⟩
          have HB2 : Hid (Below w.heap.size w X2) := Lib.hid (below_trans HB1.out hb)
          have HOv2_2 : Hid (X2.ownsRow (X1).heap.size 9 1 v2 T2.length (T2.map Value.string)) := Lib.hid ho
          have HOv1_2 : Hid (X2.ownsRow (W3.drew).heap.size 9 1 v1 T1.length (T1.map Value.string)) := Lib.hid (row_below HOv1_1.out hb)
          clear ho hb
          go_simp
          refine hK.out _ _ trivial (fun _ => ?_)
          clear hK K
          refine wpAnyH_ready (rs := [8, 10]) (by kernel_rfl) (by simp) ?_
          refine AllReadyH.cons rfl (fun K hK => ?_) (AllReadyH.cons rfl (fun K hK => ?_) (AllReadyH.nil))
          · skip
            obtain ⟨A2, c2, rfl, -, -, hr2⟩ := Rd.of_own HOv2_2.out
            have HR2 := Lib.hid hr2
            have HOB : Hid ((X2).ownsRow w.heap.size 9 1 v1 T1.length (T1.map Value.string)) := Lib.hid (own_base HOv1_2.out (by have := HBS.out.size; simpa using this))
            clear hr2
            refine step_appT X2 (by kernel_rfl) (.tmp 30) (.tmp 34) 30 30 rfl w.heap.size 9 9 ip _ 1 16 Tryz.underlying30 Tryz.underlying30 HI.out.1 HI.out.2.1 HI.out.2.2.1 HI.out.2.2.2 rfl (by omega) v1 T1.length _ (by kernel_rfl) HOB.out A2 T2.length c2 (T2.map Value.string) (by kernel_rfl) HR2.out (by intro u hu; obtain ⟨t, _, rfl⟩ := List.mem_map.1 hu; rfl) (by have := HT1.out; simp only [maxLen]; omega) (by have := HT1.out; omega) (by have := HB2.out.size; simpa using this) ?_
            intro v3 X3 ho hg
            have HB3 : Hid (Below w.heap.size w X3) := Lib.hid (HB2.out.grown hg (by have := HB2.out.size; simpa using this) (fun j hj => (HOB.out.lt j hj).1))
            have HO3_3 := Lib.hid ho
            clear ho hg
            refine hK.out _ _ trivial (fun _ => ?_)
            clear hK K
            refine wpAnyH_ready (rs := [10]) (by kernel_rfl) (by simp) ?_
            refine AllReadyH.cons rfl (fun K hK => ?_) (AllReadyH.nil)
            go_simp
            refine hK.out _ _ trivial (fun _ => ?_)
            clear hK K
            have HB4 : Hid (Below w.heap.size w ((X3).alloc (.cells #[.string y] 9))) := Lib.hid (below_alloc HB3.out _)
            have HR4 : Hid (Rd ((X3).alloc (.cells #[.string y] 9)) 1 (some ⟨(X3).heap.size, 0, none⟩) 1 [.string y]) := Lib.hid (Rd_new (X3) #[.string y] _ 1 1 _ rfl rfl)
            have HG4 : Hid ((X3).heap.size < ((X3).alloc (.cells #[.string y] 9)).heap.size) := Lib.hid (by simp)
            have HO3_4 := Lib.hid (row_below HO3_3.out (below_alloc (Below.refl _ _) (.cells #[.string y] 9)))
            refine wpAnyH_ready (rs := [11]) (by kernel_rfl) (by simp) ?_
            refine AllReadyH.cons rfl (fun K hK => ?_) (AllReadyH.nil)
            refine step_appT ((X3).alloc (.cells #[.string y] 9)) (by kernel_rfl) (.tmp 35) (.tmp 37) 30 30 rfl w.heap.size 9 9 ip _ 1 16 Tryz.underlying30 Tryz.underlying30 HI.out.1 HI.out.2.1 HI.out.2.2.1 HI.out.2.2.2 rfl (by omega) v3 (T1.length + T2.length) _ (by kernel_rfl) HO3_4.out (some ⟨(X3).heap.size, 0, none⟩) 1 1 [.string y] (by kernel_rfl) HR4.out (by simp [Value.oneCell']) (by have := HT1.out; simp only [maxLen]; omega) (by have := HT1.out; omega) (by have := HB4.out.size; simpa using this) ?_
            intro v5 X5 ho hg
            have HB5 : Hid (Below w.heap.size w X5) := Lib.hid (HB4.out.grown hg (by have := HB4.out.size; simpa using this) (fun j hj => (HO3_4.out.lt j hj).1))
            have HO5 := Lib.hid ho
            clear ho hg
            refine hK.out _ _ trivial (fun _ => ?_)
            clear hK K
            refine wpAnyH_take (i := 12) (v := ?_) rfl (by kernel_rfl) (by kernel_rfl) (by kernel_rfl) (fun _ _ _ h => h) (Or.inl ⟨by kernel_rfl, ?hy⟩) hS5 ?rest
            case hy => (intro w hSw; clear hSw; go_simp; try with_reducible rfl)
            case rest =>
            refine wpAnyH_done (by kernel_rfl) ?_ _
            go_wp2
            go_ret
            refine ⟨v5, rfl, ?_, HB5.out⟩
            have := HO5.out
            simpa [Nat.add_assoc] using this
          · skip
            go_simp
            refine hK.out _ _ trivial (fun _ => ?_)
            clear hK K
            have HB6 : Hid (Below w.heap.size w ((X2).alloc (.cells #[.string y] 9))) := Lib.hid (below_alloc HB2.out _)
            have HR6 : Hid (Rd ((X2).alloc (.cells #[.string y] 9)) 1 (some ⟨(X2).heap.size, 0, none⟩) 1 [.string y]) := Lib.hid (Rd_new (X2) #[.string y] _ 1 1 _ rfl rfl)
            have HG6 : Hid ((X2).heap.size < ((X2).alloc (.cells #[.string y] 9)).heap.size) := Lib.hid (by simp)
            have HO1_6 := Lib.hid (row_below HOv1_2.out (below_alloc (Below.refl _ _) (.cells #[.string y] 9)))
            have HNE6 : Hid (v1.ownBlock ≠ some (X2).heap.size) := Lib.hid (fun h => by have h1 := (HOv1_2.out.lt _ h).2; omega)
            have HO2_6 := Lib.hid (row_below HOv2_2.out (below_alloc (Below.refl _ _) (.cells #[.string y] 9)))
            refine wpAnyH_ready (rs := [8]) (by kernel_rfl) (by simp) ?_
            refine AllReadyH.cons rfl (fun K hK => ?_) (AllReadyH.nil)
            obtain ⟨A2, c2, rfl, -, -, hr2⟩ := Rd.of_own HO2_6.out
            have HR2 := Lib.hid hr2
            have HOB : Hid ((((X2).alloc (.cells #[.string y] 9))).ownsRow w.heap.size 9 1 v1 T1.length (T1.map Value.string)) := Lib.hid (own_base HO1_6.out (by have := HBS.out.size; simpa using this))
            clear hr2
            refine step_appT ((X2).alloc (.cells #[.string y] 9)) (by kernel_rfl) (.tmp 30) (.tmp 34) 30 30 rfl w.heap.size 9 9 ip _ 1 16 Tryz.underlying30 Tryz.underlying30 HI.out.1 HI.out.2.1 HI.out.2.2.1 HI.out.2.2.2 rfl (by omega) v1 T1.length _ (by kernel_rfl) HOB.out A2 T2.length c2 (T2.map Value.string) (by kernel_rfl) HR2.out (by intro u hu; obtain ⟨t, _, rfl⟩ := List.mem_map.1 hu; rfl) (by have := HT1.out; simp only [maxLen]; omega) (by have := HT1.out; omega) (by have := HB6.out.size; simpa using this) ?_
            intro v3 X7 ho hg
            have HB7 : Hid (Below w.heap.size w X7) := Lib.hid (HB6.out.grown hg (by have := HB6.out.size; simpa using this) (fun j hj => (HOB.out.lt j hj).1))
            have HO3_7 := Lib.hid ho
            have HR7 := Lib.hid (Rd_grown HR6.out hg (fun a ha => by cases ha; exact ⟨HG6.out, HNE6.out⟩))
            clear ho hg
            refine hK.out _ _ trivial (fun _ => ?_)
            clear hK K
            refine wpAnyH_ready (rs := [11]) (by kernel_rfl) (by simp) ?_
            refine AllReadyH.cons rfl (fun K hK => ?_) (AllReadyH.nil)
            refine step_appT X7 (by kernel_rfl) (.tmp 35) (.tmp 37) 30 30 rfl w.heap.size 9 9 ip _ 1 16 Tryz.underlying30 Tryz.underlying30 HI.out.1 HI.out.2.1 HI.out.2.2.1 HI.out.2.2.2 rfl (by omega) v3 (T1.length + T2.length) _ (by kernel_rfl) HO3_7.out (some ⟨(X2).heap.size, 0, none⟩) 1 1 [.string y] (by kernel_rfl) HR7.out (by simp [Value.oneCell']) (by have := HT1.out; simp only [maxLen]; omega) (by have := HT1.out; omega) (by have := HB7.out.size; simpa using this) ?_
            intro v5 X8 ho hg
            have HB8 : Hid (Below w.heap.size w X8) := Lib.hid (HB7.out.grown hg (by have := HB7.out.size; simpa using this) (fun j hj => (HO3_7.out.lt j hj).1))
            have HO5 := Lib.hid ho
            clear ho hg
            refine hK.out _ _ trivial (fun _ => ?_)
            clear hK K
            refine wpAnyH_take (i := 12) (v := ?_) rfl (by kernel_rfl) (by kernel_rfl) (by kernel_rfl) (fun _ _ _ h => h) (Or.inl ⟨by kernel_rfl, ?hy⟩) hS5 ?rest
            case hy => (intro w hSw; clear hSw; go_simp; try with_reducible rfl)
            case rest =>
            refine wpAnyH_done (by kernel_rfl) ?_ _
            go_wp2
            go_ret
            refine ⟨v5, rfl, ?_, HB8.out⟩
            have := HO5.out
            simpa [Nat.add_assoc] using this
        · skip
          go_simp
          refine hK.out _ _ trivial (fun _ => ?_)
          clear hK K
          have HB9 : Hid (Below w.heap.size w ((X1).alloc (.cells #[.string y] 9))) := Lib.hid (below_alloc HB1.out _)
          have HR9 : Hid (Rd ((X1).alloc (.cells #[.string y] 9)) 1 (some ⟨(X1).heap.size, 0, none⟩) 1 [.string y]) := Lib.hid (Rd_new (X1) #[.string y] _ 1 1 _ rfl rfl)
          have HG9 : Hid ((X1).heap.size < ((X1).alloc (.cells #[.string y] 9)).heap.size) := Lib.hid (by simp)
          have HO1_9 := Lib.hid (row_below HOv1_1.out (below_alloc (Below.refl _ _) (.cells #[.string y] 9)))
          have HNE9 : Hid (v1.ownBlock ≠ some (X1).heap.size) := Lib.hid (fun h => by have h1 := (HOv1_1.out.lt _ h).2; omega)
          refine wpAnyH_ready (rs := [7]) (by kernel_rfl) (by simp) ?_
          refine AllReadyH.cons rfl (fun K hK => ?_) (AllReadyH.nil)
          go_simp
          refine (H2.out _ HB9.out).mono ?_
          rintro e X10 ⟨v2, rfl, ho, hb⟩
          have HB10 : Hid (Below w.heap.size w X10) := Lib.hid (below_trans HB9.out hb)
          have HOv2_10 : Hid (X10.ownsRow (((X1).alloc (.cells #[.string y] 9))).heap.size 9 1 v2 T2.length (T2.map Value.string)) := Lib.hid ho
          have HOv1_10 : Hid (X10.ownsRow (W3.drew).heap.size 9 1 v1 T1.length (T1.map Value.string)) := Lib.hid (row_below HO1_9.out hb)
          have HR10 := Lib.hid (HR9.out.below hb)
          have HG10 : Hid ((X1).heap.size < X10.heap.size) := Lib.hid (Nat.lt_of_lt_of_le HG9.out hb.size)
          clear ho hb
          go_simp
          refine hK.out _ _ trivial (fun _ => ?_)
          clear hK K
          refine wpAnyH_ready (rs := [8]) (by kernel_rfl) (by simp) ?_
          refine AllReadyH.cons rfl (fun K hK => ?_) (AllReadyH.nil)
          obtain ⟨A2, c2, rfl, -, -, hr2⟩ := Rd.of_own HOv2_10.out
          have HR2 := Lib.hid hr2
          have HOB : Hid ((X10).ownsRow w.heap.size 9 1 v1 T1.length (T1.map Value.string)) := Lib.hid (own_base HOv1_10.out (by have := HBS.out.size; simpa using this))
          clear hr2
          refine step_appT X10 (by kernel_rfl) (.tmp 30) (.tmp 34) 30 30 rfl w.heap.size 9 9 ip _ 1 16 Tryz.underlying30 Tryz.underlying30 HI.out.1 HI.out.2.1 HI.out.2.2.1 HI.out.2.2.2 rfl (by omega) v1 T1.length _ (by kernel_rfl) HOB.out A2 T2.length c2 (T2.map Value.string) (by kernel_rfl) HR2.out (by intro u hu; obtain ⟨t, _, rfl⟩ := List.mem_map.1 hu; rfl) (by have := HT1.out; simp only [maxLen]; omega) (by have := HT1.out; omega) (by have := HB10.out.size; simpa using this) ?_
          intro v3 X11 ho hg
          have HB11 : Hid (Below w.heap.size w X11) := Lib.hid (HB10.out.grown hg (by have := HB10.out.size; simpa using this) (fun j hj => (HOB.out.lt j hj).1))
          have HO3_11 := Lib.hid ho
          have HR11 := Lib.hid (Rd_grown HR10.out hg (fun a ha => by cases ha; exact ⟨HG10.out, HNE9.out⟩))
          clear ho hg
          refine hK.out _ _ trivial (fun _ => ?_)
          clear hK K
          refine wpAnyH_ready (rs := [11]) (by kernel_rfl) (by simp) ?_
          refine AllReadyH.cons rfl (fun K hK => ?_) (AllReadyH.nil)
          refine step_appT X11 (by kernel_rfl) (.tmp 35) (.tmp 37) 30 30 rfl w.heap.size 9 9 ip _ 1 16 Tryz.underlying30 Tryz.underlying30 HI.out.1 HI.out.2.1 HI.out.2.2.1 HI.out.2.2.2 rfl (by omega) v3 (T1.length + T2.length) _ (by kernel_rfl) HO3_11.out (some ⟨(X1).heap.size, 0, none⟩) 1 1 [.string y] (by kernel_rfl) HR11.out (by simp [Value.oneCell']) (by have := HT1.out; simp only [maxLen]; omega) (by have := HT1.out; omega) (by have := HB11.out.size; simpa using this) ?_
          intro v5 X12 ho hg
          have HB12 : Hid (Below w.heap.size w X12) := Lib.hid (HB11.out.grown hg (by have := HB11.out.size; simpa using this) (fun j hj => (HO3_11.out.lt j hj).1))
          have HO5 := Lib.hid ho
          clear ho hg
          refine hK.out _ _ trivial (fun _ => ?_)
          clear hK K
          refine wpAnyH_take (i := 12) (v := ?_) rfl (by kernel_rfl) (by kernel_rfl) (by kernel_rfl) (fun _ _ _ h => h) (Or.inl ⟨by kernel_rfl, ?hy⟩) hS5 ?rest
          case hy => (intro w hSw; clear hSw; go_simp; try with_reducible rfl)
          case rest =>
          refine wpAnyH_done (by kernel_rfl) ?_ _
          go_wp2
          go_ret
          refine ⟨v5, rfl, ?_, HB12.out⟩
          have := HO5.out
          simpa [Nat.add_assoc] using this
      · skip
        go_simp
        refine hK.out _ _ trivial (fun _ => ?_)
        clear hK K
        have HB13 : Hid (Below w.heap.size w ((W3.drew).alloc (.cells #[.string y] 9))) := Lib.hid (below_alloc HBS.out _)
        have HR13 : Hid (Rd ((W3.drew).alloc (.cells #[.string y] 9)) 1 (some ⟨(W3.drew).heap.size, 0, none⟩) 1 [.string y]) := Lib.hid (Rd_new (W3.drew) #[.string y] _ 1 1 _ rfl rfl)
        have HG13 : Hid ((W3.drew).heap.size < ((W3.drew).alloc (.cells #[.string y] 9)).heap.size) := Lib.hid (by simp)
        refine wpAnyH_ready (rs := [3]) (by kernel_rfl) (by simp) ?_
        refine AllReadyH.cons rfl (fun K hK => ?_) (AllReadyH.nil)
        go_simp
        refine (H1.out _ HB13.out).mono ?_
        rintro e X14 ⟨v1, rfl, ho, hb⟩
        have HB14 : Hid (Below w.heap.size w X14) := Lib.hid (below_trans HB13.out hb)
        have HOv1_14 : Hid (X14.ownsRow (((W3.drew).alloc (.cells #[.string y] 9))).heap.size 9 1 v1 T1.length (T1.map Value.string)) := Lib.hid ho
        have HR14 := Lib.hid (HR13.out.below hb)
        have HG14 : Hid ((W3.drew).heap.size < X14.heap.size) := Lib.hid (Nat.lt_of_lt_of_le HG13.out hb.size)
        have HNE14 : Hid (v1.ownBlock ≠ some (W3.drew).heap.size) := Lib.hid (fun h => by have h1 := (ho.lt _ h).1; have h2 := HG13.out; omega)
        clear ho hb
        go_simp
        refine hK.out _ _ trivial (fun _ => ?_)
        clear hK K
        refine wpAnyH_ready (rs := [7]) (by kernel_rfl) (by simp) ?_
        refine AllReadyH.cons rfl (fun K hK => ?_) (AllReadyH.nil)
        go_simp
        refine (H2.out _ HB14.out).mono ?_
        rintro e X15 ⟨v2, rfl, ho, hb⟩
        have HB15 : Hid (Below w.heap.size w X15) := Lib.hid (below_trans HB14.out hb)
        have HOv2_15 : Hid (X15.ownsRow (X14).heap.size 9 1 v2 T2.length (T2.map Value.string)) := Lib.hid ho
        have HOv1_15 : Hid (X15.ownsRow (((W3.drew).alloc (.cells #[.string y] 9))).heap.size 9 1 v1 T1.length (T1.map Value.string)) := Lib.hid (row_below HOv1_14.out hb)
        have HR15 := Lib.hid (HR14.out.below hb)
        have HG15 : Hid ((W3.drew).heap.size < X15.heap.size) := Lib.hid (Nat.lt_of_lt_of_le HG14.out hb.size)
        clear ho hb
        go_simp
        refine hK.out _ _ trivial (fun _ => ?_)
        clear hK K
        refine wpAnyH_ready (rs := [8]) (by kernel_rfl) (by simp) ?_
        refine AllReadyH.cons rfl (fun K hK => ?_) (AllReadyH.nil)
        obtain ⟨A2, c2, rfl, -, -, hr2⟩ := Rd.of_own HOv2_15.out
        have HR2 := Lib.hid hr2
        have HOB : Hid ((X15).ownsRow w.heap.size 9 1 v1 T1.length (T1.map Value.string)) := Lib.hid (own_base HOv1_15.out (by have := HB13.out.size; simpa using this))
        clear hr2
        refine step_appT X15 (by kernel_rfl) (.tmp 30) (.tmp 34) 30 30 rfl w.heap.size 9 9 ip _ 1 16 Tryz.underlying30 Tryz.underlying30 HI.out.1 HI.out.2.1 HI.out.2.2.1 HI.out.2.2.2 rfl (by omega) v1 T1.length _ (by kernel_rfl) HOB.out A2 T2.length c2 (T2.map Value.string) (by kernel_rfl) HR2.out (by intro u hu; obtain ⟨t, _, rfl⟩ := List.mem_map.1 hu; rfl) (by have := HT1.out; simp only [maxLen]; omega) (by have := HT1.out; omega) (by have := HB15.out.size; simpa using this) ?_
        intro v3 X16 ho hg
        have HB16 : Hid (Below w.heap.size w X16) := Lib.hid (HB15.out.grown hg (by have := HB15.out.size; simpa using this) (fun j hj => (HOB.out.lt j hj).1))
        have HO3_16 := Lib.hid ho
        have HR16 := Lib.hid (Rd_grown HR15.out hg (fun a ha => by cases ha; exact ⟨HG15.out, HNE14.out⟩))
        clear ho hg
        refine hK.out _ _ trivial (fun _ => ?_)
        clear hK K
        refine wpAnyH_ready (rs := [11]) (by kernel_rfl) (by simp) ?_
        refine AllReadyH.cons rfl (fun K hK => ?_) (AllReadyH.nil)
        refine step_appT X16 (by kernel_rfl) (.tmp 35) (.tmp 37) 30 30 rfl w.heap.size 9 9 ip _ 1 16 Tryz.underlying30 Tryz.underlying30 HI.out.1 HI.out.2.1 HI.out.2.2.1 HI.out.2.2.2 rfl (by omega) v3 (T1.length + T2.length) _ (by kernel_rfl) HO3_16.out (some ⟨(W3.drew).heap.size, 0, none⟩) 1 1 [.string y] (by kernel_rfl) HR16.out (by simp [Value.oneCell']) (by have := HT1.out; simp only [maxLen]; omega) (by have := HT1.out; omega) (by have := HB16.out.size; simpa using this) ?_
        intro v5 X17 ho hg
        have HB17 : Hid (Below w.heap.size w X17) := Lib.hid (HB16.out.grown hg (by have := HB16.out.size; simpa using this) (fun j hj => (HO3_16.out.lt j hj).1))
        have HO5 := Lib.hid ho
        clear ho hg
        refine hK.out _ _ trivial (fun _ => ?_)
        clear hK K
        refine wpAnyH_take (i := 12) (v := ?_) rfl (by kernel_rfl) (by kernel_rfl) (by kernel_rfl) (fun _ _ _ h => h) (Or.inl ⟨by kernel_rfl, ?hy⟩) hS5 ?rest
        case hy => (intro w hSw; clear hSw; go_simp; try with_reducible rfl)
        case rest =>
        refine wpAnyH_done (by kernel_rfl) ?_ _
        go_wp2
        go_ret
        refine ⟨v5, rfl, ?_, HB17.out⟩
        have := HO5.out
        simpa [Nat.add_assoc] using this
    · match l, h2, hS with
      | [], _, _ => exact base A c w
      | [x], _, _ =>
        rw [txt_one]
        clear ih hS hsm base
        simp only [List.length_singleton]
        go_enter Tryz.func73, Tryz.ntmps73
        go_wp2
        go_ret
        exact ⟨_, rfl, ⟨rfl, .inl ⟨rfl, rfl⟩⟩, Below.refl _ _⟩
      | x :: y :: l, h2, _ => simp at h2

    
end

section
open Go.RowKit

theorem col_parts {l : List ByteArray} (h : Col l) : ∃ (i j : Nat) (x y : ByteArray), j < i ∧ i < l.length ∧ l[i]? = some x ∧ l[j]? = some y ∧ x ≠ y ∧ dg x = dg y := by
  obtain ⟨x, hx, y, hy, hne, hd⟩ := h
  obtain ⟨i, hi⟩ := List.mem_iff_getElem?.1 hx
  obtain ⟨j, hj⟩ := List.mem_iff_getElem?.1 hy
  have h1 := (List.getElem?_eq_some_iff.1 hi).1
  have h2 := (List.getElem?_eq_some_iff.1 hj).1
  rcases Nat.lt_trichotomy i j with h3 | h3 | h3
  · exact ⟨j, i, y, x, h3, h2, hj, hi, Ne.symm hne, hd.symm⟩
  · subst h3; rw [hi] at hj; exact absurd (Option.some.inj hj) hne
  · exact ⟨i, j, x, y, h3, h1, hi, hj, hne, hd⟩

set_option maxRecDepth 100000 in
set_option maxHeartbeats 16000000 in
theorem shown_any (A : Option Addr) (c : Nat) (l : List ByteArray) (w : World) (hS : Strs w A l) (hl : l.length ≤ 1000000) (hs : ∀ s ∈ l, s.size ≤ 1000000000) (hC : Col l) :
    Calls Tryz.prog 70 #[.slice A l.length c] w fun e w' => e = .returned (.bool true) ∧ Below w.heap.size w w' := by
  obtain ⟨I, J, xI, xJ, hJI, hIl, hxI, hxJ, hne, hdg⟩ := col_parts hC
  obtain ⟨b, off, rfl, -⟩ := hS.2 (by omega)
  obtain ⟨n, hn⟩ : ∃ n, l.length = n := ⟨_, rfl⟩
  have HCELL : Hid (∀ (k : Nat) (x : ByteArray), l[k]? = some x → ∀ W, Below w.heap.size w W → W.cell? ⟨b, off + k, none⟩ = some (.string x)) := Lib.hid (fun k x hk W hW => by
    obtain ⟨b', off', e, c0⟩ := hS.at_ hk
    cases e
    exact kept_cell hW c0)
  have HGET : Hid (∀ k, k < n → ∃ x, l[k]? = some x ∧ x.size ≤ 1000000000) := Lib.hid (fun k hk => by
    obtain ⟨x, hx⟩ := get_some l k (by omega)
    exact ⟨x, hx, hs x (List.mem_of_getElem? hx)⟩)
  have HNE : Hid (∀ k x, l[k]? = some x → ∀ y, k = I → l[J]? = some y → x ≠ y ∧ dg x = dg y) := Lib.hid (by
    rintro k x hk y rfl hy
    rw [hxI] at hk; rw [hxJ] at hy
    cases hk; cases hy
    exact ⟨hne, hdg⟩)
  have HN := Lib.hid hn
  obtain ⟨ip, hj1, hy0, hy1, hy2⟩ := info_parts info_strg
  have HI := Lib.hid (And.intro hj1 (And.intro hy0 (And.intro hy1 hy2)))
  have HSUM := Lib.hid rsum
  rw [hn] at hIl hl ⊢
  clear hj1 hy0 hy1 hy2 hC hS hs hn hne hdg hxI hxJ
  have HO : Hid (w.ownsRow w.heap.size 9 1 (.slice none 0 0) 0 []) := ⟨rfl, .inl ⟨rfl, rfl⟩⟩
  go_enter Tryz.func70, Tryz.ntmps70
  go_wp2_with fail
  go_loopw [3, 4] (fun u3 u4 wr => ∃ k : Nat, k ≤ n ∧ u4 = .int .i64 k ∧ Below w.heap.size w wr ∧ wr.ownsRow w.heap.size 9 1 u3 k (((l.take k).map dg).map Value.string)) (fun _ u4 _ => n - (intOf u4).toNat)
  case atStart => exact ⟨0, Nat.zero_le _, rfl, Below.refl _ _, HO.out⟩
  case round =>
  obtain ⟨k, hk, rfl, hbw, how⟩ := hrel
  have HBW := Lib.hid hbw
  have HOW := Lib.hid how
  clear hbw how
  by_cases hlt : k < n
  · obtain ⟨x, hx, hxs⟩ := HGET.out k hlt
    have q := HCELL.out k x hx wr HBW.out
    have ql := lt_of_cell q
    have HX := Lib.hid hx
    obtain ⟨dx, hdx⟩ : ∃ dx, dg x = dx := ⟨_, rfl⟩
    have HOA : Hid ((wr.alloc (.cells #[.string dx] 9)).ownsRow w.heap.size 9 1 u3 k (((l.take k).map dg).map Value.string)) := Lib.hid (row_below HOW.out (below_alloc (Below.refl _ _) _))
    have HSM := Lib.hid (HSUM.out x hxs wr)
    rw [hdx] at HSM
    have HDX := Lib.hid hdx
    clear hx hxs hdx
    go_wp2_with fail
    refine HSM.out.mono ?_
    rintro e _ ⟨rfl, rfl⟩
    go_wp2_with (at_builtin; refine wpList_app _ rfl (.tmp 13) (.tmp 19) 30 30 rfl w.heap.size 9 9 ip _ 1 16 Tryz.underlying30 Tryz.underlying30 HI.out.1 HI.out.2.1 HI.out.2.2.1 HI.out.2.2.2 rfl (by omega) u3 k _ rfl HOA.out (some ⟨wr.heap.size, 0, none⟩) 1 1 [.string dx] rfl (Rd_new wr #[.string dx] _ 1 1 _ rfl rfl) (by simp [Value.oneCell']) (by simp only [maxLen]; omega) (by omega) (by have := HBW.out.size; simp; omega) ?_)
    intro v4 w4 hown4 hg4
    have HB4 : Hid (Below w.heap.size w w4) := Lib.hid ((below_alloc HBW.out _).grown hg4 (by have := HBW.out.size; simp; omega) (fun j hj => (HOA.out.lt j hj).1))
    have HO4 := Lib.hid hown4
    clear hown4 hg4
    go_wp2
    go_roundw
    case rel => exact ⟨k + 1, by omega, by go_num, HB4.out, by rw [take_snoc _ _ _ HX.out]; simpa [HDX.out] using HO4.out⟩
    case measure => simp [intOf]; omega
  · obtain rfl : k = n := by omega
    obtain ⟨A2, c2, rfl, hc2, -, hR⟩ := Rd.of_own HOW.out
    obtain ⟨b2, off2, rfl, hR2⟩ := hR.2 (by omega)
    have HC2 : Hid (∀ (j : Nat) (x : ByteArray), l[j]? = some x → ∀ W, Below wr.heap.size wr W → W.cell? ⟨b2, off2 + j, none⟩ = some (.string (dg x))) := Lib.hid (fun j x hj W hW => kept_cell hW (hR2 j _ (by rw [List.take_of_length_le (by rw [HN.out]; exact Nat.le_refl _)]; simp [hj])))
    clear hR hR2 HSUM HI hc2 HOW
    generalize wr = wz at *
    go_wp2_with fail
    go_loopw [5, 6] (fun u5 _ W => ∃ i : Nat, i ≤ I ∧ u5 = .int .i64 i ∧ Below wz.heap.size wz W) (fun u5 _ _ => k - (intOf u5).toNat)
    case atStart => exact ⟨0, Nat.zero_le _, rfl, Below.refl _ _⟩
    case round =>
    obtain ⟨i, hi, rfl, hb1⟩ := hrel
    have HB1 := Lib.hid hb1
    clear hb1
    have hik : (i : Int) < (k : Int) := by omega
    go_wp2_with fail
    go_loopw [6] (fun u6 W => ∃ j : Nat, j ≤ i ∧ (i = I → j ≤ J) ∧ u6 = .int .i64 j ∧ Below wz.heap.size wz W) (fun u6 _ => i - (intOf u6).toNat)
    case atStart => exact ⟨0, Nat.zero_le _, fun _ => Nat.zero_le _, rfl, HB1.out⟩
    case round =>
    obtain ⟨j, hji, hjJ, rfl, hb2⟩ := hrel
    have HB2 := Lib.hid hb2
    have HJJ := Lib.hid hjJ
    clear hb2 hjJ
    by_cases hlt : j < i
    · obtain ⟨x, hx, -⟩ := HGET.out i (by omega)
      obtain ⟨y, hy, -⟩ := HGET.out j (by omega)
      have HX := Lib.hid hx
      have HY := Lib.hid hy
      have hik2 : i < k := by omega
      have hjk : (j : Int) < (k : Int) := by omega
      have hjk2 : j < k := by omega
      obtain ⟨dx, hdx⟩ : ∃ dx, dg x = dx := ⟨_, rfl⟩
      obtain ⟨dy, hdy⟩ : ∃ dy, dg y = dy := ⟨_, rfl⟩
      have HSX := Lib.hid (HC2.out i x hx)
      have HSY := Lib.hid (HC2.out j y hy)
      have HLX := Lib.hid (fun W hW => HCELL.out i x hx W (below_trans HBW.out hW))
      have HLY := Lib.hid (fun W hW => HCELL.out j y hy W (below_trans HBW.out hW))
      rw [hdx] at HSX
      rw [hdy] at HSY
      have HDX := Lib.hid hdx
      have HDY := Lib.hid hdy
      clear hx hy hdx hdy
      by_cases hdd : dx = dy
      · subst hdd
        have t0 := beq_true dx
        by_cases hxy : x = y
        · subst hxy
          have t1 := beq_true x
          go_wp2_with fail
          refine wp_region_belowC (by kernel_rfl) (by kernel_rfl) (fun WQ HQS HQN => ?_)
          refine HQS.go (fun K hK => ?_)
          go_simp
          apply Exists.intro
          refine ⟨fun W hW => ?_, hK _ ?_⟩
          · (try go_simp)
            exact rfl
          clear hK K
          refine HQS.go (fun K hK => ?_)
          go_simp
          apply Exists.intro
          refine ⟨fun W hW => ?_, hK _ ?_⟩
          · (try go_simp)
            exact rfl
          clear hK K
          refine HQS.go (fun K hK => ?_)
          go_simp
          apply Exists.intro
          refine ⟨fun W hW => ?_, hK _ ?_⟩
          · (try go_simp)
            exact rfl
          clear hK K
          refine HQS.go (fun K hK => ?_)
          go_simp
          apply Exists.intro
          refine ⟨fun W hW => ?_, hK _ ?_⟩
          · have qq := HSX.out W (below_trans HB2.out hW)
            have ql := lt_of_cell qq
            go_simp
            exact rfl
          clear hK K
          refine HQS.go (fun K hK => ?_)
          go_simp
          apply Exists.intro
          refine ⟨fun W hW => ?_, hK _ ?_⟩
          · (try go_simp)
            exact rfl
          clear hK K
          refine HQS.go (fun K hK => ?_)
          go_simp
          apply Exists.intro
          refine ⟨fun W hW => ?_, hK _ ?_⟩
          · (try go_simp)
            exact rfl
          clear hK K
          refine HQS.go (fun K hK => ?_)
          go_simp
          apply Exists.intro
          refine ⟨fun W hW => ?_, hK _ ?_⟩
          · (try go_simp)
            exact rfl
          clear hK K
          refine HQS.go (fun K hK => ?_)
          go_simp
          apply Exists.intro
          refine ⟨fun W hW => ?_, hK _ ?_⟩
          · have qq := HSY.out W (below_trans HB2.out hW)
            have ql := lt_of_cell qq
            go_simp
            exact rfl
          clear hK K
          refine HQS.go (fun K hK => ?_)
          go_simp
          apply Exists.intro
          refine ⟨fun W hW => ?_, hK _ ?_⟩
          · (try go_simp)
            exact rfl
          clear hK K
          refine HQS.go (fun K hK => ?_)
          go_simp
          apply Exists.intro
          refine ⟨fun W hW => ?_, hK _ ?_⟩
          · (try go_simp)
            exact rfl
          clear hK K
          refine HQS.go (fun K hK => ?_)
          go_simp
          apply Exists.intro
          refine ⟨fun W hW => ?_, hK _ ?_⟩
          · (try go_simp)
            exact rfl
          clear hK K
          refine HQS.go (fun K hK => ?_)
          go_simp
          apply Exists.intro
          refine ⟨fun W hW => ?_, hK _ ?_⟩
          · (try go_simp)
            exact rfl
          clear hK K
          refine HQS.go (fun K hK => ?_)
          go_simp
          apply Exists.intro
          refine ⟨fun W hW => ?_, hK _ ?_⟩
          · (try go_simp)
            exact rfl
          clear hK K
          refine HQS.go (fun K hK => ?_)
          go_simp
          apply Exists.intro
          refine ⟨fun W hW => ?_, hK _ ?_⟩
          · have qq := HLX.out W (below_trans HB2.out hW)
            have ql := lt_of_cell qq
            go_simp
            exact rfl
          clear hK K
          refine HQS.go (fun K hK => ?_)
          go_simp
          apply Exists.intro
          refine ⟨fun W hW => ?_, hK _ ?_⟩
          · (try go_simp)
            exact rfl
          clear hK K
          refine HQS.go (fun K hK => ?_)
          go_simp
          apply Exists.intro
          refine ⟨fun W hW => ?_, hK _ ?_⟩
          · (try go_simp)
            exact rfl
          clear hK K
          refine HQS.go (fun K hK => ?_)
          go_simp
          apply Exists.intro
          refine ⟨fun W hW => ?_, hK _ ?_⟩
          · (try go_simp)
            exact rfl
          clear hK K
          refine HQS.go (fun K hK => ?_)
          go_simp
          apply Exists.intro
          refine ⟨fun W hW => ?_, hK _ ?_⟩
          · have qq := HLY.out W (below_trans HB2.out hW)
            have ql := lt_of_cell qq
            go_simp
            exact rfl
          clear hK K
          refine HQS.go (fun K hK => ?_)
          go_simp
          apply Exists.intro
          refine ⟨fun W hW => ?_, hK _ ?_⟩
          · (try go_simp)
            exact rfl
          clear hK K
          refine HQS.go (fun K hK => ?_)
          go_simp
          apply Exists.intro
          refine ⟨fun W hW => ?_, hK _ ?_⟩
          · (try go_simp)
            exact rfl
          clear hK K
          refine HQN.go ?_
          intro W hW
          have HB3 := Lib.hid (below_trans HB2.out hW)
          clear hW
          go_wp2_with fail
          go_roundw
          case rel =>
            refine ⟨j + 1, by omega, fun hI => ?_, by go_num, HB3.out⟩
            have h1 := HJJ.out hI
            by_cases hjJ : j = J
            · exfalso
              subst hjJ
              exact (HNE.out i _ HX.out _ hI HY.out).1 rfl
            · omega
          case measure => simp [intOf]; omega
        · obtain ⟨t1, t2⟩ := bne_of x y hxy
          go_wp2_with fail
          refine wp_region_belowC (by kernel_rfl) (by kernel_rfl) (fun WQ HQS HQN => ?_)
          refine HQS.go (fun K hK => ?_)
          go_simp
          apply Exists.intro
          refine ⟨fun W hW => ?_, hK _ ?_⟩
          · (try go_simp)
            exact rfl
          clear hK K
          refine HQS.go (fun K hK => ?_)
          go_simp
          apply Exists.intro
          refine ⟨fun W hW => ?_, hK _ ?_⟩
          · (try go_simp)
            exact rfl
          clear hK K
          refine HQS.go (fun K hK => ?_)
          go_simp
          apply Exists.intro
          refine ⟨fun W hW => ?_, hK _ ?_⟩
          · (try go_simp)
            exact rfl
          clear hK K
          refine HQS.go (fun K hK => ?_)
          go_simp
          apply Exists.intro
          refine ⟨fun W hW => ?_, hK _ ?_⟩
          · have qq := HSX.out W (below_trans HB2.out hW)
            have ql := lt_of_cell qq
            go_simp
            exact rfl
          clear hK K
          refine HQS.go (fun K hK => ?_)
          go_simp
          apply Exists.intro
          refine ⟨fun W hW => ?_, hK _ ?_⟩
          · (try go_simp)
            exact rfl
          clear hK K
          refine HQS.go (fun K hK => ?_)
          go_simp
          apply Exists.intro
          refine ⟨fun W hW => ?_, hK _ ?_⟩
          · (try go_simp)
            exact rfl
          clear hK K
          refine HQS.go (fun K hK => ?_)
          go_simp
          apply Exists.intro
          refine ⟨fun W hW => ?_, hK _ ?_⟩
          · (try go_simp)
            exact rfl
          clear hK K
          refine HQS.go (fun K hK => ?_)
          go_simp
          apply Exists.intro
          refine ⟨fun W hW => ?_, hK _ ?_⟩
          · have qq := HSY.out W (below_trans HB2.out hW)
            have ql := lt_of_cell qq
            go_simp
            exact rfl
          clear hK K
          refine HQS.go (fun K hK => ?_)
          go_simp
          apply Exists.intro
          refine ⟨fun W hW => ?_, hK _ ?_⟩
          · (try go_simp)
            exact rfl
          clear hK K
          refine HQS.go (fun K hK => ?_)
          go_simp
          apply Exists.intro
          refine ⟨fun W hW => ?_, hK _ ?_⟩
          · (try go_simp)
            exact rfl
          clear hK K
          refine HQS.go (fun K hK => ?_)
          go_simp
          apply Exists.intro
          refine ⟨fun W hW => ?_, hK _ ?_⟩
          · (try go_simp)
            exact rfl
          clear hK K
          refine HQS.go (fun K hK => ?_)
          go_simp
          apply Exists.intro
          refine ⟨fun W hW => ?_, hK _ ?_⟩
          · (try go_simp)
            exact rfl
          clear hK K
          refine HQS.go (fun K hK => ?_)
          go_simp
          apply Exists.intro
          refine ⟨fun W hW => ?_, hK _ ?_⟩
          · (try go_simp)
            exact rfl
          clear hK K
          refine HQS.go (fun K hK => ?_)
          go_simp
          apply Exists.intro
          refine ⟨fun W hW => ?_, hK _ ?_⟩
          · have qq := HLX.out W (below_trans HB2.out hW)
            have ql := lt_of_cell qq
            go_simp
            exact rfl
          clear hK K
          refine HQS.go (fun K hK => ?_)
          go_simp
          apply Exists.intro
          refine ⟨fun W hW => ?_, hK _ ?_⟩
          · (try go_simp)
            exact rfl
          clear hK K
          refine HQS.go (fun K hK => ?_)
          go_simp
          apply Exists.intro
          refine ⟨fun W hW => ?_, hK _ ?_⟩
          · (try go_simp)
            exact rfl
          clear hK K
          refine HQS.go (fun K hK => ?_)
          go_simp
          apply Exists.intro
          refine ⟨fun W hW => ?_, hK _ ?_⟩
          · (try go_simp)
            exact rfl
          clear hK K
          refine HQS.go (fun K hK => ?_)
          go_simp
          apply Exists.intro
          refine ⟨fun W hW => ?_, hK _ ?_⟩
          · have qq := HLY.out W (below_trans HB2.out hW)
            have ql := lt_of_cell qq
            go_simp
            exact rfl
          clear hK K
          refine HQS.go (fun K hK => ?_)
          go_simp
          apply Exists.intro
          refine ⟨fun W hW => ?_, hK _ ?_⟩
          · (try go_simp)
            exact rfl
          clear hK K
          refine HQS.go (fun K hK => ?_)
          go_simp
          apply Exists.intro
          refine ⟨fun W hW => ?_, hK _ ?_⟩
          · (try go_simp)
            exact rfl
          clear hK K
          refine HQN.go ?_
          intro W hW
          have HB3 := Lib.hid (below_trans HB2.out hW)
          clear hW
          go_wp2
          go_ret
          exact ⟨rfl, below_trans HBW.out HB3.out⟩
      · obtain ⟨t1, t2⟩ := bne_of dx dy hdd
        go_wp2_with fail
        refine wp_region_belowC (by kernel_rfl) (by kernel_rfl) (fun WQ HQS HQN => ?_)
        refine HQS.go (fun K hK => ?_)
        go_simp
        apply Exists.intro
        refine ⟨fun W hW => ?_, hK _ ?_⟩
        · (try go_simp)
          exact rfl
        clear hK K
        refine HQS.go (fun K hK => ?_)
        go_simp
        apply Exists.intro
        refine ⟨fun W hW => ?_, hK _ ?_⟩
        · (try go_simp)
          exact rfl
        clear hK K
        refine HQS.go (fun K hK => ?_)
        go_simp
        apply Exists.intro
        refine ⟨fun W hW => ?_, hK _ ?_⟩
        · (try go_simp)
          exact rfl
        clear hK K
        refine HQS.go (fun K hK => ?_)
        go_simp
        apply Exists.intro
        refine ⟨fun W hW => ?_, hK _ ?_⟩
        · have qq := HSX.out W (below_trans HB2.out hW)
          have ql := lt_of_cell qq
          go_simp
          exact rfl
        clear hK K
        refine HQS.go (fun K hK => ?_)
        go_simp
        apply Exists.intro
        refine ⟨fun W hW => ?_, hK _ ?_⟩
        · (try go_simp)
          exact rfl
        clear hK K
        refine HQS.go (fun K hK => ?_)
        go_simp
        apply Exists.intro
        refine ⟨fun W hW => ?_, hK _ ?_⟩
        · (try go_simp)
          exact rfl
        clear hK K
        refine HQS.go (fun K hK => ?_)
        go_simp
        apply Exists.intro
        refine ⟨fun W hW => ?_, hK _ ?_⟩
        · (try go_simp)
          exact rfl
        clear hK K
        refine HQS.go (fun K hK => ?_)
        go_simp
        apply Exists.intro
        refine ⟨fun W hW => ?_, hK _ ?_⟩
        · have qq := HSY.out W (below_trans HB2.out hW)
          have ql := lt_of_cell qq
          go_simp
          exact rfl
        clear hK K
        refine HQS.go (fun K hK => ?_)
        go_simp
        apply Exists.intro
        refine ⟨fun W hW => ?_, hK _ ?_⟩
        · (try go_simp)
          exact rfl
        clear hK K
        refine HQS.go (fun K hK => ?_)
        go_simp
        apply Exists.intro
        refine ⟨fun W hW => ?_, hK _ ?_⟩
        · (try go_simp)
          exact rfl
        clear hK K
        refine HQS.go (fun K hK => ?_)
        go_simp
        refine hK _ ?_
        clear hK K
        refine HQS.go (fun K hK => ?_)
        go_simp
        refine hK _ ?_
        clear hK K
        refine HQS.go (fun K hK => ?_)
        go_simp
        refine hK _ ?_
        clear hK K
        refine HQS.go (fun K hK => ?_)
        go_simp
        refine hK _ ?_
        clear hK K
        refine HQS.go (fun K hK => ?_)
        go_simp
        refine hK _ ?_
        clear hK K
        refine HQS.go (fun K hK => ?_)
        go_simp
        refine hK _ ?_
        clear hK K
        refine HQS.go (fun K hK => ?_)
        go_simp
        refine hK _ ?_
        clear hK K
        refine HQS.go (fun K hK => ?_)
        go_simp
        refine hK _ ?_
        clear hK K
        refine HQS.go (fun K hK => ?_)
        go_simp
        refine hK _ ?_
        clear hK K
        refine HQS.go (fun K hK => ?_)
        go_simp
        apply Exists.intro
        refine ⟨fun W hW => ?_, hK _ ?_⟩
        · (try go_simp)
          exact rfl
        clear hK K
        refine HQN.go ?_
        intro W hW
        have HB3 := Lib.hid (below_trans HB2.out hW)
        clear hW
        go_wp2_with fail
        go_roundw
        case rel =>
          refine ⟨j + 1, by omega, fun hI => ?_, by go_num, HB3.out⟩
          have h1 := HJJ.out hI
          by_cases hjJ : j = J
          · exfalso
            subst hjJ
            exact hdd (by rw [← HDX.out, ← HDY.out]; exact (HNE.out i _ HX.out _ hI HY.out).2)
          · omega
        case measure => simp [intOf]; omega
    · have hne : i ≠ I := fun h => by have := HJJ.out h; omega
      go_wp2
      go_roundw
      case rel => exact ⟨i + 1, by omega, by go_num, HB2.out⟩
      case measure => simp [intOf]; omega
end

section
open Go.RowKit

theorem wpList_appG {P : Program} (w : World) {ops : Array Oper} {rest : List Oper} {o : Oper} {a : Act} {Q : Exit → Act → World → Prop} (hw : Region.wanted o (yielded ops a.tmps) = true) (s x : Operand) (t t2 : TypeId)
    (ho : o.op = .call { callee := .builtin .append, args := #[s, x], argTypes := #[t, t2] })
    (base : Nat) (e e2 : TypeId) (i : TypeInfo) (z : Value) (size bytes : Nat) (ht : P.underlying t = some (.slice e)) (ht2 : P.underlying t2 = some (.slice e2)) (hi : P.info? e = some i) (hz : i.zero = some z)
    (hsize : i.size = size) (hby : i.bytes = bytes) (hzs : z.cells.size = size) (hsz : 0 < size)
    (v : Value) (n : Nat) (xs : List Value) (hs : a.eval s = v) (hown : w.ownsRow base e size v n xs)
    (A : Option Addr) (m c : Nat) (news : List Value) (hx : a.eval x = .slice A m c) (hr : Rd w size A m news) (h1 : ∀ u ∈ news, u.oneCell' = true)
    (h63 : n + m ≤ maxLen) (hbytes : (n + m) * bytes ≤ 140737488355328) (hbase : base ≤ w.heap.size)
    (h : ∀ v' w', w'.ownsRow base e size v' (n + m) (xs ++ news) → w.grownBy w' v.ownBlock → wpList P ops Q rest (a.put o.dst v') w') : wpList P ops Q (o :: rest) a w := by
  refine wpList_step fun K hK => ?_
  rw [if_pos hw]
  obtain ⟨v', w', hrun, h2, h3⟩ := run_app (P := P) w base t t2 o.type e e2 i z size bytes ht ht2 hi hz hsize hby hzs hsz v n xs hown A m c news hr h1 h63 hbytes hbase
  unfold Oper.wp execOp
  simp only [ho, resolve, invoke, builtin, Sem.run_bind, Sem.run_pure, Result.andThen_ok, List.map_toArray, List.map_cons, List.map_nil, hs, hx, hrun]
  exact hK _ _ (h v' w' h2 h3)

theorem jb_small (a b : ByteArray) (ha : a.size ≤ 200) (hb : b.size ≤ 200) : (jb [bNode, a, b]).size ≤ 1000000000 := by
  have := jb3 bNode a b (by decide) ha hb
  show ((jn [bNode, a, b]).toArray).size ≤ 1000000000
  simp; omega

theorem txt_small (l : List ByteArray) (h : sm l) : ∀ s ∈ txt l, s.size ≤ 1000000000 := by
  obtain ⟨n, hn⟩ : ∃ n, l.length = n := ⟨_, rfl⟩
  induction n using Nat.strongRecOn generalizing l with
  | _ n ih =>
    by_cases h2 : 2 ≤ l.length
    · have k1 := hf_lt l.length h2
      have k2 := hf_pos l.length
      rw [txt_two l h2]
      intro s hs
      rcases List.mem_append.1 hs with h3 | h3
      · rcases List.mem_append.1 h3 with h4 | h4
        · exact ih (hf l.length) (by omega) _ (h.take _) (by rw [List.length_take]; omega) s h4
        · exact ih (l.length - hf l.length) (by omega) _ (h.drop _) (by rw [List.length_drop]) s h4
      · rw [List.mem_singleton.1 h3]
        exact jb_small _ _ (rt_size _ (h.take _)) (rt_size _ (h.drop _))
    · match l, h2 with
      | [], _ =>
        rw [txt_nil]
        intro s hs
        rw [List.mem_singleton.1 hs]
        have := jn_few [bEmpty] (by intro s hs; rw [List.mem_singleton.1 hs]; decide)
        show ((jn [bEmpty]).toArray).size ≤ 1000000000
        simp at this ⊢; omega
      | [x], _ => rw [txt_one]; intro s hs; cases hs
      | x :: y :: l, h2 => simp at h2

theorem ptx_small (n i : Nat) (s : ByteArray) (p : List ByteArray) (hp : allD p = true) (hs : s.size ≤ 200) : ∀ t ∈ ptx n i s p, t.size ≤ 1000000000 := by
  induction n using Nat.strongRecOn generalizing i p with
  | _ n ih =>
    by_cases h2 : 2 ≤ n
    · have k1 := hf_lt n h2
      have k2 := hf_pos n
      have hd : allD p.dropLast = true := by rw [List.dropLast_eq_take]; exact allD_take hp _
      intro t ht
      by_cases hi : i < hf n
      · rw [ptx_lt n i s p h2 hi] at ht
        rcases List.mem_append.1 ht with h3 | h3
        · exact ih (hf n) k1 i p.dropLast hd t h3
        · rw [List.mem_singleton.1 h3]; exact jb_small _ _ (upv_size _ _ _ _ hs) (getLastD_size p hp)
      · rw [ptx_ge n i s p h2 hi] at ht
        rcases List.mem_append.1 ht with h3 | h3
        · exact ih (n - hf n) (by omega) (i - hf n) p.dropLast hd t h3
        · rw [List.mem_singleton.1 h3]; exact jb_small _ _ (getLastD_size p hp) (upv_size _ _ _ _ hs)
    · rw [ptx_one n i s p h2]; intro t ht; cases ht

theorem chk_parts {root : ByteArray} {n i : Nat} {s : ByteArray} {p : List ByteArray} (h : chkB root (n : Int) (i : Int) s p = true) : allD p = true ∧ upv n i s p = root ∧ p.length = plen n i := by
  unfold chkB at h
  simp only [Bool.and_eq_true, decide_eq_true_eq, Int.toNat_natCast] at h
  exact ⟨h.1.1.2, h.2.1, h.2.2⟩

theorem allD_pt (l : List ByteArray) (i : Nat) (h : allD l = true) : allD (pt l i) = true := by
  obtain ⟨n, hn⟩ : ∃ n, l.length = n := ⟨_, rfl⟩
  induction n using Nat.strongRecOn generalizing l i with
  | _ n ih =>
    by_cases h2 : 2 ≤ l.length
    · have k1 := hf_lt l.length h2
      have k2 := hf_pos l.length
      by_cases hi : i < hf l.length
      · rw [pt_lt l i h2 hi]
        have h1 := ih _ (by rw [List.length_take]; omega) (l.take (hf l.length)) i (allD_take h _) rfl
        have h3 := isD_rt _ (allD_drop h (hf l.length))
        simp only [allD, List.all_append, Bool.and_eq_true] at h1 ⊢
        exact ⟨h1, by simp [h3]⟩
      · rw [pt_ge l i h2 hi]
        have h1 := ih _ (by rw [List.length_drop]; omega) (l.drop (hf l.length)) (i - hf l.length) (allD_drop h _) rfl
        have h3 := isD_rt _ (allD_take h (hf l.length))
        simp only [allD, List.all_append, Bool.and_eq_true] at h1 ⊢
        exact ⟨h1, by simp [h3]⟩
    · rw [pt_one l i h2]; rfl

theorem incl_yes (l : List ByteArray) (i : Nat) (s : ByteArray) (hD : allD l = true) (hs : l[i]? = some s) (hn : l.length ≤ 1000000) : chkB (rt l) (l.length : Int) (i : Int) s (pt l i) = true := by
  have hi : i < l.length := (List.getElem?_eq_some_iff.1 hs).1
  have hm : s ∈ l := List.mem_of_getElem? hs
  have hds : isD s = true := by simp only [allD, List.all_eq_true] at hD; exact hD s hm
  unfold chkB
  have h1 : ((l.length : Int) ≤ 1000000 ∧ (0 : Int) ≤ (i : Int) ∧ (i : Int) < (l.length : Int)) := by omega
  rw [decide_eq_true h1, allD_pt l i hD, hds, Int.toNat_natCast, Int.toNat_natCast, pt_up l i s hs, pt_len]
  simp
end

section
open Go.RowKit

def bSp : ByteArray := ⟨#[32]⟩
def shT (s : Int × Int) : ByteArray := dec s.1.toNat ++ bSp ++ dec s.2.toNat
def shLf (s : Int × Int) : ByteArray := lf (shT s)
def shJ (s : Int × Int) : ByteArray := jb [bLeaf, shT s]

theorem dd_no32 (n : Nat) : ∀ c ∈ Go.Lib.decDigits n, c ≠ 32 := by
  induction n using Nat.strongRecOn with
  | _ n ih =>
    intro c hc
    rw [Go.Lib.decDigits] at hc
    have key : ∀ d, d < 10 → UInt8.ofNat (48 + d) ≠ 32 := by decide
    split at hc
    · next h => rw [List.mem_singleton.1 hc]; exact key n h
    · next h =>
      rcases List.mem_append.1 hc with h1 | h1
      · exact ih (n / 10) (by omega) c h1
      · rw [List.mem_singleton.1 h1]; exact key (n % 10) (by omega)
theorem cut_eq32 (p q X Y : List UInt8) (hp : ∀ c ∈ p, c ≠ 32) (hq : ∀ c ∈ q, c ≠ 32) (h : p ++ 32 :: X = q ++ 32 :: Y) : p = q ∧ X = Y := by
  induction p generalizing q with
  | nil =>
    cases q with
    | nil => exact ⟨rfl, by simpa using h⟩
    | cons c q =>
      simp only [List.nil_append, List.cons_append, List.cons.injEq] at h
      exact absurd h.1.symm (hq c List.mem_cons_self)
  | cons c p ih =>
    cases q with
    | nil =>
      simp only [List.nil_append, List.cons_append, List.cons.injEq] at h
      exact absurd h.1 (hp c List.mem_cons_self)
    | cons d q =>
      simp only [List.cons_append, List.cons.injEq] at h
      obtain ⟨h1, h2⟩ := ih q (fun x hx => hp x (List.mem_cons_of_mem _ hx)) (fun x hx => hq x (List.mem_cons_of_mem _ hx)) h.2
      exact ⟨by rw [h.1, h1], h2⟩

theorem shT_inj (s t : Int × Int) (hs : 0 ≤ s.1 ∧ 0 ≤ s.2) (ht : 0 ≤ t.1 ∧ 0 ≤ t.2) (h : shT s = shT t) : s = t := by
  have e : ∀ u : Int × Int, (shT u).data.toList = Go.Lib.decDigits u.1.toNat ++ 32 :: Go.Lib.decDigits u.2.toNat := fun u => by
    simp [shT, dec, bSp]
  have h1 := congrArg (fun x : ByteArray => x.data.toList) h
  simp only [e] at h1
  obtain ⟨h2, h3⟩ := cut_eq32 _ _ _ _ (dd_no32 _) (dd_no32 _) h1
  have h4 := dd_inj h2
  have h5 := dd_inj h3
  exact Prod.ext (by omega) (by omega)

theorem shT_size (s : Int × Int) (h1 : s.1 ≤ 16) (h2 : s.2 < 2147483647) : (shT s).size ≤ 60 := by
  have a1 := dec_len s.1.toNat 9 (by omega)
  have a2 := dec_len s.2.toNat 9 (by omega)
  have e : (shT s).size = (Go.Lib.decDigits s.1.toNat).length + 1 + (Go.Lib.decDigits s.2.toNat).length := by
    simp [shT, dec, bSp]
    show _ = _
    rfl
  omega

theorem commit_col (L : List (Int × Int)) (j : Nat) (s t : Int × Int) (p : List ByteArray) (hs : 0 ≤ s.1 ∧ 0 ≤ s.2) (ht : 0 ≤ t.1 ∧ 0 ≤ t.2) (hj : L[j]? = some t) (hne : s ≠ t)
    (h : upv L.length j (shLf s) p = rt (L.map shLf)) : Col (L.map shJ ++ txt (L.map shLf) ++ [shJ s] ++ ptx L.length j (shLf s) p) := by
  have hb := path_bind (L.map shLf) j (shLf s) (shLf t) p (by rw [List.getElem?_map, hj]; rfl) (by rw [List.length_map]; exact h)
  rw [List.length_map] at hb
  rcases hb with hb | hb
  · refine ⟨shJ s, ?_, shJ t, ?_, ?_, hb⟩
    · exact List.mem_append.2 (.inl (List.mem_append.2 (.inr List.mem_cons_self)))
    · exact List.mem_append.2 (.inl (List.mem_append.2 (.inl (List.mem_append.2 (.inl (List.mem_map.2 ⟨t, List.mem_of_getElem? hj, rfl⟩))))))
    · intro e
      have e1 := jb_inj e
      simp only [List.cons.injEq, and_true, true_and] at e1
      exact hne (shT_inj s t hs ht e1)
  · exact hb.mono fun x hx => by
      rcases List.mem_append.1 hx with h1 | h1
      · exact List.mem_append.2 (.inl (List.mem_append.2 (.inl (List.mem_append.2 (.inr h1)))))
      · exact List.mem_append.2 (.inr h1)
end

section
open Go.RowKit Go.ChangeShapes Go.WideShapes Go.Deep

def ShC (cs : List Value) (s : Int × Int) : Prop := cs = [.int .i64 s.1, .int .i64 s.2] ∧ (-9223372036854775808 ≤ s.1 ∧ s.1 ≤ 9223372036854775807) ∧ (-9223372036854775808 ≤ s.2 ∧ s.2 ≤ 9223372036854775807)

theorem opn_share (w : World) : Opn Tryz.prog w 48 ShC := by
  intro H enc n cs x h
  obtain ⟨V, rfl, hf⟩ := Opn.fields1 Tryz.underlying48 (by kernel_rfl) (by kernel_rfl) h
  obtain ⟨a0, h0, w0⟩ := hf 0 _ rfl (Opn.int Tryz.underlying3)
  obtain ⟨a1, h1, w1⟩ := hf 1 _ rfl (Opn.int Tryz.underlying3)
  refine ⟨(a0, a1), ?_, wf_i64_ w0, wf_i64_ w1⟩
  simp only [List.cons.injEq, and_true] at h0 h1
  simp [List.range_succ, h0, h1]

theorem ShC.val {v : Value} {s : Int × Int} (hv : v = .agg v.cells) (h : ShC v.cells.toList s) : v = .agg #[.int .i64 s.1, .int .i64 s.2] := by
  rw [hv]
  congr 1
  exact Array.toList_inj.1 h.1

theorem ints_in {w : World} {A : Option Addr} {c : Nat} {l : List Int} (h : SlC w 1 (IntC .i64) [.slice A l.length c] l) : Ints w A l ∧ l.length ≤ 9223372036854775807 := by
  obtain ⟨A', c', he, h1, h2, h3⟩ := h
  obtain ⟨rfl, rfl⟩ : A = A' ∧ c = c' := by simpa using he
  refine ⟨⟨by simp, fun hn => ?_⟩, by unfold maxLen at h2; omega⟩
  obtain ⟨b, off, rfl, _, hc⟩ := h3 hn
  refine ⟨b, off, rfl, fun j u hu => ?_⟩
  rw [List.getElem?_map] at hu
  cases hx : l[j]? with
  | none => rw [hx] at hu; cases hu
  | some x =>
    rw [hx] at hu
    obtain ⟨cs', _, hcs, hr, _⟩ := hc j x hx
    have := hcs 0 (.int .i64 x) (by rw [hr]; rfl)
    simp only [Nat.mul_one, Nat.add_zero] at this
    rw [this]; exact hu

theorem flat2_get (l : List (Int × Int)) (j : Nat) (u : Value) (h : (flat2 l)[j]? = some u) : ∃ (k r : Nat) (p : Int × Int), l[k]? = some p ∧ j = k * 2 + r ∧ [Value.int .i64 p.1, .int .i64 p.2][r]? = some u := by
  induction l generalizing j with
  | nil => simp [flat2] at h
  | cons p l ih =>
    have e : flat2 (p :: l) = .int .i64 p.1 :: .int .i64 p.2 :: flat2 l := rfl
    rw [e] at h
    match j, h with
    | 0, h => exact ⟨0, 0, p, rfl, rfl, h⟩
    | 1, h => exact ⟨0, 1, p, rfl, rfl, h⟩
    | j + 2, h =>
      obtain ⟨k, r, q, h1, h2, h3⟩ := ih j (by simpa using h)
      exact ⟨k + 1, r, q, by simpa using h1, by omega, h3⟩

theorem prs_in {w : World} {A : Option Addr} {c : Nat} {l : List (Int × Int)} (h : SlC w 2 ShC [.slice A l.length c] l) : Prs w A l ∧ l.length ≤ 9223372036854775807 := by
  obtain ⟨A', c', he, h1, h2, h3⟩ := h
  obtain ⟨rfl, rfl⟩ : A = A' ∧ c = c' := by simpa using he
  refine ⟨⟨flat2_length l, fun hn => ?_⟩, by unfold maxLen at h2; omega⟩
  obtain ⟨b, off, rfl, _, hc⟩ := h3 hn
  refine ⟨b, off, rfl, fun j u hu => ?_⟩
  obtain ⟨k, r, p, h4, rfl, h5⟩ := flat2_get l j u hu
  obtain ⟨cs', _, hcs, hr, _⟩ := hc k p h4
  have := hcs r u (by rw [hr]; exact h5)
  rw [← Nat.add_assoc]
  exact this
end

end Go.Proofs.YtjfondfjdhjooaaGreatDoor
