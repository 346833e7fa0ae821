/- Layer 2: Reverse, Path. -/
import Derived.Test.YtbefcipeojahfaaGreatDoorTreeCk02
import Derived.Test.YtbefcipeojahfaaGreatDoorRef04
namespace Go.Proofs.YtbefcipeojahfaaGreatDoor
open Go.RowKit

theorem info_strg : (Tryz.prog.info? 9).map (fun i => (i.zero, i.size, i.bytes)) = some (some (.string ByteArray.empty), 1, 16) := by kernel_rfl
theorem strsOf_rev (l : List ByteArray) : ((Go.Lib.strsOf (fun i => l.getD i ByteArray.empty) l.length).reverse.map encStr) = l.reverse.map Value.string := by
  have e : Go.Lib.strsOf (fun i => l.getD i ByteArray.empty) l.length = l.map (fun s => s.data.toList) := by
    apply List.ext_getElem?
    intro i
    by_cases hi : i < l.length
    · simp [Go.Lib.strsOf, hi]
    · simp [Go.Lib.strsOf, hi]
  rw [e, ← List.map_reverse, List.map_map]
  rfl

theorem below_setCs {B : Nat} {a : World} (b : Nat) (hb : B ≤ b) : ∀ (vs : List Value) (o : Nat) {w : World}, Below B a w → Below B a (w.setCells b o vs)
  | [], _, _, h => h
  | v :: r, o, _, h => below_setCs b hb r (o + 1) (h.setCell (p := ⟨b, o, none⟩) hb v)

theorem rev_any (B : Nat) (v : Value) (l : List ByteArray) (w : World) (h : w.ownsRow B 9 1 v l.length (l.map Value.string)) (hb : l.length ≤ 1000000) (hB : B ≤ w.heap.size) :
    Calls Tryz.prog 43 #[v] w fun e w' => e = .returned (.tuple #[]) ∧ ∃ A c, v = .slice A l.length c ∧ l.length ≤ c ∧ Strs w' A l.reverse ∧ (∀ a, A = some a → B ≤ a.block ∧ a.block < w'.heap.size) ∧ Below B w w' := by
  rcases h.2 with ⟨rfl, h0⟩ | ⟨g, cap, cur, rfl, hg1, hg2, hg3, hg4, hg5, hg6⟩
  · have h0' : l.length = 0 := h0
    obtain rfl : l = [] := List.eq_nil_of_length_eq_zero h0'
    refine (Tryz.slices_Reverse_string_empty none 0 w).mono ?_
    rintro e w' ⟨rfl, rfl⟩
    exact ⟨rfl, none, 0, rfl, Nat.le_refl _, ⟨rfl, fun h => by simp at h⟩, fun a ha => (by cases ha), Below.refl _ _⟩
  · have hrd := Rd.of_own h
    obtain ⟨A, c, hv, hc1, -, hR⟩ := hrd
    obtain ⟨rfl, rfl⟩ : some ⟨g, 0, none⟩ = A ∧ cap = c := by simpa using hv
    have hcell : ∀ i, i < l.length → w.cell? ⟨g, 0 + i, none⟩ = some (.string (l.getD i ByteArray.empty)) := fun i hi => by
      obtain ⟨b', off', e, hc⟩ := hR.2 (by omega)
      obtain ⟨rfl, rfl⟩ : g = b' ∧ 0 = off' := by simpa using e
      exact hc i _ (by simp [hi])
    refine (Tryz.slices_Reverse_string_cells g 0 l.length cap (fun i => l.getD i ByteArray.empty) w (by omega) hcell (fun j _ => frozen_of_row w g _ cur 9 hg2)).mono ?_
    rintro e w' ⟨rfl, q, rfl⟩
    rw [strsOf_rev]
    have hbel : Below B w ((w.drewN q).setCells g 0 (l.reverse.map Value.string)) := below_setCs g hg1 _ 0 ⟨rfl, rfl, rfl, Nat.le_refl _, fun _ _ => rfl⟩
    refine ⟨rfl, some ⟨g, 0, none⟩, cap, rfl, hc1, ⟨by simp, fun hn => ⟨g, 0, rfl, fun j u hu => ?_⟩⟩, fun a ha => ?_, hbel⟩
    · have hj : j < (l.reverse.map Value.string).length := (List.getElem?_eq_some_iff.1 hu).1
      have hin := World.cell?_setCells_in g (l.reverse.map Value.string) 0 (w.drewN q) (fun i hi => by
        have : i < l.length := by simpa using hi
        show ((w.drewN q).cell? ⟨g, 0 + i, none⟩).isSome = true
        have h2 : (w.drewN q).cell? ⟨g, 0 + i, none⟩ = w.cell? ⟨g, 0 + i, none⟩ := rfl
        rw [h2, hcell i this]; rfl) j hj
      rw [hin, ← (List.getElem?_eq_some_iff.1 hu).2]
    · cases ha
      exact ⟨hg1, Nat.lt_of_lt_of_le (Array.getElem?_eq_some_iff.1 hg2).1 hbel.size⟩

def lenV : Value → Nat
  | .slice _ n _ => n
  | _ => 0

theorem pt_below (l : List ByteArray) (i : Nat) (h : sm l) : ∀ s ∈ pt l i, s.size ≤ 200 := by
  obtain ⟨n, hn⟩ : ∃ n, l.length = n := ⟨_, rfl⟩
  induction n using Nat.strongRecOn generalizing l i with
  | _ n ih =>
    by_cases h2 : 2 ≤ l.length
    · have k1 := hf_lt l.length h2
      have k2 := hf_pos l.length
      intro s hs
      by_cases hi : i < hf l.length
      · rw [pt_lt l i h2 hi] at hs
        rcases List.mem_append.1 hs with h3 | h3
        · exact ih _ (by rw [List.length_take]; omega) _ i (h.take _) rfl s h3
        · rw [List.mem_singleton.1 h3]; exact rt_size _ (h.drop _)
      · rw [pt_ge l i h2 hi] at hs
        rcases List.mem_append.1 hs with h3 | h3
        · exact ih _ (by rw [List.length_drop]; omega) _ _ (h.drop _) rfl s h3
        · rw [List.mem_singleton.1 h3]; exact rt_size _ (h.take _)
    · rw [pt_one l i h2]; intro s hs; cases hs
theorem plen_lt_n (n i : Nat) (h : 1 ≤ n) : plen n i < n := by
  induction n using Nat.strongRecOn generalizing i with
  | _ n ih =>
    by_cases h2 : 2 ≤ n
    · have k1 := hf_lt n h2
      have k2 := hf_pos n
      by_cases hi : i < hf n
      · rw [plen_lt n i h2 hi]; have := ih (hf n) k1 i k2; omega
      · rw [plen_ge n i h2 hi]; have := ih (n - hf n) (by omega) (i - hf n) (by omega); omega
    · rw [plen_one n i h2]; omega

set_option maxRecDepth 100000 in
set_option maxHeartbeats 16000000 in
theorem tpath_any (A : Option Addr) (c : Nat) (l : List ByteArray) (i : Int) (w : World) (hbig : l.length ≤ 100000) (hcap : l.length ≤ c) (hS : Strs w A l) (hsm : sm l) (hT : Tabs w) (hD : allD l = true) (hi0 : 0 ≤ i) (hi1 : i < l.length) :
    Calls Tryz.prog 19 #[.slice A l.length c, .int .i64 i] w fun e w' => ∃ A' c', e = .returned (.tuple #[.slice A' (pt l i.toNat).length c', .int .i64 0]) ∧ (pt l i.toNat).length ≤ c' ∧ Strs w' A' (pt l i.toNat) ∧ (∀ a, A' = some a → w.heap.size ≤ a.block ∧ a.block < w'.heap.size) ∧ Below w.heap.size w w' := by
  obtain ⟨ii, rfl⟩ : ∃ ii : Nat, i = ii := ⟨i.toNat, by omega⟩
  rw [Int.toNat_natCast]
  have hpl : (pt l ii).length ≤ l.length := by rw [pt_len]; have := plen_lt_n l.length ii (by omega); omega
  obtain ⟨P0, hP0⟩ : ∃ P0, pt l ii = P0 := ⟨_, rfl⟩
  have HPL := Lib.hid hpl
  rw [hP0] at HPL ⊢
  have HP0 := Lib.hid hP0
  obtain ⟨ip, hj1, hy0, hy1, hy2⟩ := info_parts info_strg
  have HI := Lib.hid (And.intro hj1 (And.intro hy0 (And.intro hy1 hy2)))
  have HPR := Lib.hid (proper_any A c l w (by omega) hS (fun s hs => by have := hsm s hs; omega))
  rw [hD] at HPR
  have HTOT : Hid (∀ (b off c' : Nat) (l' : List ByteArray) (W : World), Below w.heap.size w W → Strs w (some ⟨b, off, none⟩) l' → sm l' → l'.length ≤ c' → l'.length ≤ 100000 → Calls Tryz.prog 42 #[.slice (some ⟨b, off, none⟩) l'.length c'] W fun e w' => e = .returned (.string (rt l')) ∧ Below W.heap.size W w') :=
    Lib.hid (fun b off c' l' W hW hs hm hc hb => total_any (some ⟨b, off, none⟩) c' l' W (by omega) hc (hs.below hW) hm (hT.below hW))
  obtain ⟨b0, off0, rfl, -⟩ := hS.2 (by omega)
  have HS := Lib.hid hS
  have HSM := Lib.hid hsm
  clear hj1 hy0 hy1 hy2 hD hT hS hsm hP0 hpl
  have HO : Hid (w.ownsRow w.heap.size 9 1 (.slice none 0 0) 0 []) := ⟨rfl, .inl ⟨rfl, rfl⟩⟩
  have hd1 : decide (l.length ≤ ii) = false := decide_eq_false (by omega)
  have hd2 : decide ((ii : Int) < 0) = false := decide_eq_false (by omega)
  go_enter Tryz.func19, Tryz.ntmps19
  go_wp2_with fail
  refine HPR.out.mono ?_
  rintro e w1 ⟨rfl, hb1⟩
  have HB1 := Lib.hid hb1
  have HO1 := Lib.hid (row_below HO.out hb1)
  clear hb1
  go_wp2_with fail
  go_loopw [0, 1, 6] (fun u0 u1 u6 wr => ∃ (b off c' : Nat) (l' : List ByteArray) (i' : Nat) (rest : List ByteArray), u0 = .slice (some ⟨b, off, none⟩) l'.length c' ∧ u1 = .int .i64 i' ∧ i' < l'.length ∧ l'.length ≤ c' ∧ l'.length ≤ 100000 ∧ Strs w (some ⟨b, off, none⟩) l' ∧ sm l' ∧
      P0 = pt l' i' ++ rest ∧ Below w.heap.size w wr ∧ wr.ownsRow w.heap.size 9 1 u6 rest.length (rest.reverse.map Value.string)) (fun u0 _ _ _ => lenV u0)
  case atStart => exact ⟨b0, off0, c, l, ii, [], rfl, rfl, by omega, hcap, hbig, HS.out, HSM.out, by rw [List.append_nil, HP0.out], HB1.out, HO1.out⟩
  case round =>
    obtain ⟨b, off, c', l', i', rest, rfl, rfl, g1, g2, g3, hs', hm', hp', hb', ho'⟩ := hrel
    have HS' := Lib.hid hs'
    have HM' := Lib.hid hm'
    have HP' := Lib.hid hp'
    have HB' := Lib.hid hb'
    have HO' := Lib.hid ho'
    clear hs' hm' hp' hb' ho'
    by_cases h2 : 2 ≤ l'.length
    · obtain ⟨k, hk⟩ : ∃ k, hf l'.length = k := ⟨_, rfl⟩
      have k1 := hf_lt l'.length h2
      have k2 := hf_pos l'.length
      rw [hk] at k1 k2
      have HH := Lib.hid (fun W => half_any l'.length (by omega) W)
      rw [hk] at HH
      by_cases hik : i' < k
      · have hst := pt_lt l' i' h2 (by rw [hk]; exact hik)
        rw [hk] at hst
        have hside := HTOT.out b (off + k) (c' - k) (l'.drop k) wr HB'.out (HS'.out.drop k) (HM'.out.drop k) (by rw [List.length_drop]; omega) (by rw [List.length_drop]; omega)
        rw [List.length_drop] at hside
        have hnl : (l'.take k).length = k := by rw [List.length_take]; omega
        have HSIDE := Lib.hid hside
        have HNL := Lib.hid hnl
        have HSN := Lib.hid (HS'.out.take k)
        have HMN := Lib.hid (HM'.out.take k)
        obtain ⟨x, hx⟩ : ∃ x, rt (l'.drop k) = x := ⟨_, rfl⟩
        rw [hx] at HSIDE hst
        have hp2 : P0 = pt (l'.take k) i' ++ (x :: rest) := by rw [HP'.out, hst, List.append_assoc]; rfl
        have hre : rest.length + 1 ≤ P0.length := by rw [hp2]; simp
        have HP2 := Lib.hid hp2
        have HRE : Hid (rest.length ≤ 100000) := Lib.hid (by have := HPL.out; omega)
        clear hst hside hnl hx hp2 hre
        generalize l'.length = m at *
        have hkm : (k : Int) ≤ (m : Int) := by omega
        have hkc : (k : Int) ≤ (c' : Int) := by omega
        have hck : (c' = k) = False := by simp; omega
        have hyi : (i' : Int) < (k : Int) := by omega
        go_wp2_with fail
        refine (HH.out wr).mono ?_
        rintro e _ ⟨rfl, rfl⟩
        go_wp2_with fail
        refine HSIDE.out.mono ?_
        rintro e w3 ⟨rfl, hb3⟩
        have HB3 := Lib.hid (below_trans HB'.out hb3)
        have HOA : Hid ((w3.alloc (.cells #[.string x] 9)).ownsRow w.heap.size 9 1 u6 rest.length (rest.reverse.map Value.string)) := Lib.hid (row_below (row_below HO'.out hb3) (below_alloc (Below.refl _ _) _))
        clear hb3
        go_wp2_with (at_builtin; refine wpList_app _ rfl (.tmp 30) (.tmp 35) 26 26 rfl w.heap.size 9 9 ip _ 1 16 Tryz.underlying26 Tryz.underlying26 HI.out.1 HI.out.2.1 HI.out.2.2.1 HI.out.2.2.2 rfl (by omega) u6 rest.length _ rfl HOA.out (some ⟨w3.heap.size, 0, none⟩) 1 1 [.string x] rfl (Rd_new w3 #[.string x] _ 1 1 _ rfl rfl) (by simp [Value.oneCell']) (by have := HRE.out; simp only [maxLen]; omega) (by have := HRE.out; omega) (by have := HB3.out.size; simp; omega) ?_)
        intro v6 w4 hown4 hg4
        have HB4 : Hid (Below w.heap.size w w4) := Lib.hid ((below_alloc HB3.out _).grown hg4 (by have := HB3.out.size; simp; omega) (fun j hj => (HOA.out.lt j hj).1))
        have e4 : (rest.map Value.string).reverse ++ [.string x] = (x :: rest).reverse.map Value.string := by simp
        rw [e4] at hown4
        have HO4 := Lib.hid hown4
        clear hown4 hg4 e4
        go_wp2
        go_roundw
        case rel =>
          refine ⟨b, off, c', l'.take k, i', x :: rest, by rw [HNL.out], by go_num, by rw [HNL.out]; omega, by rw [HNL.out]; omega, by rw [HNL.out]; omega, HSN.out, HMN.out, HP2.out, HB4.out, HO4.out⟩
        case measure => simp [lenV]; omega
      · have hst := pt_ge l' i' h2 (by rw [hk]; exact hik)
        rw [hk] at hst
        have hside := HTOT.out b off c' (l'.take k) wr HB'.out (HS'.out.take k) (HM'.out.take k) (by rw [List.length_take]; omega) (by rw [List.length_take]; omega)
        rw [List.length_take, Nat.min_eq_left (by omega)] at hside
        have hnl : (l'.drop k).length = l'.length - k := by rw [List.length_drop]
        have HSIDE := Lib.hid hside
        have HNL := Lib.hid hnl
        have HSN := Lib.hid (HS'.out.drop k)
        have HMN := Lib.hid (HM'.out.drop k)
        obtain ⟨x, hx⟩ : ∃ x, rt (l'.take k) = x := ⟨_, rfl⟩
        rw [hx] at HSIDE hst
        have hp2 : P0 = pt (l'.drop k) (i' - k) ++ (x :: rest) := by rw [HP'.out, hst, List.append_assoc]; rfl
        have hre : rest.length + 1 ≤ P0.length := by rw [hp2]; simp
        have HP2 := Lib.hid hp2
        have HRE : Hid (rest.length ≤ 100000) := Lib.hid (by have := HPL.out; omega)
        clear hst hside hnl hx hp2 hre
        generalize l'.length = m at *
        have hkm : (k : Int) ≤ (m : Int) := by omega
        have hkc : (k : Int) ≤ (c' : Int) := by omega
        have hck : (c' = k) = False := by simp; omega
        have hni : ¬ (i' : Int) < (k : Int) := by omega
        go_wp2_with fail
        refine (HH.out wr).mono ?_
        rintro e _ ⟨rfl, rfl⟩
        go_wp2_with fail
        refine HSIDE.out.mono ?_
        rintro e w3 ⟨rfl, hb3⟩
        have HB3 := Lib.hid (below_trans HB'.out hb3)
        have HOA : Hid ((w3.alloc (.cells #[.string x] 9)).ownsRow w.heap.size 9 1 u6 rest.length (rest.reverse.map Value.string)) := Lib.hid (row_below (row_below HO'.out hb3) (below_alloc (Below.refl _ _) _))
        clear hb3
        go_wp2_with (at_builtin; refine wpList_app _ rfl (.tmp 40) (.tmp 45) 26 26 rfl w.heap.size 9 9 ip _ 1 16 Tryz.underlying26 Tryz.underlying26 HI.out.1 HI.out.2.1 HI.out.2.2.1 HI.out.2.2.2 rfl (by omega) u6 rest.length _ rfl HOA.out (some ⟨w3.heap.size, 0, none⟩) 1 1 [.string x] rfl (Rd_new w3 #[.string x] _ 1 1 _ rfl rfl) (by simp [Value.oneCell']) (by have := HRE.out; simp only [maxLen]; omega) (by have := HRE.out; omega) (by have := HB3.out.size; simp; omega) ?_)
        intro v6 w4 hown4 hg4
        have HB4 : Hid (Below w.heap.size w w4) := Lib.hid ((below_alloc HB3.out _).grown hg4 (by have := HB3.out.size; simp; omega) (fun j hj => (HOA.out.lt j hj).1))
        have e4 : (rest.map Value.string).reverse ++ [.string x] = (x :: rest).reverse.map Value.string := by simp
        rw [e4] at hown4
        have HO4 := Lib.hid hown4
        clear hown4 hg4 e4
        go_wp2
        go_roundw
        case rel =>
          refine ⟨b, (off + k), (c' - k), l'.drop k, (i' - k), x :: rest, by rw [HNL.out], by go_num, by rw [HNL.out]; omega, by rw [HNL.out]; omega, by rw [HNL.out]; omega, HSN.out, HMN.out, HP2.out, HB4.out, HO4.out⟩
        case measure => simp [lenV]; omega
    · have hm1 : l'.length = 1 := by omega
      have hp2 : P0 = rest := by rw [HP'.out, pt_one l' i' h2]; rfl
      obtain rfl := hp2
      have hr := rev_any w.heap.size u6 P0.reverse wr (by rw [List.length_reverse]; exact HO'.out) (by rw [List.length_reverse]; have := HPL.out; omega) HB'.out.size
      rw [List.reverse_reverse, List.length_reverse] at hr
      have HR := Lib.hid hr
      clear hr
      go_wp2_with fail
      refine HR.out.mono ?_
      rintro e w3 ⟨rfl, A', c'', rfl, hc, hs3, ha3, hb3⟩
      have HC := Lib.hid hc
      have HS3 := Lib.hid hs3
      have HA3 := Lib.hid ha3
      have HB3 := Lib.hid (Below.trans HB'.out hb3)
      clear hc hs3 ha3 hb3
      go_wp2
      go_ret2
      exact ⟨A', c'', rfl, HC.out, HS3.out, HA3.out, HB3.out⟩

end Go.Proofs.YtbefcipeojahfaaGreatDoor
