/- Layer 2: Reverse, Path. The reference of layer 2: Half, Empty, node, root. The reference of layer 2: up, PathTexts. wp_region_below with what follows hidden behind a variable: many skipped operations in a row else make Lean unfold the region at each step (an expected type is put into weak head normal form). Plain words of layer 2 that the laws share; an append that is guarded. Several texts in one: Field, Inv, Eval, Join1, Arr, Interp. Contracts of package shares: element, valid, the two methods at. The contract of shares.Split on valid arguments. -/
import Derived.Test.YtjfondfjdhjooaaGreatDoorCbB
import Derived.Maps.OwnOps
import Derived.Maps.Views
namespace Go.Proofs.YtjfondfjdhjooaaGreatDoor
set_option linter.unusedVariables false
set_option linter.unusedSimpArgs false

section
open Go.RowKit

theorem info_strg : (Tryz.prog.info? 9).map (fun i => (i.zero, i.size, i.bytes)) = some (some (.string ByteArray.empty), 1, 16) := by kernel_rfl
theorem strsOf_rev (l : List ByteArray) : ((Go.Lib.strsOf (fun i => l.getD i ByteArray.empty) l.length).reverse.map encStr) = l.reverse.map Value.string := by
  have e : Go.Lib.strsOf (fun i => l.getD i ByteArray.empty) l.length = l.map (fun s => s.data.toList) := by
    apply List.ext_getElem?
    intro i
    by_cases hi : i < l.length
    · simp [Go.Lib.strsOf, hi]
    · simp [Go.Lib.strsOf, hi]
  rw [e, ← List.map_reverse, List.map_map]
  rfl

theorem below_setCs {B : Nat} {a : World} (b : Nat) (hb : B ≤ b) : ∀ (vs : List Value) (o : Nat) {w : World}, Below B a w → Below B a (w.setCells b o vs)
  | [], _, _, h => h
  | v :: r, o, _, h => below_setCs b hb r (o + 1) (h.setCell (p := ⟨b, o, none⟩) hb v)

theorem setCs_kind (g : Nat) (T : Nat) : ∀ (vs : List Value) (o : Nat) {w : World} {cs : Array Value}, w.heap[g]? = some (.cells cs T (0, 0)) → ∃ cs', (w.setCells g o vs).heap[g]? = some (.cells cs' T (0, 0))
  | [], _, _, cs, h => ⟨cs, h⟩
  | v :: r, o, w, cs, h => setCs_kind g T r (o + 1) (heap_setCell_same w g o cs T v h)
theorem rev_any (B : Nat) (v : Value) (l : List ByteArray) (w : World) (h : w.ownsRow B 9 1 v l.length (l.map Value.string)) (hb : l.length ≤ 1000000) (hB : B ≤ w.heap.size) :
    Calls Tryz.prog 95 #[v] w fun e w' => e = .returned (.tuple #[]) ∧ ∃ A c, v = .slice A l.length c ∧ l.length ≤ c ∧ Strs w' A l.reverse ∧ (∀ a, A = some a → B ≤ a.block ∧ a.block < w'.heap.size ∧ ∃ cs, w'.heap[a.block]? = some (.cells cs 9 (0, 0))) ∧ Below B w w' := by
  rcases h.2 with ⟨rfl, h0⟩ | ⟨g, cap, cur, rfl, hg1, hg2, hg3, hg4, hg5, hg6⟩
  · have h0' : l.length = 0 := h0
    obtain rfl : l = [] := List.eq_nil_of_length_eq_zero h0'
    refine (Tryz.slices_Reverse_string_empty none 0 w).mono ?_
    rintro e w' ⟨rfl, rfl⟩
    exact ⟨rfl, none, 0, rfl, Nat.le_refl _, ⟨rfl, fun h => by simp at h⟩, fun a ha => (by cases ha), Below.refl _ _⟩
  · have hrd := Rd.of_own h
    obtain ⟨A, c, hv, hc1, -, hR⟩ := hrd
    obtain ⟨rfl, rfl⟩ : some ⟨g, 0, none⟩ = A ∧ cap = c := by simpa using hv
    have hcell : ∀ i, i < l.length → w.cell? ⟨g, 0 + i, none⟩ = some (.string (l.getD i ByteArray.empty)) := fun i hi => by
      obtain ⟨b', off', e, hc⟩ := hR.2 (by omega)
      obtain ⟨rfl, rfl⟩ : g = b' ∧ 0 = off' := by simpa using e
      exact hc i _ (by simp [hi])
    refine (Tryz.slices_Reverse_string_cells g 0 l.length cap (fun i => l.getD i ByteArray.empty) w (by omega) hcell (fun j _ => frozen_of_row w g _ cur 9 hg2)).mono ?_
    rintro e w' ⟨rfl, q, rfl⟩
    rw [strsOf_rev]
    have hbel : Below B w ((w.drewN q).setCells g 0 (l.reverse.map Value.string)) := below_setCs g hg1 _ 0 ⟨rfl, rfl, rfl, Nat.le_refl _, fun _ _ => rfl⟩
    refine ⟨rfl, some ⟨g, 0, none⟩, cap, rfl, hc1, ⟨by simp, fun hn => ⟨g, 0, rfl, fun j u hu => ?_⟩⟩, fun a ha => ?_, hbel⟩
    · have hj : j < (l.reverse.map Value.string).length := (List.getElem?_eq_some_iff.1 hu).1
      have hin := World.cell?_setCells_in g (l.reverse.map Value.string) 0 (w.drewN q) (fun i hi => by
        have : i < l.length := by simpa using hi
        show ((w.drewN q).cell? ⟨g, 0 + i, none⟩).isSome = true
        have h2 : (w.drewN q).cell? ⟨g, 0 + i, none⟩ = w.cell? ⟨g, 0 + i, none⟩ := rfl
        rw [h2, hcell i this]; rfl) j hj
      rw [hin, ← (List.getElem?_eq_some_iff.1 hu).2]
    · cases ha
      exact ⟨hg1, Nat.lt_of_lt_of_le (Array.getElem?_eq_some_iff.1 hg2).1 hbel.size, setCs_kind g 9 _ 0 (w := w.drewN q) hg2⟩

def lenV : Value → Nat
  | .slice _ n _ => n
  | _ => 0

theorem pt_below (l : List ByteArray) (i : Nat) (h : sm l) : ∀ s ∈ pt l i, s.size ≤ 200 := by
  obtain ⟨n, hn⟩ : ∃ n, l.length = n := ⟨_, rfl⟩
  induction n using Nat.strongRecOn generalizing l i with
  | _ n ih =>
    by_cases h2 : 2 ≤ l.length
    · have k1 := hf_lt l.length h2
      have k2 := hf_pos l.length
      intro s hs
      by_cases hi : i < hf l.length
      · rw [pt_lt l i h2 hi] at hs
        rcases List.mem_append.1 hs with h3 | h3
        · exact ih _ (by rw [List.length_take]; omega) _ i (h.take _) rfl s h3
        · rw [List.mem_singleton.1 h3]; exact rt_size _ (h.drop _)
      · rw [pt_ge l i h2 hi] at hs
        rcases List.mem_append.1 hs with h3 | h3
        · exact ih _ (by rw [List.length_drop]; omega) _ _ (h.drop _) rfl s h3
        · rw [List.mem_singleton.1 h3]; exact rt_size _ (h.take _)
    · rw [pt_one l i h2]; intro s hs; cases hs
theorem plen_lt_n (n i : Nat) (h : 1 ≤ n) : plen n i < n := by
  induction n using Nat.strongRecOn generalizing i with
  | _ n ih =>
    by_cases h2 : 2 ≤ n
    · have k1 := hf_lt n h2
      have k2 := hf_pos n
      by_cases hi : i < hf n
      · rw [plen_lt n i h2 hi]; have := ih (hf n) k1 i k2; omega
      · rw [plen_ge n i h2 hi]; have := ih (n - hf n) (by omega) (i - hf n) (by omega); omega
    · rw [plen_one n i h2]; omega

set_option maxRecDepth 100000 in
set_option maxHeartbeats 16000000 in
theorem tpath_any (A : Option Addr) (c : Nat) (l : List ByteArray) (i : Int) (w : World) (hbig : l.length ≤ 100000) (hcap : l.length ≤ c) (hS : Strs w A l) (hsm : sm l) (hT : Tabs w) (hD : allD l = true) (hi0 : 0 ≤ i) (hi1 : i < l.length) :
    Calls Tryz.prog 53 #[.slice A l.length c, .int .i64 i] w fun e w' => ∃ A' c', e = .returned (.tuple #[.slice A' (pt l i.toNat).length c', .int .i64 0]) ∧ (pt l i.toNat).length ≤ c' ∧ Strs w' A' (pt l i.toNat) ∧ (∀ a, A' = some a → w.heap.size ≤ a.block ∧ a.block < w'.heap.size ∧ ∃ cs, w'.heap[a.block]? = some (.cells cs 9 (0, 0))) ∧ Below w.heap.size w w' := by
  obtain ⟨ii, rfl⟩ : ∃ ii : Nat, i = ii := ⟨i.toNat, by omega⟩
  rw [Int.toNat_natCast]
  have hpl : (pt l ii).length ≤ l.length := by rw [pt_len]; have := plen_lt_n l.length ii (by omega); omega
  obtain ⟨P0, hP0⟩ : ∃ P0, pt l ii = P0 := ⟨_, rfl⟩
  have HPL := Lib.hid hpl
  rw [hP0] at HPL ⊢
  have HP0 := Lib.hid hP0
  obtain ⟨ip, hj1, hy0, hy1, hy2⟩ := info_parts info_strg
  have HI := Lib.hid (And.intro hj1 (And.intro hy0 (And.intro hy1 hy2)))
  have HPR := Lib.hid (proper_any A c l w (by omega) hS (fun s hs => by have := hsm s hs; omega))
  rw [hD] at HPR
  have HTOT : Hid (∀ (b off c' : Nat) (l' : List ByteArray) (W : World), Below w.heap.size w W → Strs w (some ⟨b, off, none⟩) l' → sm l' → l'.length ≤ c' → l'.length ≤ 100000 → Calls Tryz.prog 89 #[.slice (some ⟨b, off, none⟩) l'.length c'] W fun e w' => e = .returned (.string (rt l')) ∧ Below W.heap.size W w') :=
    Lib.hid (fun b off c' l' W hW hs hm hc hb => total_any (some ⟨b, off, none⟩) c' l' W (by omega) hc (hs.below hW) hm (hT.below hW))
  obtain ⟨b0, off0, rfl, -⟩ := hS.2 (by omega)
  have HS := Lib.hid hS
  have HSM := Lib.hid hsm
  clear hj1 hy0 hy1 hy2 hD hT hS hsm hP0 hpl
  have HO : Hid (w.ownsRow w.heap.size 9 1 (.slice none 0 0) 0 []) := ⟨rfl, .inl ⟨rfl, rfl⟩⟩
  have hd1 : decide (l.length ≤ ii) = false := decide_eq_false (by omega)
  have hd2 : decide ((ii : Int) < 0) = false := decide_eq_false (by omega)
  go_enter Tryz.func53, Tryz.ntmps53
  go_wp2_with fail
  refine HPR.out.mono ?_
  rintro e w1 ⟨rfl, hb1⟩
  have HB1 := Lib.hid hb1
  have HO1 := Lib.hid (row_below HO.out hb1)
  clear hb1
  go_wp2_with fail
  go_loopw [0, 1, 6] (fun u0 u1 u6 wr => ∃ (b off c' : Nat) (l' : List ByteArray) (i' : Nat) (rest : List ByteArray), u0 = .slice (some ⟨b, off, none⟩) l'.length c' ∧ u1 = .int .i64 i' ∧ i' < l'.length ∧ l'.length ≤ c' ∧ l'.length ≤ 100000 ∧ Strs w (some ⟨b, off, none⟩) l' ∧ sm l' ∧
      P0 = pt l' i' ++ rest ∧ Below w.heap.size w wr ∧ wr.ownsRow w.heap.size 9 1 u6 rest.length (rest.reverse.map Value.string)) (fun u0 _ _ _ => lenV u0)
  case atStart => exact ⟨b0, off0, c, l, ii, [], rfl, rfl, by omega, hcap, hbig, HS.out, HSM.out, by rw [List.append_nil, HP0.out], HB1.out, HO1.out⟩
  case round =>
    obtain ⟨b, off, c', l', i', rest, rfl, rfl, g1, g2, g3, hs', hm', hp', hb', ho'⟩ := hrel
    have HS' := Lib.hid hs'
    have HM' := Lib.hid hm'
    have HP' := Lib.hid hp'
    have HB' := Lib.hid hb'
    have HO' := Lib.hid ho'
    clear hs' hm' hp' hb' ho'
    by_cases h2 : 2 ≤ l'.length
    · obtain ⟨k, hk⟩ : ∃ k, hf l'.length = k := ⟨_, rfl⟩
      have k1 := hf_lt l'.length h2
      have k2 := hf_pos l'.length
      rw [hk] at k1 k2
      have HH := Lib.hid (fun W => half_any l'.length (by omega) W)
      rw [hk] at HH
      by_cases hik : i' < k
      · have hst := pt_lt l' i' h2 (by rw [hk]; exact hik)
        rw [hk] at hst
        have hside := HTOT.out b (off + k) (c' - k) (l'.drop k) wr HB'.out (HS'.out.drop k) (HM'.out.drop k) (by rw [List.length_drop]; omega) (by rw [List.length_drop]; omega)
        rw [List.length_drop] at hside
        have hnl : (l'.take k).length = k := by rw [List.length_take]; omega
        have HSIDE := Lib.hid hside
        have HNL := Lib.hid hnl
        have HSN := Lib.hid (HS'.out.take k)
        have HMN := Lib.hid (HM'.out.take k)
        obtain ⟨x, hx⟩ : ∃ x, rt (l'.drop k) = x := ⟨_, rfl⟩
        rw [hx] at HSIDE hst
        have hp2 : P0 = pt (l'.take k) i' ++ (x :: rest) := by rw [HP'.out, hst, List.append_assoc]; rfl
        have hre : rest.length + 1 ≤ P0.length := by rw [hp2]; simp
        have HP2 := Lib.hid hp2
        have HRE : Hid (rest.length ≤ 100000) := Lib.hid (by have := HPL.out; omega)
        clear hst hside hnl hx hp2 hre
        generalize l'.length = m at *
        have hkm : (k : Int) ≤ (m : Int) := by omega
        have hkc : (k : Int) ≤ (c' : Int) := by omega
        have hck : (c' = k) = False := by simp; omega
        have hyi : (i' : Int) < (k : Int) := by omega
        go_wp2_with fail
        refine (HH.out wr).mono ?_
        rintro e _ ⟨rfl, rfl⟩
        go_wp2_with fail
        refine HSIDE.out.mono ?_
        rintro e w3 ⟨rfl, hb3⟩
        have HB3 := Lib.hid (below_trans HB'.out hb3)
        have HOA : Hid ((w3.alloc (.cells #[.string x] 9)).ownsRow w.heap.size 9 1 u6 rest.length (rest.reverse.map Value.string)) := Lib.hid (row_below (row_below HO'.out hb3) (below_alloc (Below.refl _ _) _))
        clear hb3
        go_wp2_with (at_builtin; refine wpList_app _ rfl (.tmp 30) (.tmp 35) 30 30 rfl w.heap.size 9 9 ip _ 1 16 Tryz.underlying30 Tryz.underlying30 HI.out.1 HI.out.2.1 HI.out.2.2.1 HI.out.2.2.2 rfl (by omega) u6 rest.length _ rfl HOA.out (some ⟨w3.heap.size, 0, none⟩) 1 1 [.string x] rfl (Rd_new w3 #[.string x] _ 1 1 _ rfl rfl) (by simp [Value.oneCell']) (by have := HRE.out; simp only [maxLen]; omega) (by have := HRE.out; omega) (by have := HB3.out.size; simp; omega) ?_)
        intro v6 w4 hown4 hg4
        have HB4 : Hid (Below w.heap.size w w4) := Lib.hid ((below_alloc HB3.out _).grown hg4 (by have := HB3.out.size; simp; omega) (fun j hj => (HOA.out.lt j hj).1))
        have e4 : (rest.map Value.string).reverse ++ [.string x] = (x :: rest).reverse.map Value.string := by simp
        rw [e4] at hown4
        have HO4 := Lib.hid hown4
        clear hown4 hg4 e4
        go_wp2
        go_roundw
        case rel =>
          refine ⟨b, off, c', l'.take k, i', x :: rest, by rw [HNL.out], by go_num, by rw [HNL.out]; omega, by rw [HNL.out]; omega, by rw [HNL.out]; omega, HSN.out, HMN.out, HP2.out, HB4.out, HO4.out⟩
        case measure => simp [lenV]; omega
      · have hst := pt_ge l' i' h2 (by rw [hk]; exact hik)
        rw [hk] at hst
        have hside := HTOT.out b off c' (l'.take k) wr HB'.out (HS'.out.take k) (HM'.out.take k) (by rw [List.length_take]; omega) (by rw [List.length_take]; omega)
        rw [List.length_take, Nat.min_eq_left (by omega)] at hside
        have hnl : (l'.drop k).length = l'.length - k := by rw [List.length_drop]
        have HSIDE := Lib.hid hside
        have HNL := Lib.hid hnl
        have HSN := Lib.hid (HS'.out.drop k)
        have HMN := Lib.hid (HM'.out.drop k)
        obtain ⟨x, hx⟩ : ∃ x, rt (l'.take k) = x := ⟨_, rfl⟩
        rw [hx] at HSIDE hst
        have hp2 : P0 = pt (l'.drop k) (i' - k) ++ (x :: rest) := by rw [HP'.out, hst, List.append_assoc]; rfl
        have hre : rest.length + 1 ≤ P0.length := by rw [hp2]; simp
        have HP2 := Lib.hid hp2
        have HRE : Hid (rest.length ≤ 100000) := Lib.hid (by have := HPL.out; omega)
        clear hst hside hnl hx hp2 hre
        generalize l'.length = m at *
        have hkm : (k : Int) ≤ (m : Int) := by omega
        have hkc : (k : Int) ≤ (c' : Int) := by omega
        have hck : (c' = k) = False := by simp; omega
        have hni : ¬ (i' : Int) < (k : Int) := by omega
        go_wp2_with fail
        refine (HH.out wr).mono ?_
        rintro e _ ⟨rfl, rfl⟩
        go_wp2_with fail
        refine HSIDE.out.mono ?_
        rintro e w3 ⟨rfl, hb3⟩
        have HB3 := Lib.hid (below_trans HB'.out hb3)
        have HOA : Hid ((w3.alloc (.cells #[.string x] 9)).ownsRow w.heap.size 9 1 u6 rest.length (rest.reverse.map Value.string)) := Lib.hid (row_below (row_below HO'.out hb3) (below_alloc (Below.refl _ _) _))
        clear hb3
        go_wp2_with (at_builtin; refine wpList_app _ rfl (.tmp 40) (.tmp 45) 30 30 rfl w.heap.size 9 9 ip _ 1 16 Tryz.underlying30 Tryz.underlying30 HI.out.1 HI.out.2.1 HI.out.2.2.1 HI.out.2.2.2 rfl (by omega) u6 rest.length _ rfl HOA.out (some ⟨w3.heap.size, 0, none⟩) 1 1 [.string x] rfl (Rd_new w3 #[.string x] _ 1 1 _ rfl rfl) (by simp [Value.oneCell']) (by have := HRE.out; simp only [maxLen]; omega) (by have := HRE.out; omega) (by have := HB3.out.size; simp; omega) ?_)
        intro v6 w4 hown4 hg4
        have HB4 : Hid (Below w.heap.size w w4) := Lib.hid ((below_alloc HB3.out _).grown hg4 (by have := HB3.out.size; simp; omega) (fun j hj => (HOA.out.lt j hj).1))
        have e4 : (rest.map Value.string).reverse ++ [.string x] = (x :: rest).reverse.map Value.string := by simp
        rw [e4] at hown4
        have HO4 := Lib.hid hown4
        clear hown4 hg4 e4
        go_wp2
        go_roundw
        case rel =>
          refine ⟨b, (off + k), (c' - k), l'.drop k, (i' - k), x :: rest, by rw [HNL.out], by go_num, by rw [HNL.out]; omega, by rw [HNL.out]; omega, by rw [HNL.out]; omega, HSN.out, HMN.out, HP2.out, HB4.out, HO4.out⟩
        case measure => simp [lenV]; omega
    · have hm1 : l'.length = 1 := by omega
      have hp2 : P0 = rest := by rw [HP'.out, pt_one l' i' h2]; rfl
      obtain rfl := hp2
      have hr := rev_any w.heap.size u6 P0.reverse wr (by rw [List.length_reverse]; exact HO'.out) (by rw [List.length_reverse]; have := HPL.out; omega) HB'.out.size
      rw [List.reverse_reverse, List.length_reverse] at hr
      have HR := Lib.hid hr
      clear hr
      go_wp2_with fail
      refine HR.out.mono ?_
      rintro e w3 ⟨rfl, A', c'', rfl, hc, hs3, ha3, hb3⟩
      have HC := Lib.hid hc
      have HS3 := Lib.hid hs3
      have HA3 := Lib.hid ha3
      have HB3 := Lib.hid (Below.trans HB'.out hb3)
      clear hc hs3 ha3 hb3
      go_wp2
      go_ret2
      exact ⟨A', c'', rfl, HC.out, HS3.out, HA3.out, HB3.out⟩
end

section
open Go.RowKit

set_option maxHeartbeats 1600000 in
theorem rhalf_any (n : Nat) (h : n ≤ 1000000) (w : World) : Calls Tryz.prog 115 #[.int .i64 n] w fun e w' => e = .returned (.int .i64 (hf n)) ∧ w = w' := by
  go_enter Tryz.func115, Tryz.ntmps115
  go_wp2_with fail
  go_loop [3] (fun u => ∃ j k : Nat, k = 2 ^ j ∧ (k < n ∨ j = 0) ∧ u = .int .i64 k) (fun u => n - (intOf u).toNat)
  case atStart => exact ⟨0, 1, rfl, .inr rfl, rfl⟩
  case round =>
    obtain ⟨j, k, hk, hj, rfl⟩ := hrel
    have hk1 : 1 ≤ k := by rw [hk]; exact Nat.one_le_two_pow
    have hk2 : k ≤ 1000000 := by
      rcases hj with h1 | rfl
      · omega
      · simp at hk; omega
    have HK := Lib.hid hk
    have HJ := Lib.hid hj
    clear hk hj
    by_cases hlt : 2 * k < n
    · go_wp2
      go_round
      case rel => exact ⟨j + 1, 2 * k, by rw [HK.out, Nat.pow_succ]; omega, .inl hlt, by go_num⟩
      case measure => simp [intOf]; omega
    · have he : hf n = k := by
        have := hf_eq n j (by rcases HJ.out with h1 | h1; exact .inl (by rw [← HK.out]; exact h1); exact .inr h1) (by rw [← HK.out]; omega)
        rw [this, HK.out]
      have HE := Lib.hid he
      clear he
      go_wp2
      go_ret
      exact ⟨ret_int (by rw [HE.out]), rfl⟩

set_option maxHeartbeats 1600000 in
theorem rnode_any (a b : ByteArray) (ha : a.size ≤ 200) (hb : b.size ≤ 200) (w : World) :
    Calls Tryz.prog 124 #[.string a, .string b] w fun e w' => e = .returned (.string (nd a b)) ∧ Below w.heap.size w w' := by
  obtain ⟨wa, hwa⟩ : ∃ wa, w.alloc (.cells #[.string bNode, .string a, .string b] 9) = wa := ⟨_, rfl⟩
  have HBA : Hid (Below w.heap.size w wa) := Lib.hid (by rw [← hwa]; exact below_alloc (Below.refl _ _) _)
  have HSA : Hid (Strs wa (some ⟨w.heap.size, 0, none⟩) [bNode, a, b]) := Lib.hid (by rw [← hwa]; exact Strs_new _ _ _ _ _ rfl rfl)
  have HWA := Lib.hid hwa
  have HL := Lib.hid (rlist (some ⟨w.heap.size, 0, none⟩) 3 [bNode, a, b] wa HSA.out (by simp) (by
    intro s hs
    simp only [List.mem_cons, List.not_mem_nil, or_false] at hs
    rcases hs with rfl | rfl | rfl
    · decide
    · exact ha
    · exact hb))
  clear hwa
  go_enter Tryz.func124, Tryz.ntmps124
  go_wp2_with fail
  have hwa := HWA.out
  unfold bNode at hwa
  rw [hwa]
  refine HL.out.mono ?_
  rintro e w1 ⟨rfl, hb1⟩
  have HB1 := Lib.hid (below_trans HBA.out hb1)
  clear hb1 hwa
  go_wp2
  go_ret
  exact ⟨rfl, HB1.out⟩

set_option maxHeartbeats 1600000 in
theorem rempty_any (w : World) : Calls Tryz.prog 123 #[] w fun e w' => e = .returned (.string em) ∧ Below w.heap.size w w' := by
  have HL := Lib.hid (rlist (some ⟨w.heap.size, 0, none⟩) 1 [bEmpty] (w.alloc (.cells #[.string bEmpty] 9)) (Strs_new _ _ _ _ _ rfl rfl) (by simp) (by intro s hs; rw [List.mem_singleton.1 hs]; decide))
  unfold bEmpty at HL
  go_enter Tryz.func123, Tryz.ntmps123
  go_wp2_with fail
  refine HL.out.mono ?_
  rintro e w1 ⟨rfl, hb1⟩
  have HB1 := Lib.hid (below_trans (below_alloc (Below.refl _ _) _) hb1)
  clear hb1
  go_wp2
  go_ret
  exact ⟨rfl, HB1.out⟩

set_option maxRecDepth 100000 in
set_option maxHeartbeats 8000000 in
theorem rroot_any (n : Nat) : ∀ (A : Option Addr) (c : Nat) (l : List ByteArray) (w : World), l.length ≤ n → l.length ≤ 100000 → l.length ≤ c → Strs w A l → sm l →
    Calls Tryz.prog 93 #[.slice A l.length c] w fun e w' => e = .returned (.string (rt l)) ∧ Below w.heap.size w w' := by
  induction n with
  | zero =>
    intro A c l w h1 h2 h3 hS hsm
    obtain rfl : l = [] := List.eq_nil_of_length_eq_zero (by omega)
    have HE := Lib.hid (rempty_any w)
    rw [rt_nil]
    clear hS hsm
    go_enter Tryz.func93, Tryz.ntmps93
    go_wp2_with fail
    refine HE.out.mono ?_
    rintro e w1 ⟨rfl, hb1⟩
    have HB1 := Lib.hid hb1
    clear hb1
    go_wp2
    go_ret
    exact ⟨rfl, HB1.out⟩
  | succ n ih =>
    intro A c l w hn hbig hcap hS hsm
    by_cases h2 : 2 ≤ l.length
    · obtain ⟨b, off, rfl, -⟩ := hS.2 (by omega)
      obtain ⟨k, hk⟩ : ∃ k, hf l.length = k := ⟨_, rfl⟩
      have HH := Lib.hid (rhalf_any l.length (by omega) w)
      rw [hk] at HH
      have k1 := hf_lt l.length h2
      have k2 := hf_pos l.length
      rw [hk] at k1 k2
      have hrt := rt_split l k h2 hk
      have hs1 := rt_size _ (hsm.take k)
      have hs2 := rt_size _ (hsm.drop k)
      have H1 : Hid (∀ W, Below w.heap.size w W → Calls Tryz.prog 93 #[.slice (some ⟨b, off, none⟩) k c] W fun e w' => e = .returned (.string (rt (l.take k))) ∧ Below w.heap.size w w') := Lib.hid (fun W hW => by
        have := ih (some ⟨b, off, none⟩) c (l.take k) W (by rw [List.length_take]; omega) (by rw [List.length_take]; omega) (by rw [List.length_take]; omega) ((hS.below hW).take k) (hsm.take k)
        rw [List.length_take, Nat.min_eq_left (by omega)] at this
        exact this.mono fun _ _ ⟨he, hb⟩ => ⟨he, below_trans hW hb⟩)
      have H2 : Hid (∀ W, Below w.heap.size w W → Calls Tryz.prog 93 #[.slice (some ⟨b, off + k, none⟩) (l.length - k) (c - k)] W fun e w' => e = .returned (.string (rt (l.drop k))) ∧ Below w.heap.size w w') := Lib.hid (fun W hW => by
        have := ih (some ⟨b, off + k, none⟩) (c - k) (l.drop k) W (by rw [List.length_drop]; omega) (by rw [List.length_drop]; omega) (by rw [List.length_drop]; omega) ((hS.below hW).drop k) (hsm.drop k)
        rw [List.length_drop] at this
        exact this.mono fun _ _ ⟨he, hb⟩ => ⟨he, below_trans hW hb⟩)
      have H3 : Hid (∀ W, Below w.heap.size w W → Calls Tryz.prog 124 #[.string (rt (l.take k)), .string (rt (l.drop k))] W fun e w' => e = .returned (.string (nd (rt (l.take k)) (rt (l.drop k)))) ∧ Below w.heap.size w w') := Lib.hid (fun W hW => (rnode_any _ _ hs1 hs2 W).mono fun _ _ ⟨he, hb⟩ => ⟨he, below_trans hW hb⟩)
      rw [hrt]
      generalize rt (l.take k) = r1 at *
      generalize rt (l.drop k) = r2 at *
      generalize l.length = m at *
      clear hrt hs1 hs2 hS hsm ih hk h2
      have hne : ((m : Int) == 1) = false := by simp; omega
      have hne0 : ((m : Int) == 0) = false := by simp; omega
      have hkm : (k : Int) ≤ (m : Int) := by omega
      have hkc : (k : Int) ≤ (c : Int) := by omega
      have hck : (c = k) = False := by simp; omega
      go_enter Tryz.func93, Tryz.ntmps93
      go_wp2_with fail
      refine HH.out.mono ?_
      rintro e _ ⟨rfl, rfl⟩
      go_wp2_with fail
      refine wp_region_below (by kernel_rfl) (by kernel_rfl) ?_
      refine wpQuiet_step (fun K hK => ?_)
      go_simp
      apply Exists.intro
      refine ⟨fun W hW => ?_, hK _ ?_⟩
      · (try go_simp
         exact rfl)
      clear hK K
      refine wpQuiet_step (fun K hK => ?_)
      go_simp
      apply Exists.intro
      refine ⟨fun W hW => ?_, hK _ ?_⟩
      · (try go_simp
         exact rfl)
      clear hK K
      refine wpQuiet_step (fun K hK => ?_)
      go_simp
      apply Exists.intro
      refine ⟨fun W hW => ?_, hK _ ?_⟩
      · (try go_simp
         exact rfl)
      clear hK K
      refine wpQuiet_step (fun K hK => ?_)
      go_simp
      apply Exists.intro
      refine ⟨fun W hW => ?_, hK _ ?_⟩
      · exact H1.out W hW
      clear hK K
      refine wpQuiet_step (fun K hK => ?_)
      go_simp
      apply Exists.intro
      refine ⟨fun W hW => ?_, hK _ ?_⟩
      · (try go_simp
         exact rfl)
      clear hK K
      refine wpQuiet_step (fun K hK => ?_)
      go_simp
      apply Exists.intro
      refine ⟨fun W hW => ?_, hK _ ?_⟩
      · (try go_simp
         exact rfl)
      clear hK K
      refine wpQuiet_step (fun K hK => ?_)
      go_simp
      apply Exists.intro
      refine ⟨fun W hW => ?_, hK _ ?_⟩
      · (try go_simp
         exact rfl)
      clear hK K
      refine wpQuiet_step (fun K hK => ?_)
      go_simp
      apply Exists.intro
      refine ⟨fun W hW => ?_, hK _ ?_⟩
      · exact H2.out W hW
      clear hK K
      refine wpQuiet_step (fun K hK => ?_)
      go_simp
      apply Exists.intro
      refine ⟨fun W hW => ?_, hK _ ?_⟩
      · exact H3.out W hW
      clear hK K
      refine wpQuiet_step (fun K hK => ?_)
      go_simp
      apply Exists.intro
      refine ⟨fun W hW => ?_, hK _ ?_⟩
      · (try go_simp
         exact rfl)
      clear hK K
      refine wpQuiet_nil ?_
      intro W hW
      go_wp2
      go_ret
      exact ⟨rfl, hW⟩
    · match l, h2, hS with
      | [], _, _ =>
        have HE := Lib.hid (rempty_any w)
        rw [rt_nil]
        clear hsm ih
        go_enter Tryz.func93, Tryz.ntmps93
        go_wp2_with fail
        refine HE.out.mono ?_
        rintro e w1 ⟨rfl, hb1⟩
        have HB1 := Lib.hid hb1
        clear hb1
        go_wp2
        go_ret
        exact ⟨rfl, HB1.out⟩
      | [x], _, hS =>
        obtain ⟨b, off, rfl, c0⟩ := hS.at_ (k := 0) (x := x) rfl
        have c0l := lt_of_cell c0
        rw [rt_one]
        clear ih hS hsm
        simp only [List.length_singleton, Nat.add_zero] at *
        go_enter Tryz.func93, Tryz.ntmps93
        go_wp2
        go_ret
        exact ⟨rfl, Below.refl _ _⟩
      | x :: y :: l, h2, _ => simp at h2
end

section
open Go.RowKit

theorem own_base {w : World} {B B' e size n : Nat} {v : Value} {xs : List Value} (h : w.ownsRow B e size v n xs) (hb : B' ≤ B) : w.ownsRow B' e size v n xs := by
  refine ⟨h.1, ?_⟩
  rcases h.2 with h1 | ⟨g, cap, cur, e1, e2, e3⟩
  · exact .inl h1
  · exact .inr ⟨g, cap, cur, e1, Nat.le_trans hb e2, e3⟩

theorem ptx_len (n i : Nat) (s : ByteArray) (p : List ByteArray) : (ptx n i s p).length = plen n i := by
  induction n using Nat.strongRecOn generalizing i p with
  | _ n ih =>
    by_cases h2 : 2 ≤ n
    · have k1 := hf_lt n h2
      have k2 := hf_pos n
      by_cases hi : i < hf n
      · rw [ptx_lt n i s p h2 hi, plen_lt n i h2 hi, List.length_append, List.length_singleton, ih (hf n) k1]; omega
      · rw [ptx_ge n i s p h2 hi, plen_ge n i h2 hi, List.length_append, List.length_singleton, ih (n - hf n) (by omega)]; omega
    · rw [ptx_one n i s p h2, plen_one n i h2]; rfl

theorem rjoin3 (a b : ByteArray) (ha : a.size ≤ 200) (hb : b.size ≤ 200) (W : World) :
    Calls Tryz.prog 72 #[.slice (some ⟨W.heap.size, 0, none⟩) 3 3] (W.alloc (.cells #[.string ⟨#[110, 111, 100, 101]⟩, .string a, .string b] 9)) fun e w' => e = .returned (.string (jb [bNode, a, b])) ∧ Below W.heap.size W w' := by
  have := rjoined (some ⟨W.heap.size, 0, none⟩) 3 [bNode, a, b] (W.alloc (.cells #[.string ⟨#[110, 111, 100, 101]⟩, .string a, .string b] 9)) (Strs_new _ _ _ _ _ rfl rfl) (by simp) (by
    intro s hs
    simp only [List.mem_cons, List.not_mem_nil, or_false] at hs
    rcases hs with rfl | rfl | rfl
    · decide
    · exact ha
    · exact hb)
  exact this.mono fun _ _ ⟨he, hb⟩ => ⟨he, below_trans (below_alloc (Below.refl _ _) _) hb⟩

theorem last_parts (p : List ByteArray) (h : 1 ≤ p.length) (hsm : sm p) : ∃ m x, p.length = m + 1 ∧ p[m]? = some x ∧ p.getLastD ByteArray.empty = x ∧ p.dropLast.length = m ∧ x.size ≤ 200 := by
  obtain ⟨m, hm⟩ : ∃ m, p.length = m + 1 := ⟨p.length - 1, by omega⟩
  obtain ⟨x, hx⟩ := get_some p m (by omega)
  refine ⟨m, x, hm, hx, ?_, by rw [List.length_dropLast, hm]; rfl, hsm x (List.mem_of_getElem? hx)⟩
  rw [List.getLastD_eq_getLast?, List.getLast?_eq_getElem?, hm]
  simp only [Nat.add_sub_cancel, hx, Option.getD_some]

set_option maxRecDepth 100000 in
set_option maxHeartbeats 16000000 in
theorem rup_any (q : Nat) : ∀ (n i : Nat) (s : ByteArray) (A : Option Addr) (c : Nat) (p : List ByteArray) (w : World), n ≤ q → 1 ≤ n → n ≤ 1000000 → i < n → p.length = plen n i → p.length ≤ c → Strs w A p → sm p → s.size ≤ 200 →
    Calls Tryz.prog 114 #[.int .i64 n, .int .i64 i, .string s, .slice A p.length c] w fun e w' => e = .returned (.string (upv n i s p)) ∧ Below w.heap.size w w' := by
  induction q with
  | zero => intro n i s A c p w h1 h2; omega
  | succ q ih =>
    intro n i s A c p w hn h1 hbig hi hpl hcap hS hsm hs
    by_cases h2 : 2 ≤ n
    · have k1 := hf_lt n h2
      have k2 := hf_pos n
      have hpn := plen_lt_n n i h1
      obtain ⟨m, x, hm, hx, hlast, hdl, hxs⟩ := last_parts p (by have := plen_zero n i; omega) hsm
      obtain ⟨b, off, rfl, c1⟩ := hS.at_ hx
      have c1l := lt_of_cell c1
      have HC1 : Hid (∀ W, Below w.heap.size w W → W.cell? ⟨b, off + m, none⟩ = some (.string x)) := Lib.hid (fun W hW => kept_cell hW c1)
      have HU : Hid (∀ (n' i' : Nat) (W : World), n' < n → 1 ≤ n' → i' < n' → m = plen n' i' → Below w.heap.size w W → Calls Tryz.prog 114 #[.int .i64 n', .int .i64 i', .string s, .slice (some ⟨b, off, none⟩) m c] W fun e w' => e = .returned (.string (upv n' i' s p.dropLast)) ∧ Below W.heap.size W w') := Lib.hid (fun n' i' W g1 g2 g4 g5 hW => by
        have := ih n' i' s (some ⟨b, off, none⟩) c p.dropLast W (by omega) g2 (by omega) g4 (by rw [hdl]; exact g5) (by rw [hdl]; omega) (by rw [List.dropLast_eq_take]; exact (hS.below hW).take _) (by rw [List.dropLast_eq_take]; exact hsm.take _) hs
        rw [hdl] at this
        exact this)
      have HND : Hid (∀ (a b : ByteArray) (W : World), a.size ≤ 200 → b.size ≤ 200 → Below w.heap.size w W → Calls Tryz.prog 124 #[.string a, .string b] W fun e w' => e = .returned (.string (nd a b)) ∧ Below W.heap.size W w') := Lib.hid (fun a b W ha hb _ => rnode_any a b ha hb W)
      obtain ⟨k, hk⟩ : ∃ k, hf n = k := ⟨_, rfl⟩
      have HH := Lib.hid (rhalf_any n hbig w)
      rw [hk] at HH
      have hwr : IntKind.i64.wrap (((m + 1 : Nat) : Int) - 1) = (m : Int) := by rw [IntWalk.i64_in _ (by omega)]; omega
      have hn1 : ((n : Int) == 1) = false := by simp; omega
      have hn10 : (n == 1) = false := by simp; omega
      by_cases hik : i < hf n
      · have hst := upv_lt n i s p h2 hik
        rw [hlast] at hst
        have hpp := plen_lt n i h2 hik
        rw [hk] at hst hpp hik k1 k2
        rw [hst, hm]
        have hus := upv_size k i s p.dropLast hs
        have HUP : Hid (∀ (W : World), Below w.heap.size w W → Calls Tryz.prog 114 #[.int .i64 (k : Nat), .int .i64 (i : Nat), .string s, .slice (some ⟨b, off, none⟩) m c] W fun e w' => e = .returned (.string (upv k i s p.dropLast)) ∧ Below W.heap.size W w') := Lib.hid (fun W hW => HU.out k i W (by omega) (by omega) (by omega) (by omega) hW)
        have c1' := c1
        have HUS := Lib.hid hus
        have HXS := Lib.hid hxs
        generalize upv k i s p.dropLast = u at *
        clear hst hpp hlast hdl hx hS hsm hk h2 HU hus hxs hs hpl ih hpn c1
        rw [hm] at hcap
        clear hm
        generalize hK : m + 1 = K at *
        have hmK : m < K := by omega
        have hmc : (m : Int) ≤ (c : Int) := by omega
        have hmm : (m : Int) ≤ (K : Int) := by omega
        have hyi : (i : Int) < (k : Int) := by omega
        go_enter Tryz.func114, Tryz.ntmps114
        go_wp2_with fail
        refine HH.out.mono ?_
        rintro e _ ⟨rfl, rfl⟩
        go_wp2_with fail
        refine (HUP.out w (Below.refl _ _)).mono ?_
        rintro e w1 ⟨rfl, hb1⟩
        have HB1 := Lib.hid hb1
        clear hb1
        go_wp2_with fail
        refine (HND.out u x w1 HUS.out HXS.out HB1.out).mono ?_
        rintro e w2 ⟨rfl, hb2⟩
        have HB2 := Lib.hid (below_trans HB1.out hb2)
        clear hb2
        go_wp2
        go_ret
        exact ⟨rfl, HB2.out⟩
      · have hst := upv_ge n i s p h2 hik
        rw [hlast] at hst
        have hpp := plen_ge n i h2 hik
        rw [hk] at hst hpp hik k1 k2
        rw [hst, hm]
        have hus := upv_size (n - k) (i - k) s p.dropLast hs
        have HUP : Hid (∀ (W : World), Below w.heap.size w W → Calls Tryz.prog 114 #[.int .i64 ((n - k) : Nat), .int .i64 ((i - k) : Nat), .string s, .slice (some ⟨b, off, none⟩) m c] W fun e w' => e = .returned (.string (upv (n - k) (i - k) s p.dropLast)) ∧ Below W.heap.size W w') := Lib.hid (fun W hW => HU.out (n - k) (i - k) W (by omega) (by omega) (by omega) (by omega) hW)
        have c1' := c1
        have HUS := Lib.hid hus
        have HXS := Lib.hid hxs
        generalize upv (n - k) (i - k) s p.dropLast = u at *
        clear hst hpp hlast hdl hx hS hsm hk h2 HU hus hxs hs hpl ih hpn c1
        rw [hm] at hcap
        clear hm
        generalize hK : m + 1 = K at *
        have hmK : m < K := by omega
        have hmc : (m : Int) ≤ (c : Int) := by omega
        have hmm : (m : Int) ≤ (K : Int) := by omega
        have hni : ¬ (i : Int) < (k : Int) := by omega
        have e1 : (n : Int) - (k : Int) = ((n - k : Nat) : Int) := by omega
        have e2 : (i : Int) - (k : Int) = ((i - k : Nat) : Int) := by omega
        have HE1 := Lib.hid e1
        have HE2 := Lib.hid e2
        clear e1 e2
        go_enter Tryz.func114, Tryz.ntmps114
        go_wp2_with fail
        refine HH.out.mono ?_
        rintro e _ ⟨rfl, rfl⟩
        go_wp2_with fail
        rw [HE1.out, HE2.out]
        refine (HUP.out w (Below.refl _ _)).mono ?_
        rintro e w1 ⟨rfl, hb1⟩
        have HB1 := Lib.hid hb1
        clear hb1
        go_wp2_with fail
        refine (HND.out x u w1 HXS.out HUS.out HB1.out).mono ?_
        rintro e w2 ⟨rfl, hb2⟩
        have HB2 := Lib.hid (below_trans HB1.out hb2)
        clear hb2
        go_wp2
        go_ret
        exact ⟨rfl, HB2.out⟩
    · obtain rfl : n = 1 := by omega
      rw [upv_one 1 i s p (by omega)]
      clear ih hS hsm
      go_enter Tryz.func114, Tryz.ntmps114
      go_wp2
      go_ret
      exact ⟨rfl, Below.refl _ _⟩

set_option maxRecDepth 100000 in
set_option maxHeartbeats 16000000 in
theorem rptx_any (q : Nat) : ∀ (n i : Nat) (s : ByteArray) (A : Option Addr) (c : Nat) (p : List ByteArray) (w : World), n ≤ q → 1 ≤ n → n ≤ 1000000 → i < n → p.length = plen n i → p.length ≤ c → Strs w A p → sm p → s.size ≤ 200 →
    Calls Tryz.prog 74 #[.int .i64 n, .int .i64 i, .string s, .slice A p.length c] w fun e w' => ∃ v, e = .returned v ∧ w'.ownsRow w.heap.size 9 1 v (ptx n i s p).length ((ptx n i s p).map Value.string) ∧ Below w.heap.size w w' := by
  induction q with
  | zero => intro n i s A c p w h1 h2; omega
  | succ q ih =>
    intro n i s A c p w hn h1 hbig hi hpl hcap hS hsm hs
    by_cases h2 : 2 ≤ n
    · have k1 := hf_lt n h2
      have k2 := hf_pos n
      have hpn := plen_lt_n n i h1
      obtain ⟨m, x, hm, hx, hlast, hdl, hxs⟩ := last_parts p (by have := plen_zero n i; omega) hsm
      obtain ⟨b, off, rfl, c1⟩ := hS.at_ hx
      have c1l := lt_of_cell c1
      have HC1 : Hid (∀ W, Below w.heap.size w W → W.cell? ⟨b, off + m, none⟩ = some (.string x)) := Lib.hid (fun W hW => kept_cell hW c1)
      have HU : Hid (∀ (n' i' : Nat) (W : World), n' < n → 1 ≤ n' → i' < n' → m = plen n' i' → Below w.heap.size w W → Calls Tryz.prog 114 #[.int .i64 n', .int .i64 i', .string s, .slice (some ⟨b, off, none⟩) m c] W fun e w' => e = .returned (.string (upv n' i' s p.dropLast)) ∧ Below W.heap.size W w') := Lib.hid (fun n' i' W g1 g2 g4 g5 hW => by
        have := rup_any q n' i' s (some ⟨b, off, none⟩) c p.dropLast W (by omega) g2 (by omega) g4 (by rw [hdl]; exact g5) (by rw [hdl]; omega) (by rw [List.dropLast_eq_take]; exact (hS.below hW).take _) (by rw [List.dropLast_eq_take]; exact hsm.take _) hs
        rw [hdl] at this
        exact this)
      have HP : Hid (∀ (n' i' : Nat), n' < n → 1 ≤ n' → i' < n' → m = plen n' i' → Calls Tryz.prog 74 #[.int .i64 n', .int .i64 i', .string s, .slice (some ⟨b, off, none⟩) m c] w fun e w' => ∃ v, e = .returned v ∧ w'.ownsRow w.heap.size 9 1 v (ptx n' i' s p.dropLast).length ((ptx n' i' s p.dropLast).map Value.string) ∧ Below w.heap.size w w') := Lib.hid (fun n' i' g1 g2 g4 g5 => by
        have := ih n' i' s (some ⟨b, off, none⟩) c p.dropLast w (by omega) g2 (by omega) g4 (by rw [hdl]; exact g5) (by rw [hdl]; omega) (by rw [List.dropLast_eq_take]; exact hS.take _) (by rw [List.dropLast_eq_take]; exact hsm.take _) hs
        rw [hdl] at this
        exact this)
      have HND : Hid (∀ (a b : ByteArray) (W : World), a.size ≤ 200 → b.size ≤ 200 → Below w.heap.size w W → Calls Tryz.prog 124 #[.string a, .string b] W fun e w' => e = .returned (.string (nd a b)) ∧ Below W.heap.size W w') := Lib.hid (fun a b W ha hb _ => rnode_any a b ha hb W)
      obtain ⟨k, hk⟩ : ∃ k, hf n = k := ⟨_, rfl⟩
      have HH := Lib.hid (rhalf_any n hbig w)
      rw [hk] at HH
      have hwr : IntKind.i64.wrap (((m + 1 : Nat) : Int) - 1) = (m : Int) := by rw [IntWalk.i64_in _ (by omega)]; omega
      have hn1 : ((n : Int) == 1) = false := by simp; omega
      have hn10 : (n == 1) = false := by simp; omega
      by_cases hik : i < hf n
      · have hst := ptx_lt n i s p h2 hik
        rw [hlast] at hst
        have hpp := plen_lt n i h2 hik
        rw [hk] at hst hpp hik k1 k2
        rw [hst, hm]
        have hus := upv_size k i s p.dropLast hs
        have HUP : Hid (∀ (W : World), Below w.heap.size w W → Calls Tryz.prog 114 #[.int .i64 (k : Nat), .int .i64 (i : Nat), .string s, .slice (some ⟨b, off, none⟩) m c] W fun e w' => e = .returned (.string (upv k i s p.dropLast)) ∧ Below W.heap.size W w') := Lib.hid (fun W hW => HU.out k i W (by omega) (by omega) (by omega) (by omega) hW)
        have HPT := Lib.hid (HP.out k i (by omega) (by omega) (by omega) (by omega))
        have htl : (ptx k i s p.dropLast).length ≤ 1000000 := by rw [ptx_len]; omega
        have HTL := Lib.hid htl
        obtain ⟨ip, hj1, hy0, hy1, hy2⟩ := info_parts info_strg
        have HI := Lib.hid (And.intro hj1 (And.intro hy0 (And.intro hy1 hy2)))
        clear hj1 hy0 hy1 hy2 htl
        generalize ptx k i s p.dropLast = T at *
        have HJ : Hid (∀ W : World, Below w.heap.size w W → Calls Tryz.prog 72 #[.slice (some ⟨W.heap.size, 0, none⟩) 3 3] (W.alloc (.cells #[.string ⟨#[110, 111, 100, 101]⟩, .string (upv k i s p.dropLast), .string x] 9)) fun e w' => e = .returned (.string (jb [bNode, (upv k i s p.dropLast), x])) ∧ Below W.heap.size W w') := Lib.hid (fun W _ => rjoin3 _ x hus hxs W)
        have c1' := c1
        have HUS := Lib.hid hus
        have HXS := Lib.hid hxs
        generalize upv k i s p.dropLast = u at *
        generalize jb [bNode, u, x] = y at *
        clear hst hpp hlast hdl hx hS hsm hk h2 HU hus hxs hs hpl ih hpn c1 HP
        rw [hm] at hcap
        clear hm
        generalize hK : m + 1 = K at *
        have hmK : m < K := by omega
        have hmc : (m : Int) ≤ (c : Int) := by omega
        have hmm : (m : Int) ≤ (K : Int) := by omega
        have hyi : (i : Int) < (k : Int) := by omega
        go_enter Tryz.func74, Tryz.ntmps74
        go_wp2_with fail
        refine HH.out.mono ?_
        rintro e _ ⟨rfl, rfl⟩
        go_wp2_with fail
        refine HPT.out.mono ?_
        rintro e w1 ⟨v1, rfl, ho1, hb1⟩
        have HO1 := Lib.hid ho1
        have HB1 := Lib.hid hb1
        clear ho1
        go_wp2_with fail
        refine (HUP.out w1 HB1.out).mono ?_
        rintro e w2 ⟨rfl, hb2⟩
        have HB2 := Lib.hid (below_trans HB1.out hb2)
        have HO2 := Lib.hid (row_below HO1.out hb2)
        clear hb2
        go_wp2_with fail
        refine (HJ.out w2 HB2.out).mono ?_
        rintro e w3 ⟨rfl, hb3⟩
        have HB3 := Lib.hid (below_trans HB2.out hb3)
        have HO3 : Hid ((w3.alloc (.cells #[.string y] 9)).ownsRow w.heap.size 9 1 v1 T.length (T.map Value.string)) := Lib.hid (row_below (row_below HO2.out hb3) (below_alloc (Below.refl _ _) _))
        clear hb3
        go_wp2_with (at_builtin; refine wpList_app _ rfl (.tmp 34) (.tmp 43) 30 30 rfl w.heap.size 9 9 ip _ 1 16 Tryz.underlying30 Tryz.underlying30 HI.out.1 HI.out.2.1 HI.out.2.2.1 HI.out.2.2.2 rfl (by omega) v1 T.length _ rfl HO3.out (some ⟨w3.heap.size, 0, none⟩) 1 1 [.string y] rfl (Rd_new w3 #[.string y] _ 1 1 _ rfl rfl) (by simp [Value.oneCell']) (by have := HTL.out; simp only [maxLen]; omega) (by have := HTL.out; omega) (by have := HB3.out.size; simp; omega) ?_)
        intro v4 w4 hown4 hg4
        have HB4 : Hid (Below w.heap.size w w4) := Lib.hid ((below_alloc HB3.out _).grown hg4 (by have := HB3.out.size; simp; omega) (fun j hj => (HO3.out.lt j hj).1))
        have HO4 := Lib.hid hown4
        clear hown4 hg4
        go_wp2
        go_ret
        refine ⟨v4, rfl, ?_, HB4.out⟩
        have := HO4.out
        simpa using this
      · have hst := ptx_ge n i s p h2 hik
        rw [hlast] at hst
        have hpp := plen_ge n i h2 hik
        rw [hk] at hst hpp hik k1 k2
        rw [hst, hm]
        have hus := upv_size (n - k) (i - k) s p.dropLast hs
        have HUP : Hid (∀ (W : World), Below w.heap.size w W → Calls Tryz.prog 114 #[.int .i64 ((n - k) : Nat), .int .i64 ((i - k) : Nat), .string s, .slice (some ⟨b, off, none⟩) m c] W fun e w' => e = .returned (.string (upv (n - k) (i - k) s p.dropLast)) ∧ Below W.heap.size W w') := Lib.hid (fun W hW => HU.out (n - k) (i - k) W (by omega) (by omega) (by omega) (by omega) hW)
        have HPT := Lib.hid (HP.out (n - k) (i - k) (by omega) (by omega) (by omega) (by omega))
        have htl : (ptx (n - k) (i - k) s p.dropLast).length ≤ 1000000 := by rw [ptx_len]; omega
        have HTL := Lib.hid htl
        obtain ⟨ip, hj1, hy0, hy1, hy2⟩ := info_parts info_strg
        have HI := Lib.hid (And.intro hj1 (And.intro hy0 (And.intro hy1 hy2)))
        clear hj1 hy0 hy1 hy2 htl
        generalize ptx (n - k) (i - k) s p.dropLast = T at *
        have HJ : Hid (∀ W : World, Below w.heap.size w W → Calls Tryz.prog 72 #[.slice (some ⟨W.heap.size, 0, none⟩) 3 3] (W.alloc (.cells #[.string ⟨#[110, 111, 100, 101]⟩, .string x, .string (upv (n - k) (i - k) s p.dropLast)] 9)) fun e w' => e = .returned (.string (jb [bNode, x, (upv (n - k) (i - k) s p.dropLast)])) ∧ Below W.heap.size W w') := Lib.hid (fun W _ => rjoin3 x _ hxs hus W)
        have c1' := c1
        have HUS := Lib.hid hus
        have HXS := Lib.hid hxs
        generalize upv (n - k) (i - k) s p.dropLast = u at *
        generalize jb [bNode, x, u] = y at *
        clear hst hpp hlast hdl hx hS hsm hk h2 HU hus hxs hs hpl ih hpn c1 HP
        rw [hm] at hcap
        clear hm
        generalize hK : m + 1 = K at *
        have hmK : m < K := by omega
        have hmc : (m : Int) ≤ (c : Int) := by omega
        have hmm : (m : Int) ≤ (K : Int) := by omega
        have hni : ¬ (i : Int) < (k : Int) := by omega
        have e1 : (n : Int) - (k : Int) = ((n - k : Nat) : Int) := by omega
        have e2 : (i : Int) - (k : Int) = ((i - k : Nat) : Int) := by omega
        have HE1 := Lib.hid e1
        have HE2 := Lib.hid e2
        clear e1 e2
        go_enter Tryz.func74, Tryz.ntmps74
        go_wp2_with fail
        refine HH.out.mono ?_
        rintro e _ ⟨rfl, rfl⟩
        go_wp2_with fail
        rw [HE1.out, HE2.out]
        refine HPT.out.mono ?_
        rintro e w1 ⟨v1, rfl, ho1, hb1⟩
        have HO1 := Lib.hid ho1
        have HB1 := Lib.hid hb1
        clear ho1
        go_wp2_with fail
        rw [HE1.out, HE2.out]
        refine (HUP.out w1 HB1.out).mono ?_
        rintro e w2 ⟨rfl, hb2⟩
        have HB2 := Lib.hid (below_trans HB1.out hb2)
        have HO2 := Lib.hid (row_below HO1.out hb2)
        clear hb2
        go_wp2_with fail
        refine (HJ.out w2 HB2.out).mono ?_
        rintro e w3 ⟨rfl, hb3⟩
        have HB3 := Lib.hid (below_trans HB2.out hb3)
        have HO3 : Hid ((w3.alloc (.cells #[.string y] 9)).ownsRow w.heap.size 9 1 v1 T.length (T.map Value.string)) := Lib.hid (row_below (row_below HO2.out hb3) (below_alloc (Below.refl _ _) _))
        clear hb3
        go_wp2_with (at_builtin; refine wpList_app _ rfl (.tmp 53) (.tmp 66) 30 30 rfl w.heap.size 9 9 ip _ 1 16 Tryz.underlying30 Tryz.underlying30 HI.out.1 HI.out.2.1 HI.out.2.2.1 HI.out.2.2.2 rfl (by omega) v1 T.length _ rfl HO3.out (some ⟨w3.heap.size, 0, none⟩) 1 1 [.string y] rfl (Rd_new w3 #[.string y] _ 1 1 _ rfl rfl) (by simp [Value.oneCell']) (by have := HTL.out; simp only [maxLen]; omega) (by have := HTL.out; omega) (by have := HB3.out.size; simp; omega) ?_)
        intro v4 w4 hown4 hg4
        have HB4 : Hid (Below w.heap.size w w4) := Lib.hid ((below_alloc HB3.out _).grown hg4 (by have := HB3.out.size; simp; omega) (fun j hj => (HO3.out.lt j hj).1))
        have HO4 := Lib.hid hown4
        clear hown4 hg4
        go_wp2
        go_ret
        refine ⟨v4, rfl, ?_, HB4.out⟩
        have := HO4.out
        simpa using this
    · obtain rfl : n = 1 := by omega
      rw [ptx_one 1 i s p (by omega)]
      clear ih hS hsm
      go_enter Tryz.func74, Tryz.ntmps74
      go_wp2
      go_ret
      exact ⟨_, rfl, ⟨rfl, .inl ⟨rfl, rfl⟩⟩, Below.refl _ _⟩
end

section
open Go.RowKit

def QStep (WQ : Program → Array Oper → (World → Prop) → (Act → Prop) → List Oper → Act → Prop) : Prop :=
  ∀ (P : Program) (ops : Array Oper) (C : World → Prop) (Q : Act → Prop) (a : Act) (o : Oper) (rest : List Oper),
    (∀ K : Act → Prop, (∀ a, WQ P ops C Q rest a → K a) → if Region.wanted o (yielded ops a.tmps) then o.quiet P a C K else K (a.put o.dst undef)) → WQ P ops C Q (o :: rest) a
def QNil (WQ : Program → Array Oper → (World → Prop) → (Act → Prop) → List Oper → Act → Prop) : Prop :=
  ∀ (P : Program) (ops : Array Oper) (C : World → Prop) (Q : Act → Prop) (a : Act), Q a → WQ P ops C Q [] a

theorem QStep.go {WQ : Program → Array Oper → (World → Prop) → (Act → Prop) → List Oper → Act → Prop} (h : QStep WQ) {P : Program} {ops : Array Oper} {C : World → Prop} {Q : Act → Prop} {a : Act} {o : Oper} {rest : List Oper}
    (hk : ∀ K : Act → Prop, (∀ a, WQ P ops C Q rest a → K a) → if Region.wanted o (yielded ops a.tmps) then o.quiet P a C K else K (a.put o.dst undef)) : WQ P ops C Q (o :: rest) a := h P ops C Q a o rest hk
theorem QNil.go {WQ : Program → Array Oper → (World → Prop) → (Act → Prop) → List Oper → Act → Prop} (h : QNil WQ) {P : Program} {ops : Array Oper} {C : World → Prop} {Q : Act → Prop} {a : Act} (hq : Q a) : WQ P ops C Q [] a := h P ops C Q a hq

theorem wp_region_belowC {P : Program} {id : Nat} {Q : Exit → Act → World → Prop} {a : Act} {w : World} {l : List Oper} (hm : P.follows .mixedOrders = true) (hB : Region.lexB .any l.toArray = true)
    (h : ∀ WQ, QStep WQ → QNil WQ → WQ P l.toArray (fun W => Below w.heap.size w W) (fun a' => ∀ W, Below w.heap.size w W → Q .normal a' W) l a) : (Code.region id l.toArray true).wp P Q a w :=
  wp_region_below hm hB (h wpQuiet (fun _ _ _ _ _ _ _ hk => wpQuiet_step hk) (fun _ _ _ _ _ hq => wpQuiet_nil hq))
end

section
open Go.RowKit

theorem wpList_appG {P : Program} (w : World) {ops : Array Oper} {rest : List Oper} {o : Oper} {a : Act} {Q : Exit → Act → World → Prop} (hw : Region.wanted o (yielded ops a.tmps) = true) (s x : Operand) (t t2 : TypeId)
    (ho : o.op = .call { callee := .builtin .append, args := #[s, x], argTypes := #[t, t2] })
    (base : Nat) (e e2 : TypeId) (i : TypeInfo) (z : Value) (size bytes : Nat) (ht : P.underlying t = some (.slice e)) (ht2 : P.underlying t2 = some (.slice e2)) (hi : P.info? e = some i) (hz : i.zero = some z)
    (hsize : i.size = size) (hby : i.bytes = bytes) (hzs : z.cells.size = size) (hsz : 0 < size)
    (v : Value) (n : Nat) (xs : List Value) (hs : a.eval s = v) (hown : w.ownsRow base e size v n xs)
    (A : Option Addr) (m c : Nat) (news : List Value) (hx : a.eval x = .slice A m c) (hr : Rd w size A m news) (h1 : ∀ u ∈ news, u.oneCell' = true)
    (h63 : n + m ≤ maxLen) (hbytes : (n + m) * bytes ≤ 140737488355328) (hbase : base ≤ w.heap.size)
    (h : ∀ v' w', w'.ownsRow base e size v' (n + m) (xs ++ news) → w.grownBy w' v.ownBlock → wpList P ops Q rest (a.put o.dst v') w') : wpList P ops Q (o :: rest) a w := by
  refine wpList_step fun K hK => ?_
  rw [if_pos hw]
  obtain ⟨v', w', hrun, h2, h3⟩ := run_app (P := P) w base t t2 o.type e e2 i z size bytes ht ht2 hi hz hsize hby hzs hsz v n xs hown A m c news hr h1 h63 hbytes hbase
  unfold Oper.wp execOp
  simp only [ho, resolve, invoke, builtin, Sem.run_bind, Sem.run_pure, Result.andThen_ok, List.map_toArray, List.map_cons, List.map_nil, hs, hx, hrun]
  exact hK _ _ (h v' w' h2 h3)

theorem jb_small (a b : ByteArray) (ha : a.size ≤ 200) (hb : b.size ≤ 200) : (jb [bNode, a, b]).size ≤ 1000000000 := by
  have := jb3 bNode a b (by decide) ha hb
  show ((jn [bNode, a, b]).toArray).size ≤ 1000000000
  simp; omega

theorem txt_small (l : List ByteArray) (h : sm l) : ∀ s ∈ txt l, s.size ≤ 1000000000 := by
  obtain ⟨n, hn⟩ : ∃ n, l.length = n := ⟨_, rfl⟩
  induction n using Nat.strongRecOn generalizing l with
  | _ n ih =>
    by_cases h2 : 2 ≤ l.length
    · have k1 := hf_lt l.length h2
      have k2 := hf_pos l.length
      rw [txt_two l h2]
      intro s hs
      rcases List.mem_append.1 hs with h3 | h3
      · rcases List.mem_append.1 h3 with h4 | h4
        · exact ih (hf l.length) (by omega) _ (h.take _) (by rw [List.length_take]; omega) s h4
        · exact ih (l.length - hf l.length) (by omega) _ (h.drop _) (by rw [List.length_drop]) s h4
      · rw [List.mem_singleton.1 h3]
        exact jb_small _ _ (rt_size _ (h.take _)) (rt_size _ (h.drop _))
    · match l, h2 with
      | [], _ =>
        rw [txt_nil]
        intro s hs
        rw [List.mem_singleton.1 hs]
        have := jn_few [bEmpty] (by intro s hs; rw [List.mem_singleton.1 hs]; decide)
        show ((jn [bEmpty]).toArray).size ≤ 1000000000
        simp at this ⊢; omega
      | [x], _ => rw [txt_one]; intro s hs; cases hs
      | x :: y :: l, h2 => simp at h2

theorem ptx_small (n i : Nat) (s : ByteArray) (p : List ByteArray) (hp : allD p = true) (hs : s.size ≤ 200) : ∀ t ∈ ptx n i s p, t.size ≤ 1000000000 := by
  induction n using Nat.strongRecOn generalizing i p with
  | _ n ih =>
    by_cases h2 : 2 ≤ n
    · have k1 := hf_lt n h2
      have k2 := hf_pos n
      have hd : allD p.dropLast = true := by rw [List.dropLast_eq_take]; exact allD_take hp _
      intro t ht
      by_cases hi : i < hf n
      · rw [ptx_lt n i s p h2 hi] at ht
        rcases List.mem_append.1 ht with h3 | h3
        · exact ih (hf n) k1 i p.dropLast hd t h3
        · rw [List.mem_singleton.1 h3]; exact jb_small _ _ (upv_size _ _ _ _ hs) (getLastD_size p hp)
      · rw [ptx_ge n i s p h2 hi] at ht
        rcases List.mem_append.1 ht with h3 | h3
        · exact ih (n - hf n) (by omega) (i - hf n) p.dropLast hd t h3
        · rw [List.mem_singleton.1 h3]; exact jb_small _ _ (getLastD_size p hp) (upv_size _ _ _ _ hs)
    · rw [ptx_one n i s p h2]; intro t ht; cases ht

theorem chk_parts {root : ByteArray} {n i : Nat} {s : ByteArray} {p : List ByteArray} (h : chkB root (n : Int) (i : Int) s p = true) : allD p = true ∧ upv n i s p = root ∧ p.length = plen n i := by
  unfold chkB at h
  simp only [Bool.and_eq_true, decide_eq_true_eq, Int.toNat_natCast] at h
  exact ⟨h.1.1.2, h.2.1, h.2.2⟩

theorem allD_pt (l : List ByteArray) (i : Nat) (h : allD l = true) : allD (pt l i) = true := by
  obtain ⟨n, hn⟩ : ∃ n, l.length = n := ⟨_, rfl⟩
  induction n using Nat.strongRecOn generalizing l i with
  | _ n ih =>
    by_cases h2 : 2 ≤ l.length
    · have k1 := hf_lt l.length h2
      have k2 := hf_pos l.length
      by_cases hi : i < hf l.length
      · rw [pt_lt l i h2 hi]
        have h1 := ih _ (by rw [List.length_take]; omega) (l.take (hf l.length)) i (allD_take h _) rfl
        have h3 := isD_rt _ (allD_drop h (hf l.length))
        simp only [allD, List.all_append, Bool.and_eq_true] at h1 ⊢
        exact ⟨h1, by simp [h3]⟩
      · rw [pt_ge l i h2 hi]
        have h1 := ih _ (by rw [List.length_drop]; omega) (l.drop (hf l.length)) (i - hf l.length) (allD_drop h _) rfl
        have h3 := isD_rt _ (allD_take h (hf l.length))
        simp only [allD, List.all_append, Bool.and_eq_true] at h1 ⊢
        exact ⟨h1, by simp [h3]⟩
    · rw [pt_one l i h2]; rfl

theorem incl_yes (l : List ByteArray) (i : Nat) (s : ByteArray) (hD : allD l = true) (hs : l[i]? = some s) (hn : l.length ≤ 1000000) : chkB (rt l) (l.length : Int) (i : Int) s (pt l i) = true := by
  have hi : i < l.length := (List.getElem?_eq_some_iff.1 hs).1
  have hm : s ∈ l := List.mem_of_getElem? hs
  have hds : isD s = true := by simp only [allD, List.all_eq_true] at hD; exact hD s hm
  unfold chkB
  have h1 : ((l.length : Int) ≤ 1000000 ∧ (0 : Int) ≤ (i : Int) ∧ (i : Int) < (l.length : Int)) := by omega
  rw [decide_eq_true h1, allD_pt l i hD, hds, Int.toNat_natCast, Int.toNat_natCast, pt_up l i s hs, pt_len]
  simp
end

section
section
open Go.RowKit

def elemB (a : Int) : Bool := decide (0 ≤ a) && decide (a < 2147483647)

theorem element_any (a : Int) (w : World) :
    Calls Tryz.prog 145 #[.int .i64 a] w fun e w' => e = .returned (.bool (elemB a)) ∧ w = w' := by
  by_cases h0 : 0 ≤ a
  · by_cases h1 : a < 2147483647
    · go_enter Tryz.func145, Tryz.ntmps145
      go_wp2
      go_ret
      exact ⟨by simp [elemB, h0, h1], rfl⟩
    · go_enter Tryz.func145, Tryz.ntmps145
      go_wp2
      go_ret
      exact ⟨by simp [elemB, h0, h1], rfl⟩
  · go_enter Tryz.func145, Tryz.ntmps145
    go_wp2
    go_ret
    exact ⟨by simp [elemB]; omega, rfl⟩

set_option maxHeartbeats 400000 in
theorem elements_any (A : Option Addr) (c : Nat) (xs : List Int) (w : World) (hv : Ints w A xs) (hmax : xs.length ≤ 9223372036854775807) :
    Calls Tryz.prog 119 #[.slice A xs.length c] w fun e w' => e = .returned (.bool (xs.all elemB)) ∧ w = w' := by
  have HV := Lib.hid hv; clear hv
  go_enter Tryz.func119, Tryz.ntmps119
  go_wp2
  go_loop [7] (fun i => ∃ k : Nat, k ≤ xs.length ∧ i = .int .i64 k ∧ (xs.take k).all elemB = true) (fun i => xs.length - (intOf i).toNat)
  case atStart => exact ⟨0, Nat.zero_le _, rfl, rfl⟩
  case round =>
    obtain ⟨k, hk, rfl, hall⟩ := hrel
    have HALL := Lib.hid hall; clear hall
    by_cases hlt : k < xs.length
    · obtain ⟨x, hx⟩ := get_some xs k hlt
      obtain ⟨b, off, rfl, hcell⟩ := HV.out.at_ hx
      have HX := Lib.hid hx; clear hx
      cases hb : elemB x
      · go_wp2_with (go_at_call 145; refine (element_any _ _).mono ?_; rintro e w' ⟨rfl, rfl⟩)
        go_ret
        exact ⟨ret_bool (all_false_of elemB xs k x HX.out hb).symm, rfl⟩
      · go_wp2_with (go_at_call 145; refine (element_any _ _).mono ?_; rintro e w' ⟨rfl, rfl⟩)
        go_round
        case rel => exact ⟨k + 1, by omega, by go_num, by rw [all_take_succ elemB xs k x HX.out, HALL.out, hb]; rfl⟩
        case measure => simp [intOf]; omega
    · have hk' : xs.length ≤ k := by omega
      go_wp2
      go_ret
      exact ⟨ret_bool (by rw [← HALL.out, List.take_of_length_le hk']), rfl⟩

/-- A difference modulo the prime. -/
def mns (a b : Int) : Int := (a - b + 2147483647) % 2147483647

theorem mns_range (a b : Int) : 0 ≤ mns a b ∧ mns a b < 2147483647 := by unfold mns; omega

theorem mul_range (a b : Int) (ha : 0 ≤ a) (ha' : a ≤ 2147483647) (hb : 0 ≤ b) (hb' : b ≤ 2147483647) : 0 ≤ a * b ∧ a * b ≤ 4611686014132420609 :=
  ⟨Int.mul_nonneg ha hb, Int.le_trans (Int.mul_le_mul ha' hb' hb (by omega)) (by decide)⟩

theorem minus_any (a b : Int) (w : World) (ha : 0 ≤ a) (ha' : a ≤ 2147483647) (hb : 0 ≤ b) (hb' : b ≤ 2147483647) :
    Calls Tryz.prog 174 #[.int .i64 a, .int .i64 b] w fun e w' => e = .returned (.int .i64 (mns a b)) ∧ w = w' := by
  go_enter Tryz.func174, Tryz.ntmps174
  go_wp2
  go_ret
  exact ⟨rfl, rfl⟩

theorem Ints_two (w : World) (T : Nat) (a b : Int) : Ints (w.alloc (.cells #[.int .i64 a, .int .i64 b] T)) (some ⟨w.heap.size, 0, none⟩) [a, b] := by
  refine ⟨rfl, fun _ => ⟨_, _, rfl, fun j u hu => ?_⟩⟩
  rw [World.cell?_alloc_at _ _ _ _ rfl]
  match j, hu with
  | 0, hu => simp at hu; simp [hu]
  | 1, hu => simp at hu; simp [hu]
end

section
open Go.RowKit

/-! ### Plain: the prime, gcd -/
theorem no_div : ((List.range 46341).all fun d => decide (d < 2) || decide (2147483647 % d ≠ 0)) = true := by decide +kernel

theorem prime_dvd (g : Nat) (h : g ∣ 2147483647) : g = 1 ∨ g = 2147483647 := by
  have nd : ∀ d, d < 46341 → 2 ≤ d → ¬ d ∣ 2147483647 := by
    intro d hd h2 hdv
    have h := List.all_eq_true.1 no_div d (List.mem_range.2 hd)
    simp only [ne_eq, Bool.or_eq_true, decide_eq_true_eq] at h
    rcases h with h | h
    · omega
    · exact h (Nat.mod_eq_zero_of_dvd hdv)
  obtain ⟨k, hk⟩ := h
  by_cases hg : g < 46341
  · by_cases h2 : 2 ≤ g
    · exact absurd ⟨k, hk⟩ (nd g hg h2)
    · have : g = 0 ∨ g = 1 := by omega
      rcases this with rfl | rfl
      · omega
      · exact Or.inl rfl
  · by_cases hk2 : k < 46341
    · by_cases h2 : 2 ≤ k
      · exact absurd ⟨g, by rw [Nat.mul_comm]; exact hk⟩ (nd k hk2 h2)
      · have : k = 0 ∨ k = 1 := by omega
        rcases this with rfl | rfl
        · omega
        · exact Or.inr (by omega)
    · have h1 : 46341 * 46341 ≤ g * k := Nat.mul_le_mul (by omega) (by omega)
      omega

theorem gcd_one (a : Int) (h0 : 0 < a) (h1 : a < 2147483647) : Int.gcd 2147483647 a = 1 := by
  have hd : Int.gcd 2147483647 a ∣ 2147483647 := by
    have := Int.gcd_dvd_left (a := 2147483647) (b := a)
    have h2 := Int.ofNat_dvd.1 (show ((Int.gcd 2147483647 a : Nat) : Int) ∣ ((2147483647 : Nat) : Int) from this)
    exact h2
  have hle : Int.gcd 2147483647 a ≤ a.natAbs := Nat.le_of_dvd (by omega) (Int.gcd_dvd_natAbs_right 2147483647 a)
  rcases prime_dvd _ hd with h | h
  · exact h
  · omega

/-- What Euclid's loop keeps. -/
structure Eu (a r s u v : Int) : Prop where
  r0 : 0 < r
  u0 : 0 ≤ u
  rp : r ≤ 2147483647
  up : u ≤ 2147483647
  sl : -2147483647 ≤ s ∧ s ≤ 2147483647
  vl : -2147483647 ≤ v ∧ v ≤ 2147483647
  cr : ∃ k, r = s * a + k * 2147483647
  cu : ∃ k, u = v * a + k * 2147483647
  gc : Int.gcd r u = Int.gcd 2147483647 a
  sg : (0 ≤ s ∧ v ≤ 0 ∧ u * s - r * v = 2147483647) ∨ (s ≤ 0 ∧ 0 ≤ v ∧ r * v - u * s = 2147483647)

theorem Eu.start (a : Int) (h : 0 < a) (h' : a < 2147483647) : Eu a 2147483647 0 a 1 :=
  ⟨by omega, by omega, by omega, by omega, by omega, by omega, ⟨1, by omega⟩, ⟨0, by omega⟩, rfl, Or.inr ⟨by omega, by omega, by omega⟩⟩

theorem mul_ge_self (u x : Int) (hu : 0 < u) (hx : 0 ≤ x) : x ≤ u * x := by
  have := Int.mul_le_mul_of_nonneg_right (show 1 ≤ u by omega) hx
  omega

theorem Eu.next {a r s u v : Int} (h : Eu a r s u v) (hu : 0 < u) : Eu a u v (r - r / u * u) (s - r / u * v) := by
  obtain ⟨r0, u0, rp, up, sl, vl, ⟨k1, cr⟩, ⟨k2, cu⟩, gc, sg⟩ := h
  have hm : r - r / u * u = r % u := by rw [Int.emod_def, Int.mul_comm]
  have hq : 0 ≤ r / u := Int.ediv_nonneg (by omega) u0
  have hm0 : 0 ≤ r % u := Int.emod_nonneg _ (by omega)
  have hm1 : r % u < u := Int.emod_lt_of_pos _ hu
  have g : Int.gcd u (r - r / u * u) = Int.gcd 2147483647 a := by rw [← gc, Int.gcd_sub_mul_right_right, Int.gcd_comm]
  rw [hm] at g
  rw [hm]
  have sg' : (0 ≤ v ∧ s - r / u * v ≤ 0 ∧ r % u * v - u * (s - r / u * v) = 2147483647) ∨ (v ≤ 0 ∧ 0 ≤ s - r / u * v ∧ u * (s - r / u * v) - r % u * v = 2147483647) := by
    rw [← hm]
    generalize r / u = q at *
    rcases sg with ⟨h1, h2, h3⟩ | ⟨h1, h2, h3⟩
    · refine Or.inr ⟨h2, ?_, ?_⟩
      · have := Int.mul_nonneg hq (show 0 ≤ -v by omega)
        rw [Int.mul_neg] at this; omega
      · rw [← h3]; grind
    · refine Or.inl ⟨h2, ?_, ?_⟩
      · have := Int.mul_nonneg hq h2; omega
      · rw [← h3]; grind
  have vl' : -2147483647 ≤ s - r / u * v ∧ s - r / u * v ≤ 2147483647 := by
    generalize s - r / u * v = v' at *
    rcases sg' with ⟨h1, h2, h3⟩ | ⟨h1, h2, h3⟩
    · have a1 := Int.mul_nonneg hm0 h1
      have a2 := mul_ge_self u (-v') hu (by omega)
      rw [Int.mul_neg] at a2; omega
    · have a1 := Int.mul_nonneg hm0 (show 0 ≤ -v by omega)
      rw [Int.mul_neg] at a1
      have a2 := mul_ge_self u v' hu h2
      omega
  refine ⟨hu, hm0, up, by omega, vl, vl', ⟨k2, cu⟩, ⟨k1 - r / u * k2, by rw [← hm]; generalize r / u = q at *; rw [cr, cu]; grind⟩, g, sg'⟩

theorem Eu.bounds {a r s u v : Int} (h : Eu a r s u v) (hu : 0 < u) : 0 ≤ r / u ∧ r / u ≤ 2147483647 ∧ 0 ≤ r / u * u ∧ r / u * u ≤ 2147483647 ∧ -4294967294 ≤ r / u * v ∧ r / u * v ≤ 4294967294 := by
  have hn := h.next hu
  have hq : 0 ≤ r / u := Int.ediv_nonneg (by have := h.r0; omega) h.u0
  have hqu : r / u ≤ r := Int.ediv_le_self _ (by have := h.r0; omega)
  have h1 := Int.mul_nonneg hq h.u0
  have h2 := hn.u0
  have h3 := hn.vl
  have h4 := h.sl
  have h5 := h.rp
  omega

/-- Its end: what the loop hands back is the inverse. -/
theorem Eu.fin {a r s v : Int} (h : Eu a r s 0 v) (ha : 0 < a) (ha' : a < 2147483647) : (s % 2147483647) * a % 2147483647 = 1 := by
  have g := h.gc
  rw [gcd_one a ha ha', Int.gcd_zero] at g
  have hr : r = 1 := by have := h.r0; omega
  obtain ⟨k, hk⟩ := h.cr
  have : s * a = 1 + (-k) * 2147483647 := by omega
  rw [Int.mul_emod, Int.emod_emod_of_dvd _ (Int.dvd_refl _), ← Int.mul_emod, this, Int.add_mul_emod_self_right]
  rfl

/-- The inverse of an element that isn't 0. -/
noncomputable def invp (a : Int) : Int := by
  classical exact if h : ∃ r : Int, 0 ≤ r ∧ r < 2147483647 ∧ r * a % 2147483647 = 1 then h.choose else 0

theorem inv_unique (a r r' : Int) (h0 : 0 ≤ r) (h1 : r < 2147483647) (h : r * a % 2147483647 = 1) (h0' : 0 ≤ r') (h1' : r' < 2147483647) (h' : r' * a % 2147483647 = 1) : r = r' := by
  have e1 : r * a * r' % 2147483647 = r' % 2147483647 := by rw [Int.mul_emod, h]; simp
  have e2 : r' * a * r % 2147483647 = r % 2147483647 := by rw [Int.mul_emod, h']; simp
  have e3 : r * a * r' = r' * a * r := by grind
  rw [e3, e2] at e1
  rw [Int.emod_eq_of_lt h0 h1, Int.emod_eq_of_lt h0' h1'] at e1
  exact e1

theorem invp_eq (a r : Int) (h0 : 0 ≤ r) (h1 : r < 2147483647) (h : r * a % 2147483647 = 1) : invp a = r := by
  unfold invp
  have hex : ∃ r : Int, 0 ≤ r ∧ r < 2147483647 ∧ r * a % 2147483647 = 1 := ⟨r, h0, h1, h⟩
  rw [dif_pos hex]
  obtain ⟨g0, g1, g2⟩ := hex.choose_spec
  exact inv_unique a _ _ g0 g1 g2 h0 h1 h

theorem inv_exists (a : Int) (ha : 0 < a) (ha' : a < 2147483647) : ∀ (n : Nat) (r s u v : Int), Eu a r s u v → u.toNat ≤ n → ∃ q : Int, 0 ≤ q ∧ q < 2147483647 ∧ q * a % 2147483647 = 1 := by
  intro n
  induction n with
  | zero =>
    intro r s u v h hu
    have hu0 := h.u0
    obtain rfl : u = 0 := by omega
    exact ⟨s % 2147483647, by omega, by omega, h.fin ha ha'⟩
  | succ n ih =>
    intro r s u v h hu
    by_cases h0 : 0 < u
    · have hn := h.next h0
      have hm : r - r / u * u = r % u := by rw [Int.emod_def, Int.mul_comm]
      have hlt := Int.emod_lt_of_pos r h0
      have hge := hn.u0
      exact ih _ _ _ _ hn (by omega)
    · have hu0 := h.u0
      obtain rfl : u = 0 := by omega
      exact ⟨s % 2147483647, by omega, by omega, h.fin ha ha'⟩

theorem invp_spec (a : Int) (ha : 0 < a) (ha' : a < 2147483647) : 0 ≤ invp a ∧ invp a < 2147483647 ∧ invp a * a % 2147483647 = 1 := by
  obtain ⟨q, q0, q1, q2⟩ := inv_exists a ha ha' _ _ _ _ _ (Eu.start a ha ha') (Nat.le_refl _)
  rw [invp_eq a q q0 q1 q2]
  exact ⟨q0, q1, q2⟩

theorem tmod_fin (s : Int) (h : -2147483647 ≤ s) (h' : s ≤ 2147483647) : (s.tmod 2147483647 + 2147483647) % 2147483647 = s % 2147483647 ∧ -2147483647 < s.tmod 2147483647 ∧ s.tmod 2147483647 < 2147483647 := by
  by_cases hs : 0 ≤ s
  · rw [Int.tmod_eq_emod_of_nonneg hs]; omega
  · have e : s.tmod 2147483647 = -((-s) % 2147483647) := by
      rw [← Int.tmod_eq_emod_of_nonneg (show 0 ≤ -s by omega), Int.neg_tmod, Int.neg_neg]
    rw [e]; omega

set_option maxHeartbeats 400000 in
theorem inverse_any (a : Int) (w : World) (h0 : 0 < a) (h1 : a < 2147483647) :
    Calls Tryz.prog 175 #[.int .i64 a] w fun e w' => (e = .returned (.int .i64 (invp a)) ∧ 0 ≤ invp a ∧ invp a < 2147483647 ∧ invp a * a % 2147483647 = 1) ∧ w = w' := by
  go_enter Tryz.func175, Tryz.ntmps175
  go_wp2
  go_loop [3, 4, 5, 6] (fun tr ts tu tv => ∃ r s u v : Int, tr = .int .i64 r ∧ ts = .int .i64 s ∧ tu = .int .i64 u ∧ tv = .int .i64 v ∧ Eu a r s u v) (fun _ _ tu _ => (intOf tu).toNat)
  case atStart => exact ⟨_, _, _, _, rfl, rfl, rfl, rfl, Eu.start a h0 h1⟩
  case round =>
    obtain ⟨r, s, u, v, rfl, rfl, rfl, rfl, hE⟩ := hrel
    have HE := Lib.hid hE
    obtain ⟨r0, u0, rp, up, ⟨sl, sl'⟩, ⟨vl, vl'⟩, -, -, -, -⟩ := hE
    by_cases hu : 0 < u
    · obtain ⟨b1, b2, b3, b4, b5, b6⟩ := HE.out.bounds hu
      go_wp2
      go_round
      case rel => exact ⟨_, _, _, _, rfl, rfl, rfl, rfl, HE.out.next hu⟩
      case measure =>
        have h1 := (HE.out.next hu).u0
        have h2 : r - r / u * u < u := by
          have : r - r / u * u = r % u := by rw [Int.emod_def, Int.mul_comm]
          rw [this]; exact Int.emod_lt_of_pos _ hu
        simp [intOf]; omega
    · obtain rfl : u = 0 := by omega
      obtain ⟨t1, t2, t3⟩ := tmod_fin s sl sl'
      have T1 : Hid (s.tmod 2147483647 % 2147483647 = s % 2147483647) := Lib.hid (by omega); clear t1
      go_wp2
      go_ret
      have hb0 : 0 ≤ s % 2147483647 := by omega
      have hb1 : s % 2147483647 < 2147483647 := by omega
      have hf := HE.out.fin h0 h1
      have e := invp_eq a _ hb0 hb1 hf
      rw [e]
      exact ⟨⟨ret_int T1.out, hb0, hb1, hf⟩, rfl⟩
end

section
open Go.RowKit

/-- Horner's scheme modulo the prime. -/
def evp : List Int → Int → Int
  | [], _ => 0
  | a :: l, x => (evp l x * x + a) % 2147483647

theorem evp_range (l : List Int) (x : Int) : 0 ≤ evp l x ∧ evp l x < 2147483647 := by
  cases l with
  | nil => simp [evp]
  | cons a l => simp only [evp]; omega

theorem evp_drop (xs : List Int) (x : Int) (k : Nat) (y : Int) (hk : xs[k]? = some y) : evp (xs.drop k) x = (evp (xs.drop (k + 1)) x * x + y) % 2147483647 := by
  obtain ⟨h, rfl⟩ := List.getElem?_eq_some_iff.1 hk
  rw [List.drop_eq_getElem_cons h]; rfl

theorem elemB_iff (x : Int) : elemB x = true ↔ 0 ≤ x ∧ x < 2147483647 := by simp [elemB]

set_option maxHeartbeats 800000 in
theorem eval_any (A : Option Addr) (c : Nat) (xs : List Int) (x : Int) (w : World) (hv : Ints w A xs) (hl : xs.length ≤ 16) (hall : xs.all elemB = true) (hx : elemB x = true) :
    Calls Tryz.prog 153 #[.slice A xs.length c, .int .i64 x] w fun e w' => e = .returned (.tuple #[.int .i64 (evp xs x), .int .i64 0]) ∧ w = w' := by
  have ⟨hx0, hx1⟩ := (elemB_iff x).1 hx
  have HV := Lib.hid hv; clear hv
  have HALL := Lib.hid hall; clear hall
  have HX := Lib.hid hx; clear hx
  go_enter Tryz.func153, Tryz.ntmps153
  go_wp2_with fail
  refine (elements_any _ _ xs _ HV.out (by omega)).mono ?_
  rintro e w' ⟨rfl, rfl⟩
  rw [HALL.out]
  go_wp2_with fail
  refine (element_any _ _).mono ?_
  rintro e w' ⟨rfl, rfl⟩
  rw [HX.out]
  go_wp2
  go_loop [6, 23] (fun o i => ∃ k : Nat, k ≤ xs.length ∧ i = .int .i64 k ∧ o = .int .i64 (evp (xs.drop (xs.length - k)) x)) (fun _ i => xs.length - (intOf i).toNat)
  case atStart => exact ⟨0, Nat.zero_le _, rfl, by simp [evp]⟩
  case round =>
    obtain ⟨k, hk, rfl, rfl⟩ := hrel
    obtain ⟨r0, r1⟩ := evp_range (xs.drop (xs.length - k)) x
    by_cases hlt : k < xs.length
    · obtain ⟨y, hy⟩ : ∃ y, xs[xs.length - 1 - k]? = some y := get_some _ _ (by omega)
      obtain ⟨b, off, rfl, hcell⟩ := HV.out.at_ hy
      have he := evp_drop xs x _ y hy
      rw [show xs.length - 1 - k + 1 = xs.length - k by omega] at he
      have hy2 := (elemB_iff y).1 (List.all_eq_true.1 HALL.out y (List.mem_of_getElem? hy))
      obtain ⟨y0, y1⟩ := hy2
      rw [show xs.length - 1 - k = xs.length - (k + 1) by omega] at he
      have HE := Lib.hid he; clear he hy
      generalize evp (xs.drop (xs.length - k)) x = acc at *
      have m0 : 0 ≤ acc * x := Int.mul_nonneg r0 hx0
      have m1 : acc * x ≤ 2147483647 * 2147483647 := Int.mul_le_mul (by omega) (by omega) hx0 (by omega)
      go_wp2
      go_round
      case rel => exact ⟨k + 1, by omega, by go_num, by rw [HE.out]⟩
      case measure => simp [intOf]; omega
    · have hk' : k = xs.length := by omega
      go_wp2
      go_ret2
      exact ⟨rfl, rfl⟩
end

section
open Go.RowKit

/-- One step of Neville's scheme. -/
noncomputable def nst (x xi xk vi vj : Int) : Int := mns (mns x xk * vi % 2147483647) (mns x xi * vj % 2147483647) * invp (mns xi xk) % 2147483647

theorem nst_range (x xi xk vi vj : Int) : 0 ≤ nst x xi xk vi vj ∧ nst x xi xk vi vj < 2147483647 := by unfold nst; omega

theorem mns_pos (a b : Int) (h0 : 0 ≤ a) (h1 : a < 2147483647) (g0 : 0 ≤ b) (g1 : b < 2147483647) (h : a ≠ b) : 0 < mns a b := by unfold mns; omega

set_option maxHeartbeats 1600000 in
theorem join_any (i k n b off cap bp bx ba : Nat) (x xi xk vi vj : Int) (w : World)
    (hi : i + 1 < 16) (hin : i < n) (hkn : k < n) (_hn : n ≤ 16) (_hcap : n ≤ cap)
    (hbp : w.cell? ⟨bp, 0, none⟩ = some (.slice (some ⟨b, off, none⟩) n cap)) (hbx : w.cell? ⟨bx, 0, none⟩ = some (.int .i64 x))
    (hxi : w.cell? ⟨b, off + i * 2, none⟩ = some (.int .i64 xi)) (hxk : w.cell? ⟨b, off + k * 2, none⟩ = some (.int .i64 xk))
    (hvi : w.cell? ⟨ba, i, none⟩ = some (.int .i64 vi)) (hvj : w.cell? ⟨ba, i + 1, none⟩ = some (.int .i64 vj)) (hfr : w.frozen? ⟨ba, i, none⟩ = false)
    (x0 : 0 ≤ x) (x1 : x < 2147483647) (xi0 : 0 ≤ xi) (xi1 : xi < 2147483647) (xk0 : 0 ≤ xk) (xk1 : xk < 2147483647)
    (vi0 : 0 ≤ vi) (vi1 : vi < 2147483647) (vj0 : 0 ≤ vj) (vj1 : vj < 2147483647) (hne : xi ≠ xk) :
    Calls Tryz.prog 173 #[.int .i64 i, .int .i64 k, .pointer (some ⟨bp, 0, none⟩), .pointer (some ⟨bx, 0, none⟩), .pointer (some ⟨ba, 0, none⟩)] w fun e w' =>
      e = .returned (.tuple #[]) ∧ ∃ m, w' = (w.drewN m).setCell ⟨ba, i, none⟩ (.int .i64 (nst x xi xk vi vj)) := by
  have hp := mns_pos xi xk xi0 xi1 xk0 xk1 hne
  clear hne
  obtain ⟨a0, a1⟩ := mns_range x xk
  obtain ⟨b0, b1⟩ := mns_range x xi
  obtain ⟨c0, c1⟩ := mns_range xi xk
  obtain ⟨m0, m1⟩ := mul_range (mns x xk) vi a0 (by omega) vi0 (by omega)
  obtain ⟨n0, n1⟩ := mul_range (mns x xi) vj b0 (by omega) vj0 (by omega)
  obtain ⟨l0, l1⟩ := mns_range (mns x xk * vi % 2147483647) (mns x xi * vj % 2147483647)
  go_enter Tryz.func173, Tryz.ntmps173
  go_wp2
  go_quiet (fail)
  go_wp2
  go_quiet ((go_at_call 174; exact quiet_same2 (minus_any _ _ _ (by omega) (by omega) (by omega) (by omega))))
  go_wp2_with fail
  refine (minus_any _ _ _ (by omega) (by omega) (by omega) (by omega)).mono ?_
  rintro e w' ⟨rfl, rfl⟩
  go_wp2_with fail
  refine (minus_any _ _ _ (by omega) (by omega) (by omega) (by omega)).mono ?_
  rintro e w' ⟨rfl, rfl⟩
  go_wp2_with fail
  refine (inverse_any _ _ hp c1).mono ?_
  rintro e w' ⟨⟨rfl, i0, i1, -⟩, rfl⟩
  obtain ⟨k0, k1⟩ := mul_range _ _ l0 (by omega) i0 (by omega)
  go_wp2
  go_end0
  exact ⟨rfl, _, rfl⟩
end

section
open Go.RowKit Go.Maps

/-- A slice of pairs of ints. -/
def Pts (w : World) (b off : Nat) (ps : List (Int × Int)) : Prop :=
  ∀ j p, ps[j]? = some p → w.cell? ⟨b, off + j * 2, none⟩ = some (.int .i64 p.1) ∧ w.cell? ⟨b, off + j * 2 + 1, none⟩ = some (.int .i64 p.2)

theorem intKeyed : Keyed Tryz.prog 3 := int_keyed Tryz.underlying3

/-- The map of the first elements seen so far. -/
def Seen (w : World) (B n : Nat) (xs : List Int) : Prop :=
  ∃ D : DataW Unit, w.ownsMap Tryz.prog 3 (plainElem Tryz.prog 4) B n D ∧ IsMap D ∧ ∀ y : Int, D.atKey (.int .i64 y) (.lit (.bool false)) = .lit (.bool (decide (y ∈ xs)))

theorem Seen.made (w : World) : Seen (w.alloc (.map #[] 0)) w.heap.size 0 [] :=
  ⟨_, World.ownsMap_made _ _ _ _, ⟨[], rfl⟩, fun y => by simp [DataW.atKey]⟩

theorem Seen.grown {w w' : World} {B n : Nat} {xs : List Int} (h : Seen w B n xs) {row : Option Nat} (hg : w.grownBy w' row) (hne : some B ≠ row) : Seen w' B n xs := by
  obtain ⟨D, h1, h2, h3⟩ := h
  exact ⟨D, h1.kept hg hne, h2, h3⟩

theorem zeroBool (w : World) : (zeroValue 4).run Tryz.prog w = .ok (.bool false) w := by kernel_rfl

theorem wf_elem {x : Int} (h : elemB x = true) : (Lit.int .i64 x).wf = true := by
  have ⟨h0, h1⟩ := (elemB_iff x).1 h
  exact WalkArith.wf_i64 (by omega)

set_option maxRecDepth 100000 in
theorem Seen.look {w : World} {B n : Nat} {xs : List Int} (h : Seen w B n xs) (x : Int) (hx : elemB x = true) (hn : x ∉ xs) :
    (Instr.lookup 134 (.map (some B)) (.int .i64 x) false).run Tryz.prog w = .ok (.bool false) w := by
  obtain ⟨D, h1, h2, h3⟩ := h
  obtain ⟨v, ps, hr, hv⟩ := h1.lookup intKeyed Tryz.underlying134 (zeroBool w) (plainElem_bool Tryz.underlying4 false) (keyOf_int_mk Tryz.underlying3 (wf_elem hx))
  rw [h3 x] at hv
  have hf : decide (x ∈ xs) = false := by simpa using hn
  rw [hf] at hv
  have : v = .bool false := by
    unfold plainElem at hv
    rw [Tryz.underlying4] at hv
    cases v <;> simp at hv
    rw [hv.1]
  rw [hr, this]

set_option maxRecDepth 100000 in
theorem Seen.put {w : World} {B n : Nat} {xs : List Int} (h : Seen w B n xs) (x : Int) (hx : elemB x = true) (hn : n < 1000) :
    ∃ w', (Instr.mapUpdate 134 (.map (some B)) (.int .i64 x) (.bool true)).run Tryz.prog w = .ok () w' ∧ Seen w' B (n + 1) (xs ++ [x]) ∧ w.grownBy w' (some B) := by
  obtain ⟨D, h1, h2, h3⟩ := h
  obtain ⟨w', hr, ho, hg⟩ := h1.update intKeyed Tryz.underlying134 (by unfold maxLen; omega) (keyOf_int_mk Tryz.underlying3 (wf_elem hx)) (plainElem_bool Tryz.underlying4 true)
  refine ⟨w', hr, ⟨_, ho, ?_, ?_⟩, hg⟩
  · obtain ⟨es, rfl⟩ := h2
    exact ⟨_, rfl⟩
  · intro y
    by_cases hy : y = x
    · subst hy
      rw [atKey_put_same h2 (by trivial)]; simp
    · rw [atKey_put_other (by simpa using hy), h3 y]
      simp [hy]

/-- A block of ints that the call made: its j-th cell is f j. -/
def Arr (w : World) (B T n : Nat) (f : Nat → Int) : Prop :=
  ∃ cs : Array Value, w.heap[B]? = some (.cells cs T (0, 0)) ∧ cs.size = n ∧ ∀ j, j < n → cs[j]? = some (.int .i64 (f j))

theorem Arr.lt {w : World} {B T n : Nat} {f : Nat → Int} (h : Arr w B T n f) : B < w.heap.size := by
  obtain ⟨cs, h1, _⟩ := h
  exact (Array.getElem?_eq_some_iff.1 h1).1
theorem Arr.cell {w : World} {B T n : Nat} {f : Nat → Int} (h : Arr w B T n f) (j : Nat) (hj : j < n) : w.cell? ⟨B, j, none⟩ = some (.int .i64 (f j)) := by
  obtain ⟨cs, h1, h2, h3⟩ := h
  rw [cell_of_row w B j cs T (0, 0) h1]; exact h3 j hj
theorem Arr.frozen {w : World} {B T n : Nat} {f : Nat → Int} (h : Arr w B T n f) (j : Nat) : w.frozen? ⟨B, j, none⟩ = false := by
  obtain ⟨cs, h1, h2, h3⟩ := h
  exact frozen_of_row w B j cs T h1
theorem Arr.grown {w w' : World} {B T n : Nat} {f : Nat → Int} (h : Arr w B T n f) {row : Option Nat} (hg : w.grownBy w' row) (hne : some B ≠ row) : Arr w' B T n f := by
  have hlt := h.lt
  obtain ⟨cs, h1, h2⟩ := h
  exact ⟨cs, (hg.block B hlt hne).trans h1, h2⟩
theorem Arr.alloc {w : World} {B T n : Nat} {f : Nat → Int} (h : Arr w B T n f) (o : Obj) : Arr (w.alloc o) B T n f := h.grown (World.grownBy_alloc w o none) (by simp)
theorem Arr.drewN {w : World} {B T n : Nat} {f : Nat → Int} (h : Arr w B T n f) (m : Nat) : Arr (w.drewN m) B T n f := h
theorem Arr.set {w : World} {B T n : Nat} {f : Nat → Int} (h : Arr w B T n f) (i : Nat) (v : Int) : Arr (w.setCell ⟨B, i, none⟩ (.int .i64 v)) B T n (fun j => if j = i then v else f j) := by
  obtain ⟨cs, h1, h2, h3⟩ := h
  refine ⟨cs.setIfInBounds i (.int .i64 v), heap_setCell_same w B i cs T _ h1, by simpa using h2, fun j hj => ?_⟩
  by_cases hji : j = i
  · subst hji
    simp [h2, hj]
  · rw [Array.getElem?_setIfInBounds_ne (by omega), h3 j hj]
    simp [hji]

theorem Arr.zeros16 (w : World) (T : Nat) : Arr (w.alloc (.cells #[.int .i64 0, .int .i64 0, .int .i64 0, .int .i64 0, .int .i64 0, .int .i64 0, .int .i64 0, .int .i64 0, .int .i64 0, .int .i64 0, .int .i64 0, .int .i64 0, .int .i64 0, .int .i64 0, .int .i64 0, .int .i64 0] T)) w.heap.size T 16 (fun _ => 0) := by
  refine ⟨_, heap_alloc_new w _, rfl, fun j hj => ?_⟩
  match j, hj with
  | 0, _ | 1, _ | 2, _ | 3, _ | 4, _ | 5, _ | 6, _ | 7, _ | 8, _ | 9, _ | 10, _ | 11, _ | 12, _ | 13, _ | 14, _ | 15, _ => rfl
  | n + 16, h => omega

/-- Neville's scheme: the value at x of the polynomial through the points j .. j + k. -/
noncomputable def nv (x : Int) (ps : List (Int × Int)) : Nat → Nat → Int
  | 0, j => (ps[j]?.getD (0, 0)).2
  | k + 1, j => nst x (ps[j]?.getD (0, 0)).1 (ps[j + (k + 1)]?.getD (0, 0)).1 (nv x ps k j) (nv x ps k (j + 1))

theorem nv_range (x : Int) (ps : List (Int × Int)) (hall : ∀ p, p ∈ ps → elemB p.1 = true ∧ elemB p.2 = true) (k j : Nat) : 0 ≤ nv x ps k j ∧ nv x ps k j < 2147483647 := by
  cases k with
  | zero =>
    simp only [nv]
    cases h : ps[j]? with
    | none => simp
    | some p => have := (elemB_iff p.2).1 (hall p (List.mem_of_getElem? h)).2; simpa using this
  | succ k => exact nst_range _ _ _ _ _
end

section
open Go.RowKit Go.Maps

set_option maxHeartbeats 4000000 in
theorem interp_any (b off cap : Nat) (ps : List (Int × Int)) (x : Int) (w : World) (hb : b < w.heap.size) (hc : Pts w b off ps) (h1 : 1 ≤ ps.length) (h16 : ps.length ≤ 16)
    (hcap : ps.length ≤ cap) (hx : elemB x = true) (hall : ∀ p, p ∈ ps → elemB p.1 = true ∧ elemB p.2 = true) (hnd : (ps.map (·.1)).Nodup) :
    Calls Tryz.prog 157 #[.slice (some ⟨b, off, none⟩) ps.length cap, .int .i64 x] w fun e w' =>
      e = .returned (.tuple #[.int .i64 (nv x ps (ps.length - 1) 0), .int .i64 0]) ∧ Below w.heap.size w w' := by
  have HX := Lib.hid hx; clear hx
  have HALL := Lib.hid hall; clear hall
  have HND := Lib.hid hnd; clear hnd
  have HC := Lib.hid hc; clear hc
  have hmm := @run_makeMap Tryz.prog
  have hmf : ∀ (fn : Fn) (first cap : Array Value) (w : World), (Instr.makeFunc fn first cap).run Tryz.prog w = .ok (.func fn first cap) w := fun _ _ _ _ => rfl
  go_enter Tryz.func157, Tryz.ntmps157
  go_wp2_with fail
  refine (element_any _ _).mono ?_
  rintro e w' ⟨rfl, rfl⟩
  rw [HX.out]
  go_wp2_with fail
  obtain ⟨w0, hw0⟩ : ∃ w0, w0 = (w.alloc (Obj.cells #[Value.slice (some { block := b, off := off }) ps.length cap] 162)).alloc (Obj.cells #[Value.int IntKind.i64 x] 3) := ⟨_, rfl⟩
  have hs0 : w0.heap.size = w.heap.size + 2 := by rw [hw0]; simp
  have HBW : Hid (Below w.heap.size w w0) := Lib.hid (by rw [hw0]; exact ((Below.refl _ _).alloc (Nat.le_refl _) _).alloc (by simp) _)
  have HQ1 : Hid (w0.cell? ⟨w.heap.size, 0, none⟩ = some (.slice (some ⟨b, off, none⟩) ps.length cap)) := Lib.hid (by rw [hw0]; simp [World.cell?_alloc_past, World.cell?_alloc_at])
  have HQ2 : Hid (w0.cell? ⟨w.heap.size + 1, 0, none⟩ = some (.int .i64 x)) := Lib.hid (by rw [hw0]; simp [World.cell?_alloc_at])
  have HW0 := Lib.hid hw0; clear hw0
  have HS0 := Lib.hid hs0; clear hs0
  go_loopw [7, 32] (fun u7 u32 wr => ∃ k : Nat, k ≤ ps.length ∧ u32 = .int .i64 k ∧ u7 = .bool false ∧ Below (w.heap.size + 2) w0 wr ∧ Seen wr (w.heap.size + 2) k ((ps.map (·.1)).take k)) (fun _ u32 _ => ps.length - (intOf u32).toNat)
  case atStart => exact ⟨0, Nat.zero_le _, rfl, rfl, by rw [HW0.out]; exact (Below.refl _ _).alloc (by simp) _, by have h := Seen.made w0; rw [HS0.out] at h; rw [← HW0.out]; simpa using h⟩
  case round =>
    obtain ⟨k, hk, rfl, rfl, hB, hS⟩ := hrel
    have HB := Lib.hid hB; clear hB
    have HS := Lib.hid hS; clear hS
    have hsz : w.heap.size + 2 < wr.heap.size := by obtain ⟨D, hD, _⟩ := HS.out; exact hD.lt
    by_cases hlt : k < ps.length
    · obtain ⟨p, hp⟩ : ∃ p, ps[k]? = some p := ⟨_, List.getElem?_eq_getElem hlt⟩
      obtain ⟨hc1, hc2⟩ := HC.out k p hp
      have hc1' := below_cell HB.out (by omega) (below_cell HBW.out hb hc1)
      have hc2' := below_cell HB.out (by omega) (below_cell HBW.out hb hc2)
      clear hc1 hc2
      obtain ⟨he1, he2⟩ := HALL.out p (List.mem_of_getElem? hp)
      have hall : [p.1, p.2].all elemB = true := by simp [he1, he2]
      have hpx : (ps.map (·.1))[k]? = some p.1 := by simp [hp]
      have hnm := nodup_not_mem HND.out k _ hpx
      have hS1 := HS.out.grown (World.grownBy_alloc wr (.cells #[.int .i64 p.1, .int .i64 p.2] 164) none) (by simp)
      have hlook := hS1.look p.1 he1 hnm
      obtain ⟨w2, hput, hS2, hg2⟩ := hS1.put p.1 he1 (by omega)
      have hB2 : Below (w.heap.size + 2) w0 w2 := ((HB.out).alloc (by omega) _).grown hg2 (by simp; omega) (by simp)
      rw [← take_snoc _ k _ hpx] at hS2
      have HS2 := Lib.hid hS2; clear hS2
      have HB2 := Lib.hid hB2; clear hB2
      have HG2 := Lib.hid hg2; clear hg2
      have HAL := Lib.hid hall; clear hall
      clear hS1 hnm he1 he2 hpx
      have HP := Lib.hid hp; clear hp
      go_wp2_with fail
      refine (elements_any _ _ [p.1, p.2] _ (Ints_two wr _ p.1 p.2) (by simp)).mono ?_
      rintro e w' ⟨rfl, rfl⟩
      rw [HAL.out]
      go_wp2
      go_roundw
      case rel => exact ⟨k + 1, by omega, by go_num, rfl, HB2.out, HS2.out⟩
      case measure => simp [intOf]; omega
    · have hbox := below_cell HB.out (by omega) HQ1.out
      have hsz0 : w.heap.size < wr.heap.size := by omega
      have hsz1 : w.heap.size + 1 < wr.heap.size := by omega
      go_wp2_with fail
      obtain ⟨w1, rfl⟩ : ∃ w1 : World, w1 = wr := ⟨_, rfl⟩
      go_loopw [11, 53] (fun u11 u53 wr => ∃ (i : Nat) (f : Nat → Int), i ≤ ps.length ∧ u53 = .int .i64 i ∧ Below (w.heap.size + 2) w0 wr ∧ Arr wr w1.heap.size 198 16 f ∧ (∀ j, j < i → f j = nv x ps 0 j) ∧ (∀ j, 0 ≤ f j ∧ f j < 2147483647)) (fun _ u53 _ => ps.length - (intOf u53).toNat)
      case atStart => exact ⟨0, fun _ => 0, Nat.zero_le _, rfl, (HB.out).alloc (by omega) _, Arr.zeros16 _ _, by simp, by simp⟩
      case round =>
        obtain ⟨i, f, hi, rfl, hB1, hA, hf, hr⟩ := hrel
        have HB1 := Lib.hid hB1; clear hB1
        have HA := Lib.hid hA; clear hA
        have HF := Lib.hid hf; clear hf
        have HR := Lib.hid hr; clear hr
        have hA1 := HA.out.lt
        by_cases hli : i < ps.length
        · obtain ⟨p, hp⟩ : ∃ p, ps[i]? = some p := ⟨_, List.getElem?_eq_getElem hli⟩
          obtain ⟨hc1, hc2⟩ := HC.out i p hp
          have hc1' := below_cell HB1.out (by omega) (below_cell HBW.out hb hc1)
          have hc2' := below_cell HB1.out (by omega) (below_cell HBW.out hb hc2)
          clear hc1 hc2
          have hac := HA.out.cell i (by omega)
          have haf := HA.out.frozen i
          have hi16 : (i : Int) < 16 := by omega
          have HP := Lib.hid hp; clear hp
          go_wp2
          go_roundw
          case rel =>
            refine ⟨i + 1, _, by omega, by go_num, ((HB1.out).setCell (p := ⟨w1.heap.size, i, none⟩) (by simp; omega) _).alloc (by simp; omega) _, (HA.out.set i p.2).alloc _, fun j hj => ?_, fun j => ?_⟩
            · by_cases hji : j = i
              · subst hji; simp [nv, HP.out]
              · simp only [hji, if_false]; exact HF.out j (by omega)
            · have ⟨he1, he2⟩ := HALL.out p (List.mem_of_getElem? HP.out)
              have := (elemB_iff p.2).1 he2
              by_cases hji : j = i
              · simp only [hji, if_true]; exact this
              · simp only [hji, if_false]; exact HR.out j
          case measure => simp [intOf]; omega
        · have hbox := below_cell HB1.out (by omega) HQ1.out
          have hboxx := below_cell HB1.out (by omega) HQ2.out
          have hnv := fun k j => nv_range x ps HALL.out k j
          have HNV := Lib.hid hnv; clear hnv
          have hfi : ∀ j, j < ps.length → f j = nv x ps 0 j := fun j hj => HF.out j (by omega)
          have HFI := Lib.hid hfi; clear hfi
          go_wp2_with fail
          obtain ⟨w2, rfl⟩ : ∃ w2 : World, w2 = wr := ⟨_, rfl⟩
          go_loopw [14] (fun u14 wr => ∃ (d : Nat) (f : Nat → Int), 1 ≤ d ∧ d ≤ ps.length ∧ u14 = .int .i64 d ∧ Below (w.heap.size + 2) w0 wr ∧ Arr wr w1.heap.size 198 16 f ∧ (∀ j, j + d ≤ ps.length → f j = nv x ps (d - 1) j) ∧ (∀ j, 0 ≤ f j ∧ f j < 2147483647)) (fun u14 _ => ps.length - (intOf u14).toNat)
          case atStart => exact ⟨1, f, Nat.le_refl _, h1, rfl, HB1.out, HA.out, fun j hj => HFI.out j (by omega), HR.out⟩
          case round =>
            obtain ⟨d, g, hd1, hd2, rfl, hB2, hA2, hg, hr2⟩ := hrel
            have HB2 := Lib.hid hB2; clear hB2
            have HA2 := Lib.hid hA2; clear hA2
            have HG := Lib.hid hg; clear hg
            have HR2 := Lib.hid hr2; clear hr2
            clear hbox hboxx
            have hbox := below_cell HB2.out (by omega) HQ1.out
            have hboxx := below_cell HB2.out (by omega) HQ2.out
            have hA3 := HA2.out.lt
            by_cases hld : d < ps.length
            · go_wp2_with fail
              obtain ⟨w3, rfl⟩ : ∃ w3 : World, w3 = wr := ⟨_, rfl⟩
              go_loopw [15, 74] (fun u15 u74 wr => ∃ (i : Nat) (f : Nat → Int), i + d ≤ ps.length ∧ u74 = .int .i64 i ∧ Below (w.heap.size + 2) w0 wr ∧ Arr wr w1.heap.size 198 16 f ∧ (∀ j, j < i → f j = nv x ps d j) ∧ (∀ j, i ≤ j → j + d ≤ ps.length → f j = nv x ps (d - 1) j) ∧ (∀ j, 0 ≤ f j ∧ f j < 2147483647)) (fun _ u74 _ => ps.length - (intOf u74).toNat)
              case atStart => exact ⟨0, g, by omega, rfl, HB2.out, HA2.out, by simp, fun j _ hj => HG.out j hj, HR2.out⟩
              case round =>
                obtain ⟨i, f, hi, rfl, hB3, hA4, hf1, hf2, hr3⟩ := hrel
                have HB3 := Lib.hid hB3; clear hB3
                have HA4 := Lib.hid hA4; clear hA4
                have HF1 := Lib.hid hf1; clear hf1
                have HF2 := Lib.hid hf2; clear hf2
                have HR3 := Lib.hid hr3; clear hr3
                by_cases hle : i + d < ps.length
                · obtain ⟨p, hp⟩ : ∃ p, ps[i]? = some p := ⟨_, List.getElem?_eq_getElem (by omega)⟩
                  obtain ⟨q, hq⟩ : ∃ q, ps[i + d]? = some q := ⟨_, List.getElem?_eq_getElem (by omega)⟩
                  have ⟨hc1, _⟩ := HC.out i p hp
                  have ⟨hc2, _⟩ := HC.out (i + d) q hq
                  have hc1' := below_cell HB3.out (by omega) (below_cell HBW.out hb hc1)
                  have hc2' := below_cell HB3.out (by omega) (below_cell HBW.out hb hc2)
                  have hb1 := below_cell HB3.out (by omega) HQ1.out
                  have hb2 := below_cell HB3.out (by omega) HQ2.out
                  have ⟨p0, p1⟩ := (elemB_iff p.1).1 (HALL.out p (List.mem_of_getElem? hp)).1
                  have ⟨q0, q1⟩ := (elemB_iff q.1).1 (HALL.out q (List.mem_of_getElem? hq)).1
                  have ⟨x0, x1⟩ := (elemB_iff x).1 HX.out
                  have hne : p.1 ≠ q.1 := nodup_ne HND.out i (i + d) p.1 q.1 (by simp [hp]) (by simp [hq]) (by omega)
                  have hj := join_any i (i + d) ps.length b off cap w.heap.size (w.heap.size + 1) w1.heap.size x p.1 q.1 (f i) (f (i + 1)) wr (by omega) (by omega) hle h16 hcap hb1 hb2 hc1' hc2'
                    (HA4.out.cell i (by omega)) (HA4.out.cell (i + 1) (by omega)) (HA4.out.frozen i) x0 x1 p0 p1 q0 q1 (HR3.out i).1 (HR3.out i).2 (HR3.out (i + 1)).1 (HR3.out (i + 1)).2 hne
                  have HJ := Lib.hid hj; clear hj
                  have he : nst x p.1 q.1 (f i) (f (i + 1)) = nv x ps d i := by
                    obtain ⟨d', rfl⟩ : ∃ d', d = d' + 1 := ⟨d - 1, by omega⟩
                    rw [nv, HF2.out i (Nat.le_refl _) (by omega), HF2.out (i + 1) (by omega) (by omega), hp, hq]
                    rfl
                  have HE := Lib.hid he
                  have HP := Lib.hid hp
                  have HQ := Lib.hid hq
                  clear hp hq hc1 hc2 hc1' hc2' hb1 hb2 hne he
                  go_wp2_with fail
                  refine HJ.out.mono ?_
                  rintro e w' ⟨rfl, m, rfl⟩
                  go_wp2
                  go_roundw
                  case rel =>
                    refine ⟨i + 1, _, by omega, by go_num, (below_drewN HB3.out m).setCell (p := ⟨w1.heap.size, i, none⟩) (by simp; omega) _, (HA4.out.drewN m).set i _, fun j hj => ?_, fun j hj hjd => ?_, fun j => ?_⟩
                    · by_cases hji : j = i
                      · subst hji; simp [HE.out]
                      · simp only [hji, if_false]; exact HF1.out j (by omega)
                    · have hji : j ≠ i := by omega
                      simp only [hji, if_false]; exact HF2.out j (by omega) hjd
                    · by_cases hji : j = i
                      · simp only [hji, if_true]; exact nst_range _ _ _ _ _
                      · simp only [hji, if_false]; exact HR3.out j
                  case measure => simp [intOf]; omega
                · have hei : i + d = ps.length := by omega
                  have HEI := Lib.hid hei; clear hei
                  go_wp2
                  go_roundw
                  case rel => exact ⟨d + 1, f, by omega, by omega, by go_num, HB3.out, HA4.out, fun j hj => HF1.out j (by have := HEI.out; omega), HR3.out⟩
                  case measure => simp [intOf]; omega
            · have hac := HA2.out.cell 0 (by omega)
              have he : g 0 = nv x ps (ps.length - 1) 0 := by
                have e : d = ps.length := by omega
                have := HG.out 0 (by omega)
                rw [e] at this; exact this
              have HE := Lib.hid he; clear he
              go_wp2
              go_ret2
              rw [← HE.out]
              exact ⟨rfl, HBW.out.trans (HB2.out.mono (by omega))⟩

theorem interp_prs (A : Option Addr) (cap : Nat) (ps : List (Int × Int)) (x : Int) (w : World) (hc : Prs w A ps) (h1 : 1 ≤ ps.length) (h16 : ps.length ≤ 16)
    (hcap : ps.length ≤ cap) (hx : elemB x = true) (hall : ∀ p, p ∈ ps → elemB p.1 = true ∧ elemB p.2 = true) (hnd : (ps.map (·.1)).Nodup) :
    Calls Tryz.prog 157 #[.slice A ps.length cap, .int .i64 x] w fun e w' =>
      e = .returned (.tuple #[.int .i64 (nv x ps (ps.length - 1) 0), .int .i64 0]) ∧ Below w.heap.size w w' := by
  obtain ⟨b, off, rfl, hcc⟩ := hc.2 (by omega)
  have hP : Pts w b off ps := fun j p hp => by
    obtain ⟨h1, h2⟩ := flat2_at ps j p hp
    exact ⟨hcc _ _ h1, by rw [Nat.add_assoc]; exact hcc _ _ h2⟩
  obtain ⟨p, hp⟩ := get_some ps 0 (by omega)
  exact interp_any b off cap ps x w (lt_of_cell (hP 0 p hp).1) hP h1 h16 hcap hx hall hnd
end
end

section
open Go.RowKit

theorem selement_any (a : Int) (w : World) :
    Calls Tryz.prog 131 #[.int .i64 a] w fun e w' => e = .returned (.bool (elemB a)) ∧ w = w' := by
  by_cases h0 : 0 ≤ a
  · by_cases h1 : a < 2147483647
    · go_enter Tryz.func131, Tryz.ntmps131
      go_wp2
      go_ret
      exact ⟨by simp [elemB, h0, h1], rfl⟩
    · go_enter Tryz.func131, Tryz.ntmps131
      go_wp2
      go_ret
      exact ⟨by simp [elemB, h0, h1], rfl⟩
  · go_enter Tryz.func131, Tryz.ntmps131
    go_wp2
    go_ret
    exact ⟨by simp [elemB]; omega, rfl⟩

def validB (s : Int × Int) : Bool := decide (1 ≤ s.1) && decide (s.1 ≤ 16) && elemB s.2

theorem valid_any (x y : Int) (w : World) :
    Calls Tryz.prog 134 #[.agg #[.int .i64 x, .int .i64 y]] w fun e w' => e = .returned (.bool (validB (x, y))) ∧ w.alloc (.cells #[.int .i64 x, .int .i64 y] 48) = w' := by
  by_cases h0 : 1 ≤ x
  · by_cases h1 : x ≤ 16
    · go_enter Tryz.func134, Tryz.ntmps134
      go_wp2_with (go_at_call 131; refine (selement_any _ _).mono ?_; rintro e w' ⟨rfl, rfl⟩)
      go_ret
      exact ⟨ret_bool (by simp [validB, h0, h1]), rfl⟩
    · go_enter Tryz.func134, Tryz.ntmps134
      go_wp2
      go_ret
      exact ⟨ret_bool (by simp [validB]; omega), rfl⟩
  · go_enter Tryz.func134, Tryz.ntmps134
    go_wp2
    go_ret
    exact ⟨ret_bool (by simp [validB]; omega), rfl⟩

theorem polyat_any (A : Option Addr) (c : Nat) (xs : List Int) (x : Int) (w : World) (hv : Ints w A xs) (hl : xs.length ≤ 16) (hall : xs.all elemB = true) (hx : elemB x = true) :
    Calls Tryz.prog 132 #[.slice A xs.length c, .int .i64 x] w fun e w' => e = .returned (.tuple #[.int .i64 (evp xs x), .int .i64 0]) ∧ w = w' := by
  have H := Lib.hid (eval_any A c xs x w hv hl hall hx)
  clear hv hall hx
  go_enter Tryz.func132, Tryz.ntmps132
  go_wp2_with fail
  refine H.out.mono ?_
  rintro e w' ⟨rfl, rfl⟩
  go_wp2
  go_ret2
  exact ⟨rfl, rfl⟩

theorem pointsat_any (A : Option Addr) (cap : Nat) (ps : List (Int × Int)) (x : Int) (w : World) (hc : Prs w A ps) (h1 : 1 ≤ ps.length) (h16 : ps.length ≤ 16)
    (hcap : ps.length ≤ cap) (hx : elemB x = true) (hall : ∀ p, p ∈ ps → elemB p.1 = true ∧ elemB p.2 = true) (hnd : (ps.map (·.1)).Nodup) :
    Calls Tryz.prog 135 #[.slice A ps.length cap, .int .i64 x] w fun e w' =>
      e = .returned (.tuple #[.int .i64 (nv x ps (ps.length - 1) 0), .int .i64 0]) ∧ Below w.heap.size w w' := by
  have H := Lib.hid (interp_prs A cap ps x w hc h1 h16 hcap hx hall hnd)
  clear hc hall hx hnd
  go_enter Tryz.func135, Tryz.ntmps135
  go_wp2_with fail
  refine H.out.mono ?_
  rintro e w' ⟨rfl, hb⟩
  go_wp2
  go_ret2
  exact ⟨rfl, hb⟩
end

section
open Go.RowKit

/-- A block of pairs of ints that the call made. -/
def PArr (w : World) (B T n : Nat) (f : Nat → Int × Int) : Prop :=
  ∃ cs : Array Value, w.heap[B]? = some (.cells cs T (0, 0)) ∧ cs.size = n * 2 ∧ ∀ j, j < n → cs[j * 2]? = some (.int .i64 (f j).1) ∧ cs[j * 2 + 1]? = some (.int .i64 (f j).2)

theorem PArr.lt {w : World} {B T n : Nat} {f : Nat → Int × Int} (h : PArr w B T n f) : B < w.heap.size := by
  obtain ⟨cs, h1, _⟩ := h
  exact (Array.getElem?_eq_some_iff.1 h1).1
theorem PArr.cell {w : World} {B T n : Nat} {f : Nat → Int × Int} (h : PArr w B T n f) (j : Nat) (hj : j < n) : w.cell? ⟨B, j * 2, none⟩ = some (.int .i64 (f j).1) ∧ w.cell? ⟨B, j * 2 + 1, none⟩ = some (.int .i64 (f j).2) := by
  obtain ⟨cs, h1, h2, h3⟩ := h
  rw [cell_of_row w B _ cs T (0, 0) h1, cell_of_row w B _ cs T (0, 0) h1]; exact h3 j hj
theorem PArr.frozen {w : World} {B T n : Nat} {f : Nat → Int × Int} (h : PArr w B T n f) (j : Nat) : w.frozen? ⟨B, j, none⟩ = false := by
  obtain ⟨cs, h1, h2, h3⟩ := h
  exact frozen_of_row w B j cs T h1
theorem PArr.grown {w w' : World} {B T n : Nat} {f : Nat → Int × Int} (h : PArr w B T n f) {row : Option Nat} (hg : w.grownBy w' row) (hne : some B ≠ row) : PArr w' B T n f := by
  have hlt := h.lt
  obtain ⟨cs, h1, h2⟩ := h
  exact ⟨cs, (hg.block B hlt hne).trans h1, h2⟩
theorem PArr.below {w w' : World} {B T n : Nat} {f : Nat → Int × Int} (h : PArr w B T n f) (hb : Below w.heap.size w w') : PArr w' B T n f := by
  have hlt := h.lt
  obtain ⟨cs, h1, h2⟩ := h
  exact ⟨cs, (hb.block B hlt).trans h1, h2⟩
theorem PArr.set {w : World} {B T n : Nat} {f : Nat → Int × Int} (h : PArr w B T n f) (i : Nat) (p : Int × Int) :
    PArr ((w.setCell ⟨B, i * 2, none⟩ (.int .i64 p.1)).setCell ⟨B, i * 2 + 1, none⟩ (.int .i64 p.2)) B T n (fun j => if j = i then p else f j) := by
  obtain ⟨cs, h1, h2, h3⟩ := h
  refine ⟨(cs.setIfInBounds (i * 2) (.int .i64 p.1)).setIfInBounds (i * 2 + 1) (.int .i64 p.2), heap_setCell_same _ B _ _ T _ (heap_setCell_same w B _ cs T _ h1), by simpa using h2, fun j hj => ?_⟩
  by_cases hji : j = i
  · subst hji
    constructor
    · rw [Array.getElem?_setIfInBounds_ne (by omega), Array.getElem?_setIfInBounds_self_of_lt (by omega)]; simp
    · rw [Array.getElem?_setIfInBounds_self_of_lt (by simp; omega)]; simp
  · simp only [hji, if_false]
    constructor
    · rw [Array.getElem?_setIfInBounds_ne (by omega), Array.getElem?_setIfInBounds_ne (by omega)]; exact (h3 j hj).1
    · rw [Array.getElem?_setIfInBounds_ne (by omega), Array.getElem?_setIfInBounds_ne (by omega)]; exact (h3 j hj).2

theorem PArr.own {w : World} {B T n base : Nat} {f : Nat → Int × Int} (h : PArr w B T n f) (hb : base ≤ B) (hn : n ≤ maxLen) :
    w.ownsRow base T 2 (.slice (some ⟨B, 0, none⟩) n n) n (flat2 ((List.range n).map f)) := by
  obtain ⟨cs, h1, h2, h3⟩ := h
  refine ⟨by rw [flat2_length]; simp, .inr ⟨B, n, cs, rfl, hb, h1, Nat.le_refl _, hn, h2, ?_⟩⟩
  rw [List.take_of_length_le (by simp [h2])]
  apply List.ext_getElem?
  intro j
  by_cases hj : j < n * 2
  · have hq : j / 2 < n := by omega
    obtain ⟨g1, g2⟩ := h3 (j / 2) hq
    obtain ⟨k1, k2⟩ := flat2_at ((List.range n).map f) (j / 2) (f (j / 2)) (by simp [hq])
    rcases Nat.mod_two_eq_zero_or_one j with hm | hm
    · rw [show j / 2 * 2 = j by omega] at g1 k1
      rw [k1, Array.getElem?_toList, g1]
    · rw [show j / 2 * 2 + 1 = j by omega] at g2 k2
      rw [k2, Array.getElem?_toList, g2]
  · rw [List.getElem?_eq_none (by simp [h2]; omega), List.getElem?_eq_none (by rw [flat2_length]; simp; omega)]

theorem PArr.of_made {w : World} {base T n g : Nat} (h : w.ownsRow base T 2 (.slice (some ⟨g, 0, none⟩) n n) n (madeCells #[.int .i64 0, .int .i64 0] (n * 2)).toList) : PArr w g T n (fun _ => (0, 0)) := by
  obtain ⟨h1, h2⟩ := h
  rcases h2 with ⟨h2, _⟩ | ⟨g', cap, cur, hv, _, hg, hn, _, hs, ht⟩
  · simp at h2
  · simp only [Value.slice.injEq, Option.some.injEq, Addr.mk.injEq, and_true, true_and] at hv
    obtain ⟨rfl, rfl⟩ := hv
    rw [List.take_of_length_le (by simp [hs])] at ht
    have e : cur = madeCells #[.int .i64 0, .int .i64 0] (n * 2) := Array.toList_inj.1 ht
    refine ⟨cur, hg, hs, fun j hj => ?_⟩
    rw [e]
    constructor
    · simp [madeCells, show j * 2 < n * 2 by omega]
    · simp [madeCells, show j * 2 + 1 < n * 2 by omega, show (j * 2 + 1) % 2 = 1 by omega]

theorem own_mono {w : World} {base base' : Nat} {e : TypeId} {size n : Nat} {v : Value} {xs : List Value} (h : w.ownsRow base e size v n xs) (hb : base' ≤ base) : w.ownsRow base' e size v n xs := by
  obtain ⟨h1, h2⟩ := h
  refine ⟨h1, ?_⟩
  rcases h2 with h2 | ⟨g, cap, cur, hv, hg, r⟩
  · exact .inl h2
  · exact .inr ⟨g, cap, cur, hv, Nat.le_trans hb hg, r⟩

theorem info_int : (Tryz.prog.info? 3).map (fun i => (i.zero, i.size, i.bytes)) = some (some (.int .i64 0), 1, 8) := by kernel_rfl
theorem info_share : (Tryz.prog.info? 48).map (fun i => (i.zero, i.size, i.bytes)) = some (some (.agg #[.int .i64 0, .int .i64 0]), 2, 16) := by kernel_rfl

/-- The shares of the polynomial with the coefficients p. -/
def shs (p : List Int) (m : Nat) : List (Int × Int) := (List.range m).map fun (i : Nat) => ((i : Int) + 1, evp p ((i : Int) + 1))

theorem shs_length (p : List Int) (m : Nat) : (shs p m).length = m := by simp [shs]

set_option maxRecDepth 100000 in
set_option maxRecDepth 100000 in
set_option maxHeartbeats 1600000 in
theorem split_any (secret : Int) (n m : Nat) (A : Option Addr) (c : Nat) (random : List Int) (w : World) (hA : Ints w A random) (h1 : 1 ≤ n) (h2 : n ≤ m) (h3 : m ≤ 16) (hn : random.length + 1 ≤ n) (hn' : n ≤ random.length + 1)
    (hall : (secret :: random).all elemB = true) :
    Calls Tryz.prog 101 #[.int .i64 secret, .int .i64 n, .int .i64 m, .slice A random.length c] w fun e w' =>
      ∃ v, e = .returned (.tuple #[v, .int .i64 0]) ∧ w'.ownsRow w.heap.size 48 2 v m (flat2 (shs (secret :: random) m)) ∧ Below w.heap.size w w' := by
  have HA := Lib.hid hA; clear hA
  have HALL := Lib.hid hall; clear hall
  have hmf : ∀ (fn : Fn) (first cap : Array Value) (w : World), (Instr.makeFunc fn first cap).run Tryz.prog w = .ok (.func fn first cap) w := fun _ _ _ _ => rfl
  have hb1 : ((random.length : Int) != (n : Int) - 1) = false := by simp; omega
  have hb2 : ((random.length : Int) == (n : Int) - 1) = true := by simp; omega
  obtain ⟨i0, hi0, hz0, hz1, hz2⟩ := info_parts info_int
  have hown0 := World.ownsRow_lit (base := w.heap.size) (e := 3) (size := 1) w #[Value.int .i64 secret] 1 (Nat.le_refl _) (by simp [maxLen]) rfl
  have HO := Lib.hid hown0; clear hown0
  go_enter Tryz.func101, Tryz.ntmps101
  go_wp2_with (at_builtin; refine wpList_app _ rfl (.tmp 41) (.tmp 42) 159 23 rfl w.heap.size 3 3 i0 (.int .i64 0) 1 8 Tryz.underlying159 Tryz.underlying23 hi0 hz0 hz1 hz2 rfl (by omega) _ 1 _ rfl HO.out A random.length c _ rfl (HA.out.below (below_alloc (Below.refl _ _) _)) (ints_oneCell _ _) (by simp only [maxLen]; omega) (by omega) (by simp) ?_)
  intro v1 w1 hown1 hg1
  obtain ⟨A1, c1, hv1, hc1, hm1, hrd1⟩ := Rd.of_own hown1
  obtain ⟨p, hp⟩ : ∃ p, p = secret :: random := ⟨_, rfl⟩
  have hpl : 1 + random.length = p.length := by rw [hp]; simp; omega
  rw [hpl] at hv1 hrd1
  have hp1 : p.length ≤ 16 := by omega
  subst hv1
  have hI1 : Ints w1 A1 p := by rw [hp] at hrd1 ⊢; exact hrd1
  have hB1 : Below w.heap.size w w1 := (below_alloc (Below.refl _ _) _).grown hg1 (by simp) (by simp [Value.ownBlock])
  clear hown1 hg1 hrd1 hpl
  have HI1 := Lib.hid hI1; clear hI1
  have HB1 := Lib.hid hB1; clear hB1
  rw [← hp] at HALL
  have HP := Lib.hid hp
  clear hp HO HA hn hn' hb1 hb2
  go_wp2_with fail
  go_loop [46] (fun u => ∃ k : Nat, k ≤ p.length ∧ u = .int .i64 k) (fun u => p.length - (intOf u).toNat)
  case atStart => exact ⟨0, Nat.zero_le _, rfl⟩
  case round =>
    obtain ⟨k, hk, rfl⟩ := hrel
    by_cases hlt : k < p.length
    · obtain ⟨x, hx⟩ := get_some p k hlt
      obtain ⟨b, off, rfl, hcell⟩ := HI1.out.at_ hx
      have hex : elemB x = true := List.all_eq_true.1 HALL.out x (List.mem_of_getElem? hx)
      have HEX := Lib.hid hex; clear hex hx
      go_wp2_with fail
      refine (selement_any _ _).mono ?_
      rintro e w' ⟨rfl, rfl⟩
      rw [HEX.out]
      go_wp2
      go_round
      case rel => exact ⟨k + 1, by omega, by go_num⟩
      case measure => simp [intOf]; omega
    · obtain ⟨i1, hi1, hy0, hy1, hy2⟩ := info_parts info_share
      go_wp2_with (at_make; refine wpList_make_full _ rfl (.tmp 56) (.tmp 56) 100 rfl w.heap.size 48 i1 _ 2 Tryz.underlying100 hi1 hy0 hy1 _ _ _ _ m rfl rfl rfl rfl (by rw [hy2]; omega) (by simp only [maxLen]; omega) HB1.out.size ?_)
      intro w2 hown2 hg2
      have hP0 := Lib.hid (PArr.of_made hown2)
      have hB2 := Lib.hid ((Below.refl w1.heap.size w1).grown hg2 (Nat.le_refl _) (by simp))
      clear hown2 hg2
      go_wp2_with fail
      go_loopw [15, 59] (fun _ u59 wr => ∃ (i : Nat) (f : Nat → Int × Int), i ≤ m ∧ u59 = .int .i64 i ∧ Below w1.heap.size w1 wr ∧ PArr wr w1.heap.size 48 m f ∧ (∀ j : Nat, j < i → f j = ((j : Int) + 1, evp p ((j : Int) + 1)))) (fun _ u59 _ => m - (intOf u59).toNat)
      case atStart => exact ⟨0, _, Nat.zero_le _, rfl, hB2.out, hP0.out, by simp⟩
      case round =>
        obtain ⟨i, f, hi, rfl, hB, hP, hf⟩ := hrel
        have HB := Lib.hid hB; clear hB
        have HPA := Lib.hid hP; clear hP
        have HF := Lib.hid hf; clear hf
        by_cases hli : i < m
        · have hc := HPA.out.cell i hli
          have hc1 := hc.1
          have hc2 := hc.2
          have hf1 := HPA.out.frozen (i * 2)
          have hf2 := HPA.out.frozen (i * 2 + 1)
          clear hc
          have hex : elemB ((i : Int) + 1) = true := by rw [elemB_iff]; omega
          have hp := Lib.hid (polyat_any A1 c1 p ((i : Int) + 1) wr (HI1.out.below HB.out) hp1 HALL.out hex)
          clear hex
          go_wp2_with fail
          refine hp.out.mono ?_
          rintro e w' ⟨rfl, rfl⟩
          go_wp2
          go_roundw
          case rel =>
            refine ⟨i + 1, _, by omega, by go_num, ((HB.out).setCell (p := ⟨w1.heap.size, i * 2, none⟩) (Nat.le_refl _) _).setCell (p := ⟨w1.heap.size, i * 2 + 1, none⟩) (Nat.le_refl _) _, HPA.out.set i ((i : Int) + 1, evp p ((i : Int) + 1)), fun j hj => ?_⟩
            by_cases hji : j = i
            · subst hji; simp
            · simp only [hji, if_false]; exact HF.out j (by omega)
          case measure => simp [intOf]; omega
        · have him : i = m := by omega
          have hown := HPA.out.own (Nat.le_refl _) (by simp only [maxLen]; omega)
          have he : (List.range m).map f = shs p m := by
            unfold shs
            apply List.map_congr_left
            intro j hj
            exact HF.out j (by have := List.mem_range.1 hj; omega)
          rw [he] at hown
          have HOWN := Lib.hid hown
          clear hown him he
          go_wp2
          go_ret2
          rw [← HP.out]
          exact ⟨_, rfl, own_mono HOWN.out HB1.out.size, HB1.out.trans (HB.out.mono HB1.out.size)⟩
end

end Go.Proofs.YtjfondfjdhjooaaGreatDoor
