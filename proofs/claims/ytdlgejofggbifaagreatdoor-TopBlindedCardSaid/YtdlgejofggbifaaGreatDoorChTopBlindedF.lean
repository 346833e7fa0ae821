/- The law BlindingQuorum: the walk. observatorytop: w09Opened: keepers offer their shares as bits say; the vault opens exactly if there are enough. observatorytop: w09Other: shares of another secret that agree at need - 1 places. observatorytop: w09Hidden: two of three keepers open a vault, one alone does not. The law BlindingBack: the walk. TopBlinded: what its walks share. -/
import Derived.Test.YtdlgejofggbifaaGreatDoorChTopBlindedE
import Derived.Deep.AppendLies
namespace Go.Proofs.YtdlgejofggbifaaGreatDoor

section
open Go.RowKit

theorem shChk_at (l : List (Int × Int)) (hl : l.length ≤ 16) (h1 : 1 ≤ l.length) (hv : l.all validB = true) (hp : ∀ (j : Nat) (t : Int × Int), l[j]? = some t → t.1 = (j : Int) + 1) (k : Nat) (t : Int × Int) (ht : l[k]? = some t) :
    shChk (rt (l.map shLf)) (l.length : Int) t (pt (l.map shLf) k) = true := shChk_own l k t hl h1 ht (hp k t ht) (List.all_eq_true.1 hv t (List.mem_of_getElem? ht))
theorem pl_le (l : List (Int × Int)) (k : Nat) (hl : l.length ≤ 16) (h1 : 1 ≤ l.length) : (pt (l.map shLf) k).length ≤ 1000000 := by
  rw [pt_len]
  have := plen_lt_n (l.map shLf).length k (by rw [List.length_map]; exact h1)
  rw [List.length_map] at this ⊢
  omega

/-- What the flags say of the shares that were offered. -/
structure Flg (p : List Int) (m : Nat) (S : List (Int × Int)) (F : List Bool) : Prop where
  on : On p S
  hi : ∀ s, s ∈ S → s.1 ≤ m
  len : F.length = m
  flag : ∀ j, j < m → F[j]? = some (fnd S ((j : Int) + 1)).isSome
theorem Flg.nil (p : List Int) (m : Nat) : Flg p m [] (List.replicate m false) :=
  ⟨⟨by simp, by simp, by simp⟩, by simp, by simp, fun j hj => by simp [hj, fnd]⟩
theorem Flg.same {p : List Int} {m : Nat} {S : List (Int × Int)} {F : List Bool} (h : Flg p m S F) {k : Nat} (hk : k < m) (ht : F[k]? = some true) : Flg p m S (F.set k true) := by
  have e : F.set k true = F := by
    apply List.ext_getElem?
    intro j
    by_cases hj : j = k
    · subst hj; rw [List.getElem?_set_self (by rw [h.len]; exact hk), ht]
    · rw [List.getElem?_set_ne (fun e => hj e.symm)]
  rw [e]; exact h
theorem Flg.snoc {p : List Int} {m : Nat} {S : List (Int × Int)} {F : List Bool} (h : Flg p m S F) (hm : m ≤ 16) {k : Nat} (hk : k < m) (hf : fnd S ((k : Int) + 1) = none) : Flg p m (S ++ [((k : Int) + 1, evp p ((k : Int) + 1))]) (F.set k true) := by
  refine ⟨⟨fun s hs => ?_, fun s hs => ?_, ?_⟩, fun s hs => ?_, by rw [List.length_set]; exact h.len, fun j hj => ?_⟩
  · rcases List.mem_append.1 hs with h1 | h1
    · exact h.on.place s h1
    · rw [List.mem_singleton.1 h1]; simp only; omega
  · rcases List.mem_append.1 hs with h1 | h1
    · exact h.on.value s h1
    · rw [List.mem_singleton.1 h1]
  · rw [List.map_append, List.nodup_append]
    refine ⟨h.on.nodup, by simp, ?_⟩
    intro a ha b hb e
    simp only [List.map_cons, List.map_nil, List.mem_singleton] at hb
    exact fnd_none.1 hf (by rw [← hb, ← e]; exact ha)
  · rcases List.mem_append.1 hs with h1 | h1
    · exact h.hi s h1
    · rw [List.mem_singleton.1 h1]; simp only; omega
  · rw [fnd_snoc]
    by_cases hjk : j = k
    · subst hjk
      rw [List.getElem?_set_self (by rw [h.len]; exact hk), hf, if_pos rfl]; rfl
    · rw [List.getElem?_set_ne (fun e => hjk e.symm), h.flag j hj, if_neg (by simp only; omega), Option.or_none]
theorem Flg.join {p : List Int} {m n : Nat} {S : List (Int × Int)} {F : List Bool} (h : Flg p m S F) (hn : 1 ≤ n) (hn' : n ≤ 16) (hp : p.length ≤ n) : opnR (n : Int) m S false = if S.length < n then (0, 25) else (evp p 0, 0) := by
  show joinF (ord S m) n = _
  rw [joinF_perm (ord_perm h.on.nodup (fun s hs => ⟨(h.on.place s hs).1, h.hi s hs⟩))]
  by_cases hl : S.length < n
  · rw [if_pos hl]; exact joinF_on_few p n S h.on hn hn' hl
  · rw [if_neg hl]; exact joinF_on p n S h.on hn hn' hp (by omega)
theorem Flg.few {p : List Int} {m : Nat} {S : List (Int × Int)} {F : List Bool} (h : Flg p m S F) : S.length ≤ m := by
  have h1 := (ord_perm h.on.nodup (fun s hs => ⟨(h.on.place s hs).1, h.hi s hs⟩)).length_eq
  have h2 := ord_len S m
  omega

set_option maxRecDepth 100000 in
set_option maxHeartbeats 64000000 in
theorem quorum_walk (secret : Int) (A : Option Addr) (c : Nat) (raw : List Int) (a b : Nat) (B0 : Option Addr) (d : Nat) (order : List Nat) (w : World) (hT : Tabs w) (hA : Ints w A raw) (hO : U8s w B0 order) (hraw : raw.length ≤ 9223372036854775807) (ha : a < 256) (hb : b < 256) (hol : order.length ≤ 9223372036854775807) (ho8 : ∀ x, x ∈ order → x < 256) :
    Calls Tryz.prog 6 #[.int .i64 secret, .slice A raw.length c, .int .u8 a, .int .u8 b, .slice B0 order.length d] w fun e w' => e = .returned (.bool true) ∧ Below w.heap.size w w' := by
  have HH := Lib.hid (bhead_any w hT)
  have HT : Hid (∀ W, Below w.heap.size w W → Tabs W) := Lib.hid (fun W hW => hT.below hW)
  have HA : Hid (∀ W, Below w.heap.size w W → _) := Lib.hid (fun W hW => made_any secret A c raw a b W (hA.below hW) hraw ha hb)
  have HO : Hid (∀ W, Below w.heap.size w W → U8s W B0 order) := Lib.hid (fun W hW => hO.below hW)
  have HO8 := Lib.hid ho8
  clear hT hA hO ho8
  by_cases hz : 20 < order.length
  case pos =>
    have hd1 : decide (20 < order.length) = true := decide_eq_true hz
    have hi1 : (20 : Int) < (order.length : Int) := by omega
    have hd2 : decide ((20 : Int) < (order.length : Int)) = true := decide_eq_true hi1
    go_enter Tryz.func6, Tryz.ntmps6
    go_wp2_with fail
    refine (HH.out).mono ?_
    rintro e w1 ⟨rfl, hb1⟩
    have HB1 := Lib.hid hb1
    clear hb1
    go_wp2
    go_ret
    exact ⟨rfl, HB1.out⟩
  case neg =>
  have hd1 : decide (20 < order.length) = false := decide_eq_false hz
  have hi1 : ¬ (20 : Int) < (order.length : Int) := by omega
  have hd2 : decide ((20 : Int) < (order.length : Int)) = false := decide_eq_false hi1
  obtain ⟨n, hn⟩ : ∃ n, n = 1 + a % 4 := ⟨_, rfl⟩
  obtain ⟨m, hm⟩ : ∃ m, m = 1 + a % 4 + b % 3 := ⟨_, rfl⟩
  have hn1 : 1 ≤ n := by omega
  have hnm : n ≤ m := by omega
  have hm6 : m ≤ 6 := by omega
  obtain ⟨p, hp⟩ : ∃ p, p = (secret % 2147483647) :: madeL raw (a % 4) := ⟨_, rfl⟩
  have hpn : p.length = n := by rw [hp, List.length_cons, madeL_length]; omega
  have hp0 : evp p 0 = secret % 2147483647 := by rw [hp]; exact evp_zero _ _ (elemB_mod secret)
  rw [← hm, ← hn, ← hp] at HA
  obtain ⟨l, hl⟩ : ∃ l, l = shs p m := ⟨_, rfl⟩
  have hll : l.length = m := by rw [hl]; exact shs_length _ _
  have hon : On p l := by rw [hl]; exact shs_on p m (by omega)
  have hval := hon.valid
  have hplc : ∀ (j : Nat) (t : Int × Int), l[j]? = some t → t.1 = (j : Int) + 1 ∧ t = ((j : Int) + 1, evp p ((j : Int) + 1)) := fun j t h => by
    have h1 := shs_place p m j t (by rw [← hl]; exact h)
    have h2 := hon.value t (List.mem_of_getElem? h)
    exact ⟨h1, Prod.ext h1 (by rw [h2, h1])⟩
  rw [← hl] at HA
  have HPLC := Lib.hid hplc
  have HVAL := Lib.hid hval
  have HP0 := Lib.hid hp0
  have HPN := Lib.hid hpn
  have HLL := Lib.hid hll
  have HCK : Hid (∀ (k : Nat) (t : Int × Int), l[k]? = some t → shChk (rt (l.map shLf)) (m : Int) t (pt (l.map shLf) k) = true) := Lib.hid (fun k t h => by
    have := shChk_at l (by omega) (by omega) hval (fun j t h => (hplc j t h).1) k t h
    rwa [hll] at this)
  have HPL : Hid (∀ k, (pt (l.map shLf) k).length ≤ 1000000) := Lib.hid (fun k => pl_le l k (by omega) (by omega))
  have HPS : Hid (∀ k, sm (pt (l.map shLf) k)) := Lib.hid (fun k => pt_below _ _ (shLf_sm _))
  have HPT0 : Hid (∀ (A' : Option Addr) (c' k : Nat) (W : World), Prs W A' l → k < m → Tabs W → Calls Tryz.prog 30 #[.slice A' m c', .int .i64 k] W fun e w' => ∃ A' c', e = .returned (.slice A' (pt (l.map shLf) k).length c') ∧ (pt (l.map shLf) k).length ≤ c' ∧ Strs w' A' (pt (l.map shLf) k) ∧ Below W.heap.size W w') := Lib.hid (fun A' c' k W hP hk hT => by
    have := lpath_any A' c' l k W hP (by omega) hval (by omega) hT
    rw [hll] at this
    exact this)
  have HRT : Hid (∀ (A' : Option Addr) (c' : Nat) (W : World), Prs W A' l → Tabs W → Calls Tryz.prog 29 #[.slice A' m c'] W fun e w' => e = .returned (.tuple #[.string (rt (l.map shLf)), .int .i64 0]) ∧ Below W.heap.size W w') := Lib.hid (fun A' c' W hP hT => by
    have := sroot_any A' c' l W hP (by omega) (by omega) hval hT
    rw [hll] at this
    exact this)
  have HRD : Hid (isD (rt (l.map shLf)) = true) := Lib.hid (isD_rt _ (shLf_D _))
  have HRS : Hid ((rt (l.map shLf)).size ≤ 1000000000) := Lib.hid (by have := rt_size (l.map shLf) (shLf_sm _); omega)
  generalize rt (l.map shLf) = R at *
  generalize pt (l.map shLf) = P at *
  obtain ⟨i0, hi0, hz0, hz1, hz2⟩ := info_parts info_bool
  have HI := Lib.hid (And.intro hi0 (And.intro hz0 (And.intro hz1 hz2)))
  clear hi0 hz0 hz1 hz2 hn hm hp hl hll hon hval hplc hpn hp0 hraw ha hb
  go_enter Tryz.func6, Tryz.ntmps6
  go_wp2_with fail
  refine (HH.out).mono ?_
  rintro e w1 ⟨rfl, hb1⟩
  have HB1 := Lib.hid hb1
  clear hb1
  go_wp2_with fail
  refine (HA.out w1 HB1.out).mono ?_
  rintro e w2 ⟨v2, rfl, ho2, hb2⟩
  obtain ⟨A2, c2, rfl, -, -, hr2⟩ := Rd.of_own ho2
  have HB2 := Lib.hid (below_trans HB1.out hb2)
  have HP2 : Hid (∀ W, Below w2.heap.size w2 W → Prs W A2 l) := Lib.hid (fun W hW => Prs.below (by unfold Prs; rw [HLL.out]; exact hr2) hW)
  clear ho2 hb2 hr2
  go_wp2_with fail
  refine (HRT.out A2 c2 w2 (HP2.out _ (Below.refl _ _)) (HT.out _ HB2.out)).mono ?_
  rintro e w3 ⟨rfl, hb3⟩
  have HB3 := Lib.hid (below_trans HB2.out hb3)
  have HP3 : Hid (∀ W, Below w3.heap.size w3 W → Prs W A2 l) := Lib.hid (fun W hW => HP2.out W (below_trans hb3 hW))
  clear hb3 HP2
  go_wp2_with fail
  refine (vnew_ok n m R w3 HRS.out hn1 hnm (by omega) HRD.out).mono ?_
  rintro e w4 ⟨g, B, rfl, hV, hg, hB, hb4⟩
  have HV4 := Lib.hid hV
  have HGB : Hid (∀ k, k ∈ [g, B] → w3.heap.size ≤ k) := Lib.hid (by intro k hk; simp only [List.mem_cons, List.not_mem_nil, or_false] at hk; rcases hk with rfl | rfl <;> assumption)
  have HGL : Hid (∀ k, k ∈ [g, B] → k < w4.heap.size) := Lib.hid (by intro k hk; have := hV.lt; simp only [List.mem_cons, List.not_mem_nil, or_false] at hk; rcases hk with rfl | rfl <;> omega)
  have HY4 : Hid (Below w3.heap.size w3 w4) := Lib.hid hb4
  clear hV hg hB hb4
  have hne0 : ((m : Int) == 0) = false := by simp; omega
  have HPT : Hid (∀ (k : Nat) W, k < m → Below w3.heap.size w3 W → _) := Lib.hid (fun k W hk hW => HPT0.out A2 c2 k W (HP3.out W hW) hk (HT.out W (below_trans HB3.out hW)))
  have HOF : Hid (∀ (s : Int × Int) (SS : List (Int × Int)) (opn : Bool) (C : Option Addr) (f k : Nat) W, SS.length ≤ 1000 → PV W g B n m R SS opn → Strs W C (P k) → (P k).length ≤ f → Below w3.heap.size w3 W → _) := Lib.hid (fun s SS opn C f k W hn hV hC hf hW => voffer_any g B n m R SS opn s C f (P k) W hV hn hC (HPL.out k) hf (HPS.out k) (HT.out W (below_trans HB3.out hW)))
  go_wp2_with (at_make; refine wpList_make_full _ rfl (.tmp 71) (.tmp 71) 57 rfl w4.heap.size 4 i0 _ 1 Tryz.underlying57 HI.out.1 HI.out.2.1 HI.out.2.2.1 _ _ _ _ m rfl rfl rfl rfl (by rw [HI.out.2.2.2]; omega) (by simp only [maxLen]; omega) (Nat.le_refl _) ?_)
  intro w5 hown5 hg5
  have HF5 := Lib.hid (BArr.of_made hown5).1
  have HB5 := Lib.hid ((Below.refl w4.heap.size w4).grown hg5 (Nat.le_refl _) (by simp))
  have HV5 := Lib.hid (HV4.out.below HB5.out)
  have HY5 := Lib.hid (below_trans HY4.out HB5.out)
  obtain ⟨gb, hgb⟩ : ∃ gb, gb = w4.heap.size := ⟨_, rfl⟩
  have HGBN : Hid (gb ∉ [g, B] ∧ w3.heap.size ≤ gb) := Lib.hid ⟨fun h => by have := HGL.out gb h; omega, by have := HY4.out.size; omega⟩
  rw [← hgb] at HF5 ⊢
  have HFL0 := Lib.hid (Flg.nil p m)
  clear hown5 hg5 hgb HGL
  go_wp2_with fail
  go_loopw [20, 21, 22, 23] (fun u20 u21 _ _ wr => ∃ (i : Nat) (SS : List (Int × Int)) (FF : List Bool), i ≤ order.length ∧ u21 = .int .i64 i ∧ u20 = .int .i64 SS.length ∧ Below w3.heap.size w3 wr ∧ PV wr g B n m R SS false ∧ BArr wr gb 4 FF ∧ Flg p m SS FF) (fun _ u21 _ _ _ => order.length - (intOf u21).toNat)
  case atStart => exact ⟨0, [], _, Nat.zero_le _, rfl, rfl, HY5.out, HV5.out, HF5.out, HFL0.out⟩
  case round =>
  obtain ⟨i, SS, FF, hi, rfl, rfl, hb, hV, hF, hfl⟩ := hrel
  have HW := Lib.hid hb
  have HV := Lib.hid hV
  have HF := Lib.hid hF
  have HFL := Lib.hid hfl
  have hsl := hfl.few
  clear hb hV hF hfl
  by_cases hlt : i < order.length
  case pos =>
    obtain ⟨x, hx⟩ := get_some order i hlt
    have hx8 := HO8.out x (List.mem_of_getElem? hx)
    obtain ⟨bo, oo, rfl, hco⟩ := (HO.out wr (below_trans HB3.out HW.out)).at_ hx
    have hcl := lt_of_cell hco
    obtain ⟨k, hk⟩ : ∃ k, k = x % m := ⟨_, rfl⟩
    have hkm : k < m := by rw [hk]; exact Nat.mod_lt _ (by omega)
    have hrem : (x : Int).tmod (m : Int) = (k : Int) := by rw [Int.tmod_eq_emod_of_nonneg (by omega), hk, Int.natCast_emod]
    have hrem' : (x : Int) % (m : Int) = (k : Int) := by rw [hk, Int.natCast_emod]
    have hm0 : ¬ (m : Int) = 0 := by omega
    obtain ⟨s, hs⟩ := get_some l k (by rw [HLL.out]; exact hkm)
    have HS := Lib.hid hs
    have hp1 := (HPLC.out k s hs).1
    have HSE := Lib.hid (HPLC.out k s hs).2
    have HC := Lib.hid (HCK.out k s hs)
    obtain ⟨bl, ol, hA2, q1, q2⟩ := (HP3.out wr HW.out).at_ hs
    subst hA2
    clear q1 q2 hx hs hk
    have hflag := HFL.out.flag k hkm
    obtain ⟨fl, hfl⟩ : ∃ fl, (fnd SS ((k : Int) + 1)).isSome = fl := ⟨_, rfl⟩
    rw [hfl] at hflag
    have HFG := Lib.hid hflag
    have HFN := Lib.hid hfl
    have hki : (k : Int) < (m : Int) := by omega
    clear hflag hfl
    cases fl
    case true =>
      have he : offE R (m : Int) SS false s (P k) = 8 := by
        unfold offE
        rw [HC.out, hp1, HFN.out]; rfl
      have hss : offS R (m : Int) SS false s (P k) = SS := by unfold offS; rw [he]; rfl
      have HE := Lib.hid he
      have HSS := Lib.hid hss
      clear he hss hp1
      go_wp2_with fail
      clear hco hcl hrem hrem' hm0
      refine wp_region_held_drew (S := fun W => Below w3.heap.size w3 W) (by kernel_rfl) (HW.out.drew) (fun hS0 => ?_)
      refine wpAnyH_take (i := 0) (v := ?_) rfl (by kernel_rfl) (by kernel_rfl) (by kernel_rfl) (fun _ _ _ h => h) (Or.inl ⟨by kernel_rfl, ?hy⟩) hS0 ?rest
      case hy => (intro W hSw; clear hSw; go_simp; with_reducible rfl)
      case rest =>
      refine wpAnyH_take (i := 1) (v := ?_) rfl (by kernel_rfl) (by kernel_rfl) (by kernel_rfl) (fun _ _ _ h => h) (Or.inl ⟨by kernel_rfl, ?hy⟩) hS0 ?rest
      case hy => (intro W hSw; clear hSw; go_simp; with_reducible rfl)
      case rest =>
      refine wpAnyH_take (i := 2) (v := ?_) rfl (by kernel_rfl) (by kernel_rfl) (by kernel_rfl) (fun _ _ _ h => h) (Or.inl ⟨by kernel_rfl, ?hy⟩) hS0 ?rest
      case hy => (intro W hSw; clear hSw; go_simp; with_reducible rfl)
      case rest =>
      refine wpAnyH_take (i := 3) (v := ?_) rfl (by kernel_rfl) (by kernel_rfl) (by kernel_rfl) (fun _ _ _ h => h) (Or.inl ⟨by kernel_rfl, ?hy⟩) hS0 ?rest
      case hy => (intro W hSw; clear hSw; go_simp; with_reducible rfl)
      case rest =>
      refine wpAnyH_take (i := 4) (v := ?_) rfl (by kernel_rfl) (by kernel_rfl) (by kernel_rfl) (fun _ _ _ h => h) (Or.inl ⟨by kernel_rfl, ?hy⟩) hS0 ?rest
      case hy => (intro W hSw; obtain ⟨bl, ol, he, q1, q2⟩ := (HP3.out W hSw).at_ HS.out; cases he; have ql := lt_of_cell q1; clear hSw; go_simp; with_reducible rfl)
      case rest =>
      refine wpAnyH_take (i := 5) (v := ?_) rfl (by kernel_rfl) (by kernel_rfl) (by kernel_rfl) (fun _ _ _ h => h) (Or.inl ⟨by kernel_rfl, ?hy⟩) hS0 ?rest
      case hy => (intro W hSw; clear hSw; go_simp; with_reducible rfl)
      case rest =>
      refine wpAnyH_take (i := 6) (v := ?_) rfl (by kernel_rfl) (by kernel_rfl) (by kernel_rfl) (fun _ _ _ h => h) (Or.inl ⟨by kernel_rfl, ?hy⟩) hS0 ?rest
      case hy => (intro W hSw; clear hSw; go_simp; with_reducible rfl)
      case rest =>
      refine wpAnyH_ready (rs := [7]) (by kernel_rfl) (by simp) ?_
      refine AllReadyH.cons rfl (fun K hK => ?_) (AllReadyH.nil)
      go_simp
      refine (HPT.out k _ hkm HW.out.drew).mono ?_
      rintro e wp ⟨C, f, rfl, hf, hC, hb⟩
      have HYP := Lib.hid (below_trans HW.out.drew hb)
      have HVP := Lib.hid (HV.out.below (below_trans (Below.refl _ _).drew hb))
      have HFP := Lib.hid (HF.out.below (below_trans (Below.refl _ _).drew hb))
      have HCP := Lib.hid hC
      clear hb hC
      go_simp
      refine hK.out _ _ HYP.out (fun hS1 => ?_)
      clear hK K
      refine wpAnyH_ready (rs := [8]) (by kernel_rfl) (by simp) ?_
      refine AllReadyH.cons rfl (fun K hK => ?_) (AllReadyH.nil)
      go_simp
      refine (HOF.out s SS false C f k wp (by omega) HVP.out HCP.out hf HYP.out).mono ?_
      rintro e w7 ⟨rfl, hV, hc⟩
      rw [HE.out]
      rw [HSS.out] at hV
      have HV7 := Lib.hid hV
      have HY7 := Lib.hid (below_chg HYP.out hc HGB.out)
      have HF7 : Hid (BArr w7 gb 4 FF) := Lib.hid (HFP.out.kept (hc.block gb HFP.out.lt HGBN.out.1))
      clear hV hc
      go_simp
      refine hK.out _ _ HY7.out (fun hS2 => ?_)
      clear hK K
      refine wpAnyH_take (i := 9) (v := ?_) rfl (by kernel_rfl) (by kernel_rfl) (by kernel_rfl) (fun _ _ _ h => h) (Or.inl ⟨by kernel_rfl, ?hy⟩) hS2 ?rest
      case hy => (intro W hSw; clear hSw; go_simp; with_reducible rfl)
      case rest =>
      refine wpAnyH_done (by kernel_rfl) ?_ _
      clear hS0 hS1 hS2 HYP HVP HFP HCP hf
      have c1 := HF7.out.cell k _ HFG.out
      have c2 := HF7.out.frozen k
      have c3 := HF7.out.lt
      have HPV : Hid (∀ SX, PV w7 g B n m R SX false → PV (w7.setCell ⟨gb, k, none⟩ (.bool true)) g B n m R SX false) := Lib.hid (fun SX h => h.kept (Below.heap_setCell w7 ⟨gb, k, none⟩ _ g (fun e => HGBN.out.1 (by have e' : g = gb := e; rw [← e']; simp))) (Below.heap_setCell w7 ⟨gb, k, none⟩ _ B (fun e => HGBN.out.1 (by have e' : B = gb := e; rw [← e']; simp))))
      go_wp2
      go_roundw
      case rel => exact ⟨i + 1, SS, FF.set k true, by omega, by go_num, rfl, HY7.out.setCell HGBN.out.2 _, HPV.out _ HV7.out, HF7.out.set k true, HFL.out.same hkm HFG.out⟩
      case measure => simp [intOf]; omega
    case false =>
      have he : offE R (m : Int) SS false s (P k) = 0 := by
        unfold offE
        rw [HC.out, hp1, HFN.out]; rfl
      have hss : offS R (m : Int) SS false s (P k) = SS ++ [s] := by unfold offS; rw [he]; rfl
      have HE := Lib.hid he
      have HSS := Lib.hid hss
      clear he hss hp1
      go_wp2_with fail
      clear hco hcl hrem hrem' hm0
      refine wp_region_held_drew (S := fun W => Below w3.heap.size w3 W) (by kernel_rfl) (HW.out.drew) (fun hS0 => ?_)
      refine wpAnyH_take (i := 0) (v := ?_) rfl (by kernel_rfl) (by kernel_rfl) (by kernel_rfl) (fun _ _ _ h => h) (Or.inl ⟨by kernel_rfl, ?hy⟩) hS0 ?rest
      case hy => (intro W hSw; clear hSw; go_simp; with_reducible rfl)
      case rest =>
      refine wpAnyH_take (i := 1) (v := ?_) rfl (by kernel_rfl) (by kernel_rfl) (by kernel_rfl) (fun _ _ _ h => h) (Or.inl ⟨by kernel_rfl, ?hy⟩) hS0 ?rest
      case hy => (intro W hSw; clear hSw; go_simp; with_reducible rfl)
      case rest =>
      refine wpAnyH_take (i := 2) (v := ?_) rfl (by kernel_rfl) (by kernel_rfl) (by kernel_rfl) (fun _ _ _ h => h) (Or.inl ⟨by kernel_rfl, ?hy⟩) hS0 ?rest
      case hy => (intro W hSw; clear hSw; go_simp; with_reducible rfl)
      case rest =>
      refine wpAnyH_take (i := 3) (v := ?_) rfl (by kernel_rfl) (by kernel_rfl) (by kernel_rfl) (fun _ _ _ h => h) (Or.inl ⟨by kernel_rfl, ?hy⟩) hS0 ?rest
      case hy => (intro W hSw; clear hSw; go_simp; with_reducible rfl)
      case rest =>
      refine wpAnyH_take (i := 4) (v := ?_) rfl (by kernel_rfl) (by kernel_rfl) (by kernel_rfl) (fun _ _ _ h => h) (Or.inl ⟨by kernel_rfl, ?hy⟩) hS0 ?rest
      case hy => (intro W hSw; obtain ⟨bl, ol, he, q1, q2⟩ := (HP3.out W hSw).at_ HS.out; cases he; have ql := lt_of_cell q1; clear hSw; go_simp; with_reducible rfl)
      case rest =>
      refine wpAnyH_take (i := 5) (v := ?_) rfl (by kernel_rfl) (by kernel_rfl) (by kernel_rfl) (fun _ _ _ h => h) (Or.inl ⟨by kernel_rfl, ?hy⟩) hS0 ?rest
      case hy => (intro W hSw; clear hSw; go_simp; with_reducible rfl)
      case rest =>
      refine wpAnyH_take (i := 6) (v := ?_) rfl (by kernel_rfl) (by kernel_rfl) (by kernel_rfl) (fun _ _ _ h => h) (Or.inl ⟨by kernel_rfl, ?hy⟩) hS0 ?rest
      case hy => (intro W hSw; clear hSw; go_simp; with_reducible rfl)
      case rest =>
      refine wpAnyH_ready (rs := [7]) (by kernel_rfl) (by simp) ?_
      refine AllReadyH.cons rfl (fun K hK => ?_) (AllReadyH.nil)
      go_simp
      refine (HPT.out k _ hkm HW.out.drew).mono ?_
      rintro e wp ⟨C, f, rfl, hf, hC, hb⟩
      have HYP := Lib.hid (below_trans HW.out.drew hb)
      have HVP := Lib.hid (HV.out.below (below_trans (Below.refl _ _).drew hb))
      have HFP := Lib.hid (HF.out.below (below_trans (Below.refl _ _).drew hb))
      have HCP := Lib.hid hC
      clear hb hC
      go_simp
      refine hK.out _ _ HYP.out (fun hS1 => ?_)
      clear hK K
      refine wpAnyH_ready (rs := [8]) (by kernel_rfl) (by simp) ?_
      refine AllReadyH.cons rfl (fun K hK => ?_) (AllReadyH.nil)
      go_simp
      refine (HOF.out s SS false C f k wp (by omega) HVP.out HCP.out hf HYP.out).mono ?_
      rintro e w7 ⟨rfl, hV, hc⟩
      rw [HE.out]
      rw [HSS.out] at hV
      have HV7 := Lib.hid hV
      have HY7 := Lib.hid (below_chg HYP.out hc HGB.out)
      have HF7 : Hid (BArr w7 gb 4 FF) := Lib.hid (HFP.out.kept (hc.block gb HFP.out.lt HGBN.out.1))
      clear hV hc
      go_simp
      refine hK.out _ _ HY7.out (fun hS2 => ?_)
      clear hK K
      refine wpAnyH_take (i := 9) (v := ?_) rfl (by kernel_rfl) (by kernel_rfl) (by kernel_rfl) (fun _ _ _ h => h) (Or.inl ⟨by kernel_rfl, ?hy⟩) hS2 ?rest
      case hy => (intro W hSw; clear hSw; go_simp; with_reducible rfl)
      case rest =>
      refine wpAnyH_done (by kernel_rfl) ?_ _
      clear hS0 hS1 hS2 HYP HVP HFP HCP hf
      have c1 := HF7.out.cell k _ HFG.out
      have c2 := HF7.out.frozen k
      have c3 := HF7.out.lt
      have HPV : Hid (∀ SX, PV w7 g B n m R SX false → PV (w7.setCell ⟨gb, k, none⟩ (.bool true)) g B n m R SX false) := Lib.hid (fun SX h => h.kept (Below.heap_setCell w7 ⟨gb, k, none⟩ _ g (fun e => HGBN.out.1 (by have e' : g = gb := e; rw [← e']; simp))) (Below.heap_setCell w7 ⟨gb, k, none⟩ _ B (fun e => HGBN.out.1 (by have e' : B = gb := e; rw [← e']; simp))))
      go_wp2
      go_roundw
      case rel => exact ⟨i + 1, SS ++ [s], FF.set k true, by omega, by go_num, by rw [List.length_append]; go_num, HY7.out.setCell HGBN.out.2 _, HPV.out _ HV7.out, HF7.out.set k true, by rw [HSE.out]; exact HFL.out.snoc (by omega) hkm (by have := HFN.out; cases h : fnd SS ((k : Int) + 1) with | none => rfl | some t => rw [h] at this; cases this)⟩
      case measure => simp [intOf]; omega
  case neg =>
  have HJ := Lib.hid (HFL.out.join hn1 (by omega) (by rw [HPN.out]; exact Nat.le_refl _))
  have HVO := Lib.hid (vopen_any g B n m R SS false wr HV.out (by omega))
  by_cases hfew : SS.length < n
  case pos =>
    have e25 : opnR (n : Int) m SS false = (0, 25) := by rw [HJ.out, if_pos hfew]
    rw [e25] at HVO
    clear e25
    go_wp2_with fail
    refine HVO.out.mono ?_
    rintro e w8 ⟨rfl, -, hc⟩
    have HY8 := Lib.hid (below_chg HW.out hc HGB.out)
    clear hc
    go_wp2
    go_ret
    exact ⟨rfl, below_trans HB3.out HY8.out⟩
  case neg =>
    have e0 : opnR (n : Int) m SS false = (secret % 2147483647, 0) := by rw [HJ.out, if_neg hfew, HP0.out]
    rw [e0] at HVO
    clear e0
    have hnf : ¬ (SS.length : Int) < (n : Int) := by omega
    obtain ⟨s0, hs0⟩ := get_some l 0 (by rw [HLL.out]; omega)
    obtain ⟨bl, ol, hA2, -, -⟩ := (HP3.out wr HW.out).at_ hs0
    subst hA2
    have HS0 := Lib.hid hs0
    have hmp : 0 < m := by omega
    have hmp' : (0 : Int) < (m : Int) := by omega
    clear hs0
    go_wp2_with fail
    refine HVO.out.mono ?_
    rintro e w8 ⟨rfl, hV, hc⟩
    have hV' : PV w8 g B n m R SS true := hV
    have HV8 := Lib.hid hV'
    have HY8 := Lib.hid (below_chg HW.out hc HGB.out)
    clear hc hV hV'
    have HVO2 := Lib.hid (vopen_any g B n m R SS true w8 HV8.out (by omega))
    have e11 : opnR (n : Int) m SS true = (0, 11) := rfl
    rw [e11] at HVO2
    clear e11
    go_wp2_with fail
    refine HVO2.out.mono ?_
    rintro e w9 ⟨rfl, hV, hc⟩
    have hV' : PV w9 g B n m R SS true := hV
    have HV9 := Lib.hid hV'
    have HY9 := Lib.hid (below_chg HY8.out hc HGB.out)
    clear hc hV hV'
    go_wp2_with fail
    refine wp_region_held_drew (S := fun W => Below w3.heap.size w3 W) (by kernel_rfl) (HY9.out.drew) (fun hS0 => ?_)
    refine wpAnyH_take (i := 0) (v := ?_) rfl (by kernel_rfl) (by kernel_rfl) (by kernel_rfl) (fun _ _ _ h => h) (Or.inl ⟨by kernel_rfl, ?hy⟩) hS0 ?rest
    case hy => (intro W hSw; clear hSw; go_simp; with_reducible rfl)
    case rest =>
    refine wpAnyH_take (i := 1) (v := ?_) rfl (by kernel_rfl) (by kernel_rfl) (by kernel_rfl) (fun _ _ _ h => h) (Or.inl ⟨by kernel_rfl, ?hy⟩) hS0 ?rest
    case hy => (intro W hSw; clear hSw; go_simp; with_reducible rfl)
    case rest =>
    refine wpAnyH_take (i := 2) (v := ?_) rfl (by kernel_rfl) (by kernel_rfl) (by kernel_rfl) (fun _ _ _ h => h) (Or.inl ⟨by kernel_rfl, ?hy⟩) hS0 ?rest
    case hy => (intro W hSw; clear hSw; go_simp; with_reducible rfl)
    case rest =>
    refine wpAnyH_take (i := 3) (v := ?_) rfl (by kernel_rfl) (by kernel_rfl) (by kernel_rfl) (fun _ _ _ h => h) (Or.inl ⟨by kernel_rfl, ?hy⟩) hS0 ?rest
    case hy => (intro W hSw; clear hSw; go_simp; with_reducible rfl)
    case rest =>
    refine wpAnyH_take (i := 4) (v := ?_) rfl (by kernel_rfl) (by kernel_rfl) (by kernel_rfl) (fun _ _ _ h => h) (Or.inl ⟨by kernel_rfl, ?hy⟩) hS0 ?rest
    case hy => (intro W hSw; clear hSw; go_simp; with_reducible rfl)
    case rest =>
    refine wpAnyH_take (i := 5) (v := ?_) rfl (by kernel_rfl) (by kernel_rfl) (by kernel_rfl) (fun _ _ _ h => h) (Or.inl ⟨by kernel_rfl, ?hy⟩) hS0 ?rest
    case hy => (intro W hSw; clear hSw; go_simp; with_reducible rfl)
    case rest =>
    refine wpAnyH_take (i := 6) (v := ?_) rfl (by kernel_rfl) (by kernel_rfl) (by kernel_rfl) (fun _ _ _ h => h) (Or.inl ⟨by kernel_rfl, ?hy⟩) hS0 ?rest
    case hy => (intro W hSw; clear hSw; go_simp; with_reducible rfl)
    case rest =>
    refine wpAnyH_take (i := 7) (v := ?_) rfl (by kernel_rfl) (by kernel_rfl) (by kernel_rfl) (fun _ _ _ h => h) (Or.inl ⟨by kernel_rfl, ?hy⟩) hS0 ?rest
    case hy => (intro W hSw; clear hSw; go_simp; with_reducible rfl)
    case rest =>
    refine wpAnyH_ready (rs := [8]) (by kernel_rfl) (by simp) ?_
    refine AllReadyH.cons rfl (fun K hK => ?_) (AllReadyH.nil)
    go_simp
    refine (lelement_any _ _).mono ?_
    rintro e _ ⟨rfl, rfl⟩
    go_simp
    refine hK.out _ _ HY9.out.drew (fun hS1 => ?_)
    clear hK K
    refine wpAnyH_take (i := 9) (v := ?_) rfl (by kernel_rfl) (by kernel_rfl) (by kernel_rfl) (fun _ _ _ h => h) (Or.inl ⟨by kernel_rfl, ?hy⟩) hS1 ?rest
    case hy => (intro W hSw; clear hSw; go_simp; with_reducible rfl)
    case rest =>
    refine wpAnyH_take (i := 10) (v := ?_) rfl (by kernel_rfl) (by kernel_rfl) (by kernel_rfl) (fun _ _ _ h => h) (Or.inl ⟨by kernel_rfl, ?hy⟩) hS1 ?rest
    case hy => (intro W hSw; clear hSw; go_simp; with_reducible rfl)
    case rest =>
    refine wpAnyH_take (i := 11) (v := ?_) rfl (by kernel_rfl) (by kernel_rfl) (by kernel_rfl) (fun _ _ _ h => h) (Or.inl ⟨by kernel_rfl, ?hy⟩) hS1 ?rest
    case hy => (intro W hSw; clear hSw; go_simp; with_reducible rfl)
    case rest =>
    refine wpAnyH_take (i := 12) (v := ?_) rfl (by kernel_rfl) (by kernel_rfl) (by kernel_rfl) (fun _ _ _ h => h) (Or.inl ⟨by kernel_rfl, ?hy⟩) hS1 ?rest
    case hy => (intro W hSw; clear hSw; go_simp; with_reducible rfl)
    case rest =>
    refine wpAnyH_take (i := 13) (v := ?_) rfl (by kernel_rfl) (by kernel_rfl) (by kernel_rfl) (fun _ _ _ h => h) (Or.inl ⟨by kernel_rfl, ?hy⟩) hS1 ?rest
    case hy => (intro W hSw; clear hSw; go_simp; with_reducible rfl)
    case rest =>
    refine wpAnyH_take (i := 14) (v := ?_) rfl (by kernel_rfl) (by kernel_rfl) (by kernel_rfl) (fun _ _ _ h => h) (Or.inl ⟨by kernel_rfl, ?hy⟩) hS1 ?rest
    case hy => (intro W hSw; clear hSw; go_simp; with_reducible rfl)
    case rest =>
    refine wpAnyH_take (i := 15) (v := ?_) rfl (by kernel_rfl) (by kernel_rfl) (by kernel_rfl) (fun _ _ _ h => h) (Or.inl ⟨by kernel_rfl, ?hy⟩) hS1 ?rest
    case hy => (intro W hSw; clear hSw; go_simp; with_reducible rfl)
    case rest =>
    refine wpAnyH_take (i := 16) (v := ?_) rfl (by kernel_rfl) (by kernel_rfl) (by kernel_rfl) (fun _ _ _ h => h) (Or.inl ⟨by kernel_rfl, ?hy⟩) hS1 ?rest
    case hy => (intro W hSw; clear hSw; go_simp; with_reducible rfl)
    case rest =>
    refine wpAnyH_take (i := 17) (v := ?_) rfl (by kernel_rfl) (by kernel_rfl) (by kernel_rfl) (fun _ _ _ h => h) (Or.inl ⟨by kernel_rfl, ?hy⟩) hS1 ?rest
    case hy => (intro W hSw; clear hSw; go_simp; with_reducible rfl)
    case rest =>
    refine wpAnyH_take (i := 18) (v := ?_) rfl (by kernel_rfl) (by kernel_rfl) (by kernel_rfl) (fun _ _ _ h => h) (Or.inl ⟨by kernel_rfl, ?hy⟩) hS1 ?rest
    case hy => (intro W hSw; clear hSw; go_simp; with_reducible rfl)
    case rest =>
    refine wpAnyH_take (i := 19) (v := ?_) rfl (by kernel_rfl) (by kernel_rfl) (by kernel_rfl) (fun _ _ _ h => h) (Or.inl ⟨by kernel_rfl, ?hy⟩) hS1 ?rest
    case hy => (intro W hSw; clear hSw; go_simp; with_reducible rfl)
    case rest =>
    refine wpAnyH_take (i := 20) (v := ?_) rfl (by kernel_rfl) (by kernel_rfl) (by kernel_rfl) (fun _ _ _ h => h) (Or.inl ⟨by kernel_rfl, ?hy⟩) hS1 ?rest
    case hy => (intro W hSw; clear hSw; go_simp; with_reducible rfl)
    case rest =>
    refine wpAnyH_take (i := 21) (v := ?_) rfl (by kernel_rfl) (by kernel_rfl) (by kernel_rfl) (fun _ _ _ h => h) (Or.inl ⟨by kernel_rfl, ?hy⟩) hS1 ?rest
    case hy => (intro W hSw; clear hSw; go_simp; with_reducible rfl)
    case rest =>
    refine wpAnyH_take (i := 22) (v := ?_) rfl (by kernel_rfl) (by kernel_rfl) (by kernel_rfl) (fun _ _ _ h => h) (Or.inl ⟨by kernel_rfl, ?hy⟩) hS1 ?rest
    case hy => (intro W hSw; clear hSw; go_simp; with_reducible rfl)
    case rest =>
    refine wpAnyH_take (i := 23) (v := ?_) rfl (by kernel_rfl) (by kernel_rfl) (by kernel_rfl) (fun _ _ _ h => h) (Or.inl ⟨by kernel_rfl, ?hy⟩) hS1 ?rest
    case hy => (intro W hSw; obtain ⟨bl, ol, he, q1, q2⟩ := (HP3.out W hSw).at_ HS0.out; cases he; have ql := lt_of_cell q1; have r1 : W.cell? ⟨bl, ol, none⟩ = some (.int .i64 s0.1) := q1; have r2 : W.cell? ⟨bl, ol + 1, none⟩ = some (.int .i64 s0.2) := q2; clear q1 q2 hSw; go_simp; with_reducible rfl)
    case rest =>
    refine wpAnyH_take (i := 24) (v := ?_) rfl (by kernel_rfl) (by kernel_rfl) (by kernel_rfl) (fun _ _ _ h => h) (Or.inl ⟨by kernel_rfl, ?hy⟩) hS1 ?rest
    case hy => (intro W hSw; clear hSw; go_simp; with_reducible rfl)
    case rest =>
    refine wpAnyH_ready (rs := [25]) (by kernel_rfl) (by simp) ?_
    refine AllReadyH.cons rfl (fun K hK => ?_) (AllReadyH.nil)
    go_simp
    refine (HPT.out 0 _ (by omega) HY9.out.drew).mono ?_
    rintro e wp ⟨C, f, rfl, hf, hC, hb⟩
    have HYP := Lib.hid (below_trans HY9.out.drew hb)
    have HVP := Lib.hid (HV9.out.below (below_trans (Below.refl _ _).drew hb))
    have HCP := Lib.hid hC
    clear hb hC
    go_simp
    refine hK.out _ _ HYP.out (fun hS2 => ?_)
    clear hK K
    refine wpAnyH_ready (rs := [26]) (by kernel_rfl) (by simp) ?_
    refine AllReadyH.cons rfl (fun K hK => ?_) (AllReadyH.nil)
    go_simp
    refine (HOF.out s0 SS true C f 0 wp (by omega) HVP.out HCP.out hf HYP.out).mono ?_
    rintro e w10 ⟨rfl, hV, hc⟩
    have HY10 := Lib.hid (below_chg HYP.out hc HGB.out)
    have e11 : offE R (m : Int) SS true s0 (P 0) = 11 := rfl
    rw [e11]
    clear hV hc e11
    go_simp
    refine hK.out _ _ HY10.out (fun hS3 => ?_)
    clear hK K
    refine wpAnyH_take (i := 27) (v := ?_) rfl (by kernel_rfl) (by kernel_rfl) (by kernel_rfl) (fun _ _ _ h => h) (Or.inl ⟨by kernel_rfl, ?hy⟩) hS3 ?rest
    case hy => (intro W hSw; clear hSw; go_simp; with_reducible rfl)
    case rest =>
    refine wpAnyH_take (i := 28) (v := ?_) rfl (by kernel_rfl) (by kernel_rfl) (by kernel_rfl) (fun _ _ _ h => h) (Or.inl ⟨by kernel_rfl, ?hy⟩) hS3 ?rest
    case hy => (intro W hSw; clear hSw; go_simp; with_reducible rfl)
    case rest =>
    refine wpAnyH_take (i := 29) (v := ?_) rfl (by kernel_rfl) (by kernel_rfl) (by kernel_rfl) (fun _ _ _ h => h) (Or.inl ⟨by kernel_rfl, ?hy⟩) hS3 ?rest
    case hy => (intro W hSw; clear hSw; go_simp; with_reducible rfl)
    case rest =>
    refine wpAnyH_done (by kernel_rfl) ?_ _
    clear hS0 hS1 hS2 hS3
    go_wp2
    go_ret
    exact ⟨rfl, below_trans HB3.out HY10.out⟩
end

section
open Go.RowKit

def bitB (b k : Nat) : Bool := decide (bits .and .u8 ((b : Int) / 2 ^ (k % 8)) 1 = 1)
def kcn (bits : Nat) : Nat → Nat
  | 0 => 0
  | k + 1 => kcn bits k + (if bitB bits k then 1 else 0)
def sel (p : List Int) (bits : Nat) : Nat → List (Int × Int)
  | 0 => []
  | k + 1 => sel p bits k ++ (if bitB bits k then [((k : Int) + 1, evp p ((k : Int) + 1))] else [])
theorem bit_val (b k : Nat) (hb : b < 256) : bits .and .u8 ((b : Int) / 2 ^ (k % 8)) 1 = if bitB b k then 1 else 0 := by
  have h : ∀ x : Fin 256, bits .and .u8 ((x.val : Nat) : Int) 1 = 0 ∨ bits .and .u8 ((x.val : Nat) : Int) 1 = 1 := by decide +kernel
  have e : ((b : Int) / 2 ^ (k % 8)) = ((b / 2 ^ (k % 8) : Nat) : Int) := by rw [Int.natCast_ediv, Int.natCast_pow]; rfl
  have h2 := h ⟨b / 2 ^ (k % 8), Nat.lt_of_le_of_lt (Nat.div_le_self _ _) hb⟩
  rw [← e] at h2
  unfold bitB
  rcases h2 with h2 | h2 <;> rw [h2] <;> rfl
theorem sel_len (p : List Int) (bits k : Nat) : (sel p bits k).length = kcn bits k := by
  induction k with
  | zero => rfl
  | succ k ih => rw [sel, List.length_append, ih, kcn]; split <;> rfl
theorem kcn_le (bits k : Nat) : kcn bits k ≤ k := by
  induction k with
  | zero => exact Nat.le_refl _
  | succ k ih => rw [kcn]; split <;> omega
theorem sel_on (p : List Int) (bits k : Nat) : ∀ s, s ∈ sel p bits k → 1 ≤ s.1 ∧ s.1 ≤ k ∧ s.2 = evp p s.1 := by
  induction k with
  | zero => intro s hs; cases hs
  | succ k ih =>
    intro s hs
    rw [sel] at hs
    rcases List.mem_append.1 hs with h | h
    · have := ih s h; exact ⟨this.1, by omega, this.2.2⟩
    · split at h
      · rw [List.mem_singleton.1 h]; exact ⟨by simp only; omega, by simp, rfl⟩
      · cases h
theorem sel_nodup (p : List Int) (bits k : Nat) : ((sel p bits k).map (·.1)).Nodup := by
  induction k with
  | zero => simp [sel]
  | succ k ih =>
    rw [sel, List.map_append, List.nodup_append]
    refine ⟨ih, by split <;> simp, ?_⟩
    intro a ha b hb e
    obtain ⟨s, hs, rfl⟩ := List.mem_map.1 ha
    have h1 := sel_on p bits k s hs
    split at hb
    · simp only [List.map_cons, List.map_nil, List.mem_singleton] at hb
      omega
    · cases hb
theorem sel_fnd (p : List Int) (bits k : Nat) : fnd (sel p bits k) ((k : Int) + 1) = none := by
  rw [fnd_none]
  intro h
  obtain ⟨s, hs, he⟩ := List.mem_map.1 h
  have := sel_on p bits k s hs
  omega
theorem sel_join (p : List Int) (bits n m : Nat) (hn : 1 ≤ n) (hn' : n ≤ 16) (hm : m ≤ 16) (hp : p.length ≤ n) : opnR (n : Int) m (sel p bits m) false = if kcn bits m < n then (0, 25) else (evp p 0, 0) := by
  show joinF (ord (sel p bits m) m) n = _
  have hon : On p (sel p bits m) := ⟨fun s hs => by have := sel_on p bits m s hs; omega, fun s hs => (sel_on p bits m s hs).2.2, sel_nodup p bits m⟩
  rw [joinF_perm (ord_perm hon.nodup (fun s hs => by have := sel_on p bits m s hs; omega)), ← sel_len p bits m]
  by_cases hl : (sel p bits m).length < n
  · rw [if_pos hl]; exact joinF_on_few p n _ hon hn hn' hl
  · rw [if_neg hl]; exact joinF_on p n _ hon hn hn' hp (by omega)

set_option maxRecDepth 100000 in
set_option maxHeartbeats 64000000 in
theorem wopened_any (A : Option Addr) (c : Nat) (p : List Int) (n m b : Nat) (w : World) (hA : Prs w A (shs p m)) (hT : Tabs w) (h1 : 1 ≤ n) (hnm : n ≤ m) (hm6 : m ≤ 6) (hpn : p.length ≤ n) (hb : b < 256) :
    Calls Tryz.prog 12 #[.slice A m c, .int .i64 n, .int .u8 b] w fun e w' => e = .returned (.tuple #[.int .i64 (if kcn b m < n then 0 else evp p 0), .int .i64 (if kcn b m < n then 25 else 0)]) ∧ Below w.heap.size w w' := by
  have HJ : Hid ((opnR (n : Int) m (sel p b m) false).1 = (if kcn b m < n then 0 else evp p 0) ∧ (opnR (n : Int) m (sel p b m) false).2 = (if kcn b m < n then 25 else 0)) := Lib.hid (by
    rw [sel_join p b n m h1 (by omega) (by omega) hpn]
    by_cases h : kcn b m < n
    · rw [if_pos h, if_pos h, if_pos h]; exact ⟨rfl, rfl⟩
    · rw [if_neg h, if_neg h, if_neg h]; exact ⟨rfl, rfl⟩)
  generalize (if kcn b m < n then 0 else evp p 0) = r1 at *
  generalize (if kcn b m < n then (25 : Int) else 0) = r2 at *
  obtain ⟨l, hl⟩ : ∃ l, l = shs p m := ⟨_, rfl⟩
  have hll : l.length = m := by rw [hl]; exact shs_length _ _
  have hon : On p l := by rw [hl]; exact shs_on p m (by omega)
  have hval := hon.valid
  have hplc : ∀ (j : Nat) (t : Int × Int), l[j]? = some t → t.1 = (j : Int) + 1 ∧ t = ((j : Int) + 1, evp p ((j : Int) + 1)) := fun j t h => by
    have h1 := shs_place p m j t (by rw [← hl]; exact h)
    have h2 := hon.value t (List.mem_of_getElem? h)
    exact ⟨h1, Prod.ext h1 (by rw [h2, h1])⟩
  rw [← hl] at hA
  have HT : Hid (∀ W, Below w.heap.size w W → Tabs W) := Lib.hid (fun W hW => hT.below hW)
  have HP : Hid (∀ W, Below w.heap.size w W → Prs W A l) := Lib.hid (fun W hW => hA.below hW)
  have HPLC := Lib.hid hplc
  have HLL := Lib.hid hll
  have HCK : Hid (∀ (k : Nat) (t : Int × Int), l[k]? = some t → shChk (rt (l.map shLf)) (m : Int) t (pt (l.map shLf) k) = true) := Lib.hid (fun k t h => by
    have := shChk_at l (by omega) (by omega) hval (fun j t h => (hplc j t h).1) k t h
    rwa [hll] at this)
  have HPL : Hid (∀ k, (pt (l.map shLf) k).length ≤ 1000000) := Lib.hid (fun k => pl_le l k (by omega) (by omega))
  have HPS : Hid (∀ k, sm (pt (l.map shLf) k)) := Lib.hid (fun k => pt_below _ _ (shLf_sm _))
  have HPT0 : Hid (∀ (A' : Option Addr) (c' k : Nat) (W : World), m ≤ c' → Strs W A' (l.map shLf) → k < m → Tabs W → Calls Tryz.prog 41 #[.slice A' m c', .int .i64 k] W fun e w' => ∃ A'' c'', e = .returned (.tuple #[.slice A'' (pt (l.map shLf) k).length c'', .int .i64 0]) ∧ (pt (l.map shLf) k).length ≤ c'' ∧ Strs w' A'' (pt (l.map shLf) k) ∧ Below W.heap.size W w') := Lib.hid (fun A' c' k W hc hS hk hT => by
    have := tpath_any A' c' (l.map shLf) k W (by rw [List.length_map]; omega) (by rw [List.length_map]; omega) hS (shLf_sm l) hT (shLf_D l) (by omega) (by rw [List.length_map]; omega)
    rw [Int.toNat_natCast, List.length_map, hll] at this
    exact this.mono fun _ _ ⟨A1, c1, h1, h2, h3, _, h5⟩ => ⟨A1, c1, h1, h2, h3, h5⟩)
  have HRT : Hid (∀ (A' : Option Addr) (c' : Nat) (W : World), Prs W A' l → Tabs W → Calls Tryz.prog 29 #[.slice A' m c'] W fun e w' => e = .returned (.tuple #[.string (rt (l.map shLf)), .int .i64 0]) ∧ Below W.heap.size W w') := Lib.hid (fun A' c' W hP hT => by
    have := sroot_any A' c' l W hP (by omega) (by omega) hval hT
    rw [hll] at this
    exact this)
  have HLV : Hid (∀ (A' : Option Addr) (c' : Nat) (W : World), Prs W A' l → Calls Tryz.prog 35 #[.slice A' m c'] W fun e w' => ∃ A'' c'', e = .returned (.slice A'' m c'') ∧ m ≤ c'' ∧ Strs w' A'' (l.map shLf) ∧ (∀ a, A'' = some a → W.heap.size ≤ a.block) ∧ Below W.heap.size W w') := Lib.hid (fun A' c' W hP => by
    have := rleaves_any A' c' l W hP (by omega) hval
    rw [hll] at this
    refine this.mono ?_
    rintro e w' ⟨v, rfl, ho, hb⟩
    obtain ⟨A1, c1, rfl, hc1, -, hr1⟩ := Rd.of_own ho
    exact ⟨A1, c1, rfl, hc1, by unfold Strs; rw [List.length_map, hll]; exact hr1, fun a ha => by
      subst ha
      obtain ⟨g, e1, e2⟩ := own_some ho (by omega)
      cases e1; exact e2, hb⟩)
  have HRD : Hid (isD (rt (l.map shLf)) = true) := Lib.hid (isD_rt _ (shLf_D _))
  have HRS : Hid ((rt (l.map shLf)).size ≤ 1000000000) := Lib.hid (by have := rt_size (l.map shLf) (shLf_sm _); omega)
  generalize rt (l.map shLf) = R at *
  generalize pt (l.map shLf) = P at *
  generalize l.map shLf = LV at *
  clear hA hT hl hll hon hval hplc hpn
  go_enter Tryz.func12, Tryz.ntmps12
  go_wp2_with fail
  refine (HRT.out A c w (HP.out _ (Below.refl _ _)) (HT.out _ (Below.refl _ _))).mono ?_
  rintro e w1 ⟨rfl, hb1⟩
  have HB1 := Lib.hid hb1
  clear hb1
  go_wp2_with fail
  refine (vnew_ok n m R w1 HRS.out h1 hnm (by omega) HRD.out).mono ?_
  rintro e w2 ⟨gv, B, rfl, hV, hg, hB, hb2⟩
  have HV2 := Lib.hid hV
  have HGB : Hid (∀ k, k ∈ [gv, B] → w1.heap.size ≤ k) := Lib.hid (by intro k hk; simp only [List.mem_cons, List.not_mem_nil, or_false] at hk; rcases hk with rfl | rfl <;> assumption)
  have HGL : Hid (∀ k, k ∈ [gv, B] → k < w2.heap.size) := Lib.hid (by intro k hk; have := hV.lt; simp only [List.mem_cons, List.not_mem_nil, or_false] at hk; rcases hk with rfl | rfl <;> omega)
  have HB2 := Lib.hid (below_trans HB1.out hb2)
  have HY2 := Lib.hid hb2
  clear hV hg hB hb2
  go_wp2_with fail
  refine (HLV.out A c w2 (HP.out _ HB2.out)).mono ?_
  rintro e w3 ⟨A3, c3, rfl, hc3, hS3, hA3, hb3⟩
  have HV3 := Lib.hid (HV2.out.below hb3)
  have HB3 := Lib.hid (below_trans HB2.out hb3)
  have HY3 := Lib.hid (below_trans HY2.out hb3)
  have HS3 : Hid (∀ W, Below w3.heap.size w3 W → Strs W A3 LV) := Lib.hid (fun W hW => hS3.below hW)
  have HA3 : Hid (∀ a, A3 = some a → a.block ∉ [gv, B]) := Lib.hid (fun a ha hk => by have := HGL.out _ hk; have := hA3 a ha; omega)
  clear hA3 hS3 hb3 HV2 HGL
  go_wp2_with fail
  go_loopw [13, 14, 15] (fun u13 _ _ wr => ∃ k : Nat, k ≤ m ∧ u13 = .int .i64 k ∧ Below w.heap.size w wr ∧ Strs wr A3 LV ∧ PV wr gv B n m R (sel p b k) false) (fun u13 _ _ _ => m - (intOf u13).toNat)
  case atStart => exact ⟨0, Nat.zero_le _, rfl, HB3.out, HS3.out _ (Below.refl _ _), HV3.out⟩
  case round =>
  obtain ⟨k, hk, rfl, hb, hS, hV⟩ := hrel
  have HBR := Lib.hid hb
  have HSR := Lib.hid hS
  have HVR := Lib.hid hV
  clear hb hS hV
  by_cases hlt : k < m
  case neg =>
    obtain rfl : k = m := by omega
    go_wp2_with fail
    refine (vopen_any gv B n k R (sel p b k) false wr HVR.out (by omega)).mono ?_
    rintro e w4 ⟨rfl, -, hc⟩
    have HB4 := Lib.hid (below_chg HBR.out hc (fun j hj => by have := HGB.out j hj; have := HB1.out.size; omega))
    clear hc
    rw [HJ.out.1, HJ.out.2]
    go_wp2
    go_ret2
    exact ⟨rfl, HB4.out⟩
  case pos =>
    have hkm : (k : Int) < (m : Int) := by omega
    obtain ⟨t, ht⟩ := get_some l k (by rw [HLL.out]; exact hlt)
    have hpl := HPLC.out k t ht
    obtain ⟨bl, ol, rfl, q1, q2⟩ := (HP.out wr HBR.out).at_ ht
    have HQ := Lib.hid (And.intro q1 q2)
    have HTE := Lib.hid hpl.2
    have ht1 := hpl.1
    have hck := HCK.out k t ht
    clear hpl q1 q2 ht
    cases hbit : bitB b k with
    | false =>
      have hb1 : ¬ bits .and .u8 ((b : Int) / 2 ^ (k % 8)) 1 = 1 := of_decide_eq_false hbit
      have HS1 : Hid (sel p b (k + 1) = sel p b k) := Lib.hid (by rw [sel, hbit]; simp)
      clear hbit ht1 hck
      go_wp2_with fail
      refine (HPT0.out A3 c3 k wr hc3 HSR.out hlt (HT.out _ HBR.out)).mono ?_
      rintro e w5 ⟨A5, c5, rfl, hc5, hS5, hb5⟩
      have HB5 := Lib.hid (below_trans HBR.out hb5)
      have HV5 := Lib.hid (HVR.out.below hb5)
      have HS5 := Lib.hid (HSR.out.below hb5)
      clear hb5 hS5
      go_wp2
      go_roundw
      case rel => exact ⟨k + 1, by omega, by go_num, HB5.out, HS5.out, by rw [HS1.out]; exact HV5.out⟩
      case measure => simp [intOf]; omega
    | true =>
      have hb1 : bits .and .u8 ((b : Int) / 2 ^ (k % 8)) 1 = 1 := of_decide_eq_true hbit
      have hse : sel p b (k + 1) = sel p b k ++ [t] := by rw [sel, hbit, HTE.out]; rfl
      have he : offE R (m : Int) (sel p b k) false t (P k) = 0 := by
        unfold offE
        rw [hck, ht1, sel_fnd]; rfl
      have hss : offS R (m : Int) (sel p b k) false t (P k) = sel p b (k + 1) := by unfold offS; rw [he, hse]; rfl
      have hsl : (sel p b k).length ≤ 1000 := by rw [sel_len]; have := kcn_le b k; omega
      have HE := Lib.hid he
      have HSS := Lib.hid hss
      have HSL := Lib.hid hsl
      clear hbit ht1 hck he hss hse hsl
      obtain ⟨S1, hS1⟩ : ∃ S1, sel p b (k + 1) = S1 := ⟨_, rfl⟩
      rw [hS1] at HSS
      have HS1E := Lib.hid hS1
      clear hS1
      go_wp2_with fail
      refine (HPT0.out A3 c3 k wr hc3 HSR.out hlt (HT.out _ HBR.out)).mono ?_
      rintro e w5 ⟨A5, c5, rfl, hc5, hS5, hb5⟩
      have HB5 := Lib.hid (below_trans HBR.out hb5)
      have HV5 := Lib.hid (HVR.out.below hb5)
      have HC5 := Lib.hid hS5
      have HS5 := Lib.hid (HSR.out.below hb5)
      have q1 := kept_cell hb5 HQ.out.1
      have q2 := kept_cell hb5 HQ.out.2
      have ql := lt_of_cell q1
      clear hb5 hS5
      go_wp2_with fail
      refine (voffer_any gv B n m R (sel p b k) false t A5 c5 (P k) w5 HV5.out HSL.out HC5.out (HPL.out k) hc5 (HPS.out k) (HT.out _ HB5.out)).mono ?_
      rintro e w6 ⟨rfl, hV, hc⟩
      rw [HSS.out] at hV
      rw [HE.out]
      have HV6 := Lib.hid hV
      have HB6 := Lib.hid (below_chg HB5.out hc (fun j hj => by have := HGB.out j hj; have := HB1.out.size; omega))
      have HS6 := Lib.hid (HS5.out.chg hc HA3.out)
      clear hV hc q1 q2 ql
      go_wp2
      go_roundw
      case rel => exact ⟨k + 1, by omega, by go_num, HB6.out, HS6.out, by first | exact HV6.out | (rw [HS1E.out]; exact HV6.out)⟩
      case measure => simp [intOf]; omega
    
end

section
open Go.RowKit

theorem wo_mod_inj (f m u v : Nat) (hu : u < m) (hv : v < m) (h : (f + u) % m = (f + v) % m) : u = v := by
  have h1 := Nat.div_add_mod (f + u) m
  have h2 := Nat.div_add_mod (f + v) m
  rw [h] at h1
  generalize (f + u) / m = q1 at *
  generalize (f + v) / m = q2 at *
  rcases Nat.lt_trichotomy q1 q2 with hq | hq | hq
  · have := Nat.mul_le_mul_left m hq
    rw [Nat.mul_succ] at this; omega
  · subst hq; omega
  · have := Nat.mul_le_mul_left m hq
    rw [Nat.mul_succ] at this; omega
theorem own_ne {w : World} {b1 b2 e1 e2 s1 s2 n1 n2 : Nat} {v1 v2 : Value} {x1 x2 : List Value} (h1 : w.ownsRow b1 e1 s1 v1 n1 x1) (h2 : w.ownsRow b2 e2 s2 v2 n2 x2) (hne : e1 ≠ e2) : v1.ownBlock = none ∨ v1.ownBlock ≠ v2.ownBlock := by
  rcases h1.2 with ⟨rfl, _⟩ | ⟨g, cap, cur, rfl, _, hg, _⟩
  · exact .inl rfl
  · right
    rcases h2.2 with ⟨rfl, _⟩ | ⟨g', cap', cur', rfl, _, hg', _⟩
    · simp [Value.ownBlock]
    · simp only [Value.ownBlock, ne_eq, Option.some.injEq]
      intro e
      subst e
      rw [hg] at hg'
      injection hg' with hg'
      injection hg' with _ ht
      exact hne ht

def placesL (first m i : Nat) : List Int := (List.range i).map fun j => (((first + j) % m : Nat) : Int)
def pointsL (o : Int) (p : List Int) (first m i : Nat) : List (Int × Int) := (0, o) :: (List.range i).map fun j => ((((first + j) % m : Nat) : Int) + 1, evp p ((((first + j) % m : Nat) : Int) + 1))

theorem placesL_succ (first m i : Nat) : placesL first m (i + 1) = placesL first m i ++ [(((first + i) % m : Nat) : Int)] := by simp [placesL, List.range_succ]
theorem pointsL_succ (o : Int) (p : List Int) (first m i : Nat) : pointsL o p first m (i + 1) = pointsL o p first m i ++ [((((first + i) % m : Nat) : Int) + 1, evp p ((((first + i) % m : Nat) : Int) + 1))] := by simp [pointsL, List.range_succ]
theorem pointsL_length (o : Int) (p : List Int) (first m i : Nat) : (pointsL o p first m i).length = i + 1 := by simp [pointsL]
theorem placesL_length (first m i : Nat) : (placesL first m i).length = i := by simp [placesL]

theorem pointsL_good (o : Int) (p : List Int) (first m i : Nat) (ho : elemB o = true) (hm : 0 < m) (hm' : m ≤ 100) (hi : i ≤ m) : Good (pointsL o p first m i) := by
  refine ⟨fun q hq => ?_, ?_⟩
  · rcases List.mem_cons.1 hq with rfl | hq
    · exact ⟨rfl, ho⟩
    · obtain ⟨j, _, rfl⟩ := List.mem_map.1 hq
      have := Nat.mod_lt (first + j) hm
      have r := evp_range p ((((first + j) % m : Nat) : Int) + 1)
      exact ⟨by rw [elemB_iff]; omega, by rw [elemB_iff]; exact r⟩
  · unfold pointsL
    rw [List.map_cons, List.nodup_cons]
    constructor
    · intro h
      obtain ⟨q, hq, he⟩ := List.mem_map.1 h
      obtain ⟨j, _, rfl⟩ := List.mem_map.1 hq
      simp only at he; omega
    · rw [List.map_map]
      refine List.pairwise_map.2 (List.Pairwise.imp_of_mem ?_ List.nodup_range)
      intro u v hu hv huv he
      have h1 := List.mem_range.1 hu
      have h2 := List.mem_range.1 hv
      simp only [Function.comp] at he
      exact huv (wo_mod_inj first m u v (by omega) (by omega) (by omega))
theorem wo_shs_get (p : List Int) (m k : Nat) (h : k < m) : (shs p m)[k]? = some ((k : Int) + 1, evp p ((k : Int) + 1)) := by
  simp [shs, h]
theorem wo_shs_succ (p : List Int) (m : Nat) : shs p (m + 1) = shs p m ++ [((m : Int) + 1, evp p ((m : Int) + 1))] := by
  simp [shs, List.range_succ]

theorem other_poly (o : Int) (P : List Int) (first m n : Nat) (ho : elemB o = true) (hm : 0 < m) (hm' : m ≤ 100) (hn : 1 ≤ n) (hnm : n ≤ m) :
    ∃ C : List Int, C.length ≤ n ∧ evp C 0 = o ∧ (∀ j, j < n - 1 → evp C ((((first + j) % m : Nat) : Int) + 1) = evp P ((((first + j) % m : Nat) : Int) + 1)) ∧ ∀ x, nv x (pointsL o P first m (n - 1)) (n - 1) 0 = evp C x := by
  have hg := pointsL_good o P first m (n - 1) ho hm hm' (by omega)
  obtain ⟨C, hl, hC⟩ := interp_exists ((pointsL o P first m (n - 1)).map fun p => (phi p.1, phi p.2)) (good_phi hg)
  have hln : (pointsL o P first m (n - 1)).length = n := by rw [pointsL_length]; omega
  rw [List.length_map, hln] at hl
  obtain ⟨D, hD⟩ : ∃ D : List Int, D = C.map fun (f : F) => (f.val : Int) := ⟨_, rfl⟩
  have hDC : D.map phi = C := by
    rw [hD, List.map_map]
    refine (List.map_congr_left (fun f _ => ?_)).trans (List.map_id C)
    simp only [Function.comp, id]
    apply Fin.ext; simp only [phi]; omega
  have hDl : D.length ≤ n := by rw [hD, List.length_map]; exact hl
  have hall : ∀ q, q ∈ pointsL o P first m (n - 1) → q.2 = evp D q.1 := fun q hq => by
    have h1 := hC (phi q.1, phi q.2) (List.mem_map_of_mem (f := fun p : Int × Int => (phi p.1, phi p.2)) hq)
    have h2 := evp_range D q.1
    have h3 := (elemB_iff _).1 (hg.elems q hq).2
    refine phi_inj h3.1 h3.2 h2.1 h2.2 ?_
    rw [phi_evp, hDC]; exact h1.symm
  refine ⟨D, hDl, (hall (0, o) List.mem_cons_self).symm, fun j hj => ?_, fun x => ?_⟩
  · exact (hall (_, _) (List.mem_cons_of_mem _ (List.mem_map.2 ⟨j, List.mem_range.2 (by omega), rfl⟩))).symm
  · have := nv_evp _ hg D hall x (by rw [hln]; exact hDl) (by rw [hln]; omega)
    rw [hln] at this
    exact this

set_option maxRecDepth 100000 in
set_option maxHeartbeats 16000000 in
theorem wother_any (A : Option Addr) (c : Nat) (P : List Int) (n m first : Nat) (o : Int) (w : World) (hA : Prs w A (shs P m)) (h1 : 1 ≤ n) (hnm : n ≤ m) (hm6 : m ≤ 6) (ho : elemB o = true) (hf : first < 256) :
    Calls Tryz.prog 15 #[.slice A m c, .int .i64 n, .int .i64 o, .int .u8 first] w fun e w' => ∃ C A1 c1 A2 c2, e = .returned (.tuple #[.slice A1 m c1, .slice A2 (n - 1) c2, .bool true]) ∧ C.length ≤ n ∧ evp C 0 = o ∧
      (∀ j, j < n - 1 → evp C ((((first + j) % m : Nat) : Int) + 1) = evp P ((((first + j) % m : Nat) : Int) + 1)) ∧ Prs w' A1 (shs C m) ∧ Ints w' A2 (placesL first m (n - 1)) ∧ Below w.heap.size w w' := by
  obtain ⟨C, hC1, hC2, hC3, hC4⟩ := other_poly o P first m n ho (by omega) (by omega) h1 hnm
  have HC1 := Lib.hid hC1
  have HC2 := Lib.hid hC2
  have HC3 := Lib.hid hC3
  have HGD := Lib.hid (pointsL_good o P first m (n - 1) ho (by omega) (by omega) (by omega))
  have HC4 : Hid (∀ k : Nat, k < m → nv ((k : Int) + 1) (pointsL o P first m (n - 1)) (n - 1) 0 = evp C ((k : Int) + 1)) := Lib.hid (fun k _ => hC4 _)
  have HER : Hid (∀ k : Nat, k < m → elemB ((k : Int) + 1) = true) := Lib.hid (fun k hk => by rw [elemB_iff]; omega)
  have HP : Hid (∀ W, Below w.heap.size w W → Prs W A (shs P m)) := Lib.hid (fun W hW => hA.below hW)
  have HSG := Lib.hid (fun k (hk : k < m) => wo_shs_get P m k hk)
  have HSS := Lib.hid (wo_shs_succ C)
  obtain ⟨ii, hii, hiz0, hiz1, hiz2⟩ := info_parts info_int
  have HII := Lib.hid (And.intro hii (And.intro hiz0 (And.intro hiz1 hiz2)))
  obtain ⟨ip, hip, hpz0, hpz1, hpz2⟩ := info_parts info_point
  have HIP := Lib.hid (And.intro hip (And.intro hpz0 (And.intro hpz1 hpz2)))
  obtain ⟨ih, hih, hhz0, hhz1, hhz2⟩ := info_parts info_share
  have HIH := Lib.hid (And.intro hih (And.intro hhz0 (And.intro hhz1 hhz2)))
  clear hA ho hC1 hC2 hC3 hC4 hii hiz0 hiz1 hiz2 hip hpz0 hpz1 hpz2 hih hhz0 hhz1 hhz2
  have hP0 := World.ownsRow_lit (base := w.heap.size) (e := 74) (size := 2) w #[Value.int .i64 0, Value.int .i64 o] 1 (Nat.le_refl _) (by simp [maxLen]) rfl
  have HP0 := Lib.hid hP0
  clear hP0
  have hne0 : ((m : Int) == 0) = false := by simp; omega
  have hmm0 : ¬ (m : Int) = 0 := by omega
  go_enter Tryz.func15, Tryz.ntmps15
  go_wp2_with fail
  go_loopw [11, 12, 13, 14] (fun u11 u12 u13 _ wr => ∃ i : Nat, i ≤ n - 1 ∧ u13 = .int .i64 i ∧ Below w.heap.size w wr ∧ wr.ownsRow w.heap.size 74 2 u11 (i + 1) (flat2 (pointsL o P first m i)) ∧ wr.ownsRow w.heap.size 3 1 u12 i ((placesL first m i).map (Value.int .i64))) (fun _ _ u13 _ _ => n - (intOf u13).toNat)
  case atStart => exact ⟨0, Nat.zero_le _, rfl, below_alloc (Below.refl _ _) _, HP0.out, World.ownsRow_nil _ _ _ _⟩
  case round =>
    obtain ⟨i, hi, rfl, hBr, hO19, hO20⟩ := hrel
    have HBR := Lib.hid hBr; clear hBr
    have HO19 := Lib.hid hO19; clear hO19
    have HO20 := Lib.hid hO20; clear hO20
    by_cases hlt : i < n - 1
    · obtain ⟨kk, hkk⟩ : ∃ kk : Nat, kk = (first + i) % m := ⟨_, rfl⟩
      have hkl : kk < m := by rw [hkk]; exact Nat.mod_lt _ (by omega)
      have hke : ((first : Int) + (i : Int)) % (m : Int) = (kk : Int) := by rw [hkk, Int.natCast_emod, Int.natCast_add]
      have HKK := Lib.hid hkk; clear hkk
      have hil : (i : Int) < ((n - 1 : Nat) : Int) := by omega
      go_wp2_with (at_builtin; refine wpList_app _ rfl (.tmp 35) (.tmp 37) 22 22 rfl w.heap.size 3 3 ii _ 1 8 Tryz.underlying22 Tryz.underlying22 HII.out.1 HII.out.2.1 HII.out.2.2.1 HII.out.2.2.2 rfl (by omega) _ i _ rfl (HO20.out.alloc _) _ 1 1 [.int .i64 kk] rfl (Rd_new wr #[.int .i64 kk] _ 1 1 _ rfl rfl) (by simp [Value.oneCell']) (by simp only [maxLen]; omega) (by omega) (by have := HBR.out.size; simp; omega) ?_)
      intro v1 w5 hown5 hg5
      have e5 : (placesL first m i).map (Value.int .i64) ++ [.int .i64 (kk : Int)] = (placesL first m (i + 1)).map (Value.int .i64) := by rw [placesL_succ, HKK.out]; simp
      rw [e5] at hown5
      have hB5 : Below w.heap.size w w5 := (below_alloc HBR.out _).grown hg5 (by have := HBR.out.size; simp; omega) (fun j hj => (HO20.out.lt j hj).1)
      have hO19' := (HO19.out.alloc (.cells #[.int .i64 (kk : Int)] 3)).kept hg5 (own_ne HO19.out HO20.out (by decide))
      have HOWN5 := Lib.hid hown5
      have HB5 := Lib.hid hB5
      have HO19' := Lib.hid hO19'
      clear hown5 hg5 e5 hB5 hO19'
      obtain ⟨b4, o4, rfl, hx1, hx2⟩ := (HP.out w (Below.refl _ _)).at_ (HSG.out kk hkl)
      simp only at hx1 hx2
      have ag : u11.ownBlock ≠ some b4 := fun e => by have h1 := lt_of_cell hx1; have h2 := (HO19.out.lt _ e).1; omega
      have AG := Lib.hid ag; clear ag
      replace hx1 := kept_cell HB5.out hx1
      replace hx2 := kept_cell HB5.out hx2
      have lg := lt_of_cell hx1
      generalize hy1 : evp P ((kk : Int) + 1) = y1 at *
      have HY1 := Lib.hid hy1; clear hy1
      go_wp2_with fail
      have hown := HO19'.out
      have hsz := HB5.out.size
      go_region_held3 (fun w' => w'.cell? ⟨b4, o4 + kk * 2, none⟩ = some (.int .i64 ((kk : Int) + 1)) ∧ w'.cell? ⟨b4, o4 + kk * 2 + 1, none⟩ = some (.int .i64 y1))
        (first
          | go_keep
          | (go_split_ands
             refine ⟨?_, ?_⟩
             · (rw [hgrow.cell_far _ (by simp; omega) (Ne.symm AG.out)]; assumption)
             · (rw [hgrow.cell_far _ (by simp; omega) (Ne.symm AG.out)]; assumption)))
        (first
          | ((refine step_append_lies _ (by rfl) _ _ _ (by rfl) w.heap.size 74 ip _ 2 16 Tryz.underlying75 HIP.out.1 HIP.out.2.1 HIP.out.2.2.1 HIP.out.2.2.2 rfl (by omega) u11 (i + 1) _ (by rfl) ((hown.alloc _).drew) ⟨w5.heap.size, 0, none⟩ 1 1 [.int .i64 ((kk : Int) + 1), .int .i64 y1] (by rfl) (by rfl) (World.news_of_block (cs := #[.int .i64 ((kk : Int) + 1), .int .i64 y1]) (t := 74) (fr := (0, 0)) (heap_alloc_new w5 _)) (by simp [Value.oneCell']) (by omega) (by simp only [maxLen]; omega) (by omega) (by simp; omega) (w5.heap.size + 1) (by simp) ?_; intro gg cap w6 hown1 hgrow hat hltg)))
      have hB6 : Below w.heap.size w w6 := ((below_alloc HB5.out _).drew).grown hgrow (by simp; omega) (fun j hj => (HO19.out.lt j hj).1)
      have e6 : flat2 (pointsL o P first m i) ++ [.int .i64 ((kk : Int) + 1), .int .i64 y1] = flat2 (pointsL o P first m (i + 1)) := by
        rw [pointsL_succ, flat2_append, ← HKK.out, HY1.out]; rfl
      rw [e6] at hown1
      have hpl := ((HOWN5.out.alloc (.cells #[.int .i64 ((kk : Int) + 1), .int .i64 y1] 74)).drew).kept hgrow (own_ne HOWN5.out HO19'.out (by decide))
      have HB6 := Lib.hid hB6
      have HOWN := Lib.hid hown1
      have HPL := Lib.hid hpl
      clear hB6 hown1 hgrow hat e6 hown hpl
      go_wp2
      go_roundw
      case rel => exact ⟨i + 1, by omega, by go_num, HB6.out, HOWN.out, HPL.out⟩
      case measure => simp [intOf]; omega
    · have hin : i + 1 = n := by omega
      have hi8 : i = n - 1 := by omega
      have hO := HO19.out
      have hOp := HO20.out
      rw [hin] at hO
      obtain ⟨A7, c7, hv7, hc7, -, hr7⟩ := Rd.of_own hO
      obtain ⟨A8, c8, hv8, hc8, -, hr8⟩ := Rd.of_own hOp
      rw [hi8] at hv8 hr8 hr7
      subst hv7 hv8
      have hlen : (pointsL o P first m (n - 1)).length = n := by rw [pointsL_length]; omega
      have HIN : Hid (∀ (k : Nat) (W : World), k < m → Below wr.heap.size wr W → Calls Tryz.prog 42 #[.slice A7 n c7, .int .i64 ((k : Int) + 1)] W fun e w' => e = .returned (.tuple #[.int .i64 (evp C ((k : Int) + 1)), .int .i64 0]) ∧ Below W.heap.size W w') := Lib.hid (fun k W hk hW => by
        have hpr : Prs wr A7 (pointsL o P first m (n - 1)) := by unfold Prs; rw [hlen]; exact hr7
        have := interp_prs A7 c7 (pointsL o P first m (n - 1)) ((k : Int) + 1) W (hpr.below hW) (by omega) (by omega) (by omega) (HER.out k hk) HGD.out.elems HGD.out.nodup
        rw [hlen, HC4.out k hk] at this
        exact this)
      have HR8 : Hid (Ints wr A8 (placesL first m (n - 1))) := Lib.hid (by
        unfold Ints
        rw [placesL_length]
        exact hr8)
      have HI8 := Lib.hid hi8
      clear hin hi8 hO hOp hr7 hr8 hlen HO19 HO20
      obtain ⟨wo, hwo⟩ : ∃ wo : World, wo = wr := ⟨_, rfl⟩
      have HON : Hid (wr.ownsRow wr.heap.size 37 2 (.slice none 0 0) 0 (flat2 (shs C 0))) := Lib.hid (World.ownsRow_nil _ _ _ _)
      subst hwo
      go_wp2_with fail
      go_loopw [15, 16, 17, 18] (fun u15 u16 _ _ wr => ∃ k : Nat, k ≤ m ∧ u16 = .int .i64 k ∧ Below wo.heap.size wo wr ∧ wr.ownsRow wo.heap.size 37 2 u15 k (flat2 (shs C k))) (fun _ u16 _ _ _ => m - (intOf u16).toNat)
      case atStart => exact ⟨0, Nat.zero_le _, rfl, Below.refl _ _, HON.out⟩
      case round =>
      obtain ⟨k, hk, rfl, hb, hO⟩ := hrel
      have HBK := Lib.hid hb
      have HOK := Lib.hid hO
      clear hb hO
      by_cases hlt : k < m
      case neg =>
        obtain rfl : k = m := by omega
        have hO := HOK.out
        obtain ⟨A9, c9, hv9, -, -, hr9⟩ := Rd.of_own hO
        subst hv9
        have HR9 := Lib.hid hr9
        clear hr9 hO
        go_wp2
        go_ret3
        refine ⟨C, A9, c9, A8, c8, rfl, HC1.out, HC2.out, HC3.out, by unfold Prs; rw [shs_length]; exact HR9.out, HR8.out.below HBK.out, below_trans HBR.out HBK.out⟩
      case pos =>
        have hkm : (k : Int) < (m : Int) := by omega
        obtain ⟨bl, ol, rfl, q1, q2⟩ := (HP.out _ (below_trans HBR.out HBK.out)).at_ (HSG.out k hlt)
        simp only at q1 q2
        have ql := lt_of_cell q1
        have HQ2 := Lib.hid q2
        clear q2
        go_wp2_with fail
        refine (HIN.out k wr hlt HBK.out).mono ?_
        rintro e w7 ⟨rfl, hb7⟩
        replace q1 := kept_cell hb7 q1
        have ql7 := lt_of_cell q1
        have HB7 := Lib.hid (below_trans HBK.out hb7)
        have HO7 := Lib.hid (row_below HOK.out hb7)
        clear hb7 ql
        obtain ⟨y, hy⟩ : ∃ y, evp C ((k : Int) + 1) = y := ⟨_, rfl⟩
        have HY := Lib.hid hy
        rw [hy]
        clear hy
        go_wp2_with (at_builtin; refine wpList_app _ rfl (.tmp 71) (.tmp 79) 28 28 rfl wo.heap.size 37 37 ih _ 2 16 Tryz.underlying28 Tryz.underlying28 HIH.out.1 HIH.out.2.1 HIH.out.2.2.1 HIH.out.2.2.2 rfl (by omega) _ k _ rfl (HO7.out.alloc _) _ 1 1 [.int .i64 ((k : Int) + 1), .int .i64 y] rfl (Rd_new w7 #[.int .i64 ((k : Int) + 1), .int .i64 y] _ 2 1 _ rfl rfl) (by simp [Value.oneCell']) (by simp only [maxLen]; omega) (by omega) (by have := HB7.out.size; simp; omega) ?_)
        intro v1 w8 hown8 hg8
        have e8 : flat2 (shs C k) ++ [.int .i64 ((k : Int) + 1), .int .i64 y] = flat2 (shs C (k + 1)) := by rw [HSS.out, flat2_append, HY.out]; rfl
        rw [e8] at hown8
        have HB8 : Hid (Below wo.heap.size wo w8) := Lib.hid ((below_alloc HB7.out _).grown hg8 (by have := HB7.out.size; simp; omega) (fun j hj => (HO7.out.lt j hj).1))
        have HO8 := Lib.hid hown8
        clear hown8 hg8 e8 q1 ql7
        go_wp2
        go_roundw
        case rel => exact ⟨k + 1, by omega, by go_num, HB8.out, HO8.out⟩
        case measure => simp [intOf]; omega
end

section
open Go.RowKit

theorem wh_list : ((7 : Int) % 2147483647) :: madeL [5] (1 % 4) = [7, 5] := by decide
theorem wh_a1 : (if kcn 5 3 < 2 then (0 : Int) else evp [7, 5] 0) = 7 := by decide +kernel
theorem wh_a2 : (if kcn 5 3 < 2 then (25 : Int) else 0) = 0 := by decide +kernel
theorem wh_b1 : (if kcn 2 3 < 2 then (0 : Int) else evp [7, 5] 0) = 0 := by decide +kernel
theorem wh_b2 : (if kcn 2 3 < 2 then (25 : Int) else 0) = 25 := by decide +kernel

set_option maxRecDepth 100000 in
set_option maxHeartbeats 4000000 in
theorem whidden_any (w : World) (hT : Tabs w) : Calls Tryz.prog 8 #[] w fun e w' => e = .returned (.bool true) ∧ Below w.heap.size w w' := by
  have HT : Hid (∀ W, Below w.heap.size w W → Tabs W) := Lib.hid (fun W hW => hT.below hW)
  have HS : Hid (∀ (A : Option Addr) (c : Nat) (W : World), Ints W A [5] → Calls Tryz.prog 11 #[.int .i64 7, .slice A 1 c, .int .u8 1, .int .u8 1] W fun e w' => ∃ A' c', e = .returned (.tuple #[.slice A' 3 c', .int .i64 2, .bool true]) ∧ Prs w' A' (shs [7, 5] 3) ∧ Below W.heap.size W w') := Lib.hid (fun A c W hI => by
    have := wshares_any 7 A c [5] 1 1 W hI (by simp) (by omega) (by omega)
    rw [wh_list] at this
    refine this.mono ?_
    rintro e w' ⟨v, rfl, ho, hb⟩
    obtain ⟨A1, c1, rfl, -, -, hr1⟩ := Rd.of_own ho
    exact ⟨A1, c1, rfl, by unfold Prs; rw [shs_length]; exact hr1, hb⟩)
  have HO1 : Hid (∀ (A : Option Addr) (c : Nat) (W : World), Prs W A (shs [7, 5] 3) → Tabs W → Calls Tryz.prog 12 #[.slice A 3 c, .int .i64 2, .int .u8 5] W fun e w' => e = .returned (.tuple #[.int .i64 7, .int .i64 0]) ∧ Below W.heap.size W w') := Lib.hid (fun A c W hP hT => by
    have := wopened_any A c [7, 5] 2 3 5 W hP hT (by omega) (by omega) (by omega) (by simp) (by omega)
    rw [wh_a1, wh_a2] at this
    exact this)
  have HO2 : Hid (∀ (A : Option Addr) (c : Nat) (W : World), Prs W A (shs [7, 5] 3) → Tabs W → Calls Tryz.prog 12 #[.slice A 3 c, .int .i64 2, .int .u8 2] W fun e w' => e = .returned (.tuple #[.int .i64 0, .int .i64 25]) ∧ Below W.heap.size W w') := Lib.hid (fun A c W hP hT => by
    have := wopened_any A c [7, 5] 2 3 2 W hP hT (by omega) (by omega) (by omega) (by simp) (by omega)
    rw [wh_b1, wh_b2] at this
    exact this)
  generalize shs [7, 5] 3 = LL at *
  clear hT
  go_enter Tryz.func8, Tryz.ntmps8
  go_wp2_with fail
  refine (HS.out _ _ _ (Ints_new w #[.int .i64 5] _ _ [5] rfl rfl)).mono ?_
  rintro e w1 ⟨A1, c1, rfl, hP, hb⟩
  have HB1 := Lib.hid (below_trans (below_alloc (Below.refl w.heap.size w) _) hb)
  have HP1 : Hid (∀ W, Below w1.heap.size w1 W → Prs W A1 LL) := Lib.hid (fun W hW => hP.below hW)
  clear hP hb
  go_wp2_with fail
  refine (HO1.out A1 c1 w1 (HP1.out _ (Below.refl _ _)) (HT.out _ HB1.out)).mono ?_
  rintro e w2 ⟨rfl, hb⟩
  have HB2 := Lib.hid (below_trans HB1.out hb)
  have HY2 := Lib.hid hb
  clear hb
  go_wp2_with fail
  refine (HO2.out A1 c1 w2 (HP1.out _ HY2.out) (HT.out _ HB2.out)).mono ?_
  rintro e w3 ⟨rfl, hb⟩
  have HB3 := Lib.hid (below_trans HB2.out hb)
  clear hb
  go_wp2
  go_ret
  exact ⟨rfl, HB3.out⟩
end

section
open Go.RowKit

def md (l : List Int) : List Int := l.map fun x => x.tmod 1000000001
theorem md_len (l : List Int) : (md l).length = l.length := by simp [md]
theorem md_get {l : List Int} {k : Nat} {x : Int} (h : l[k]? = some x) : (md l)[k]? = some (x.tmod 1000000001) := by simp [md, h]
theorem tm_range (x : Int) : -1000000000 ≤ x.tmod 1000000001 ∧ x.tmod 1000000001 ≤ 1000000000 := by
  by_cases h : 0 ≤ x
  · rw [Int.tmod_eq_emod_of_nonneg h]; omega
  · have e : x.tmod 1000000001 = -((-x) % 1000000001) := by rw [← Int.tmod_eq_emod_of_nonneg (show 0 ≤ -x by omega), Int.neg_tmod, Int.neg_neg]
    rw [e]; omega
theorem md_ok (l : List Int) (s : Int) (hl : l.length ≤ 20) : mvOk (md l) (s % 2147483647) 1000000000 = true := by
  simp only [mvOk, Bool.and_eq_true, decide_eq_true_eq, List.all_eq_true]
  refine ⟨⟨by rw [md_len]; omega, elemB_mod s⟩, fun y hy => ?_⟩
  obtain ⟨x, _, rfl⟩ := List.mem_map.1 hy
  have := tm_range x
  simp only [mvR, Bool.and_eq_true, decide_eq_true_eq]
  omega

set_option maxRecDepth 100000 in
set_option maxHeartbeats 64000000 in
theorem back_walk (A : Option Addr) (c : Nat) (raw : List Int) (B : Option Addr) (d : Nat) (other : List Int) (secret : Int) (w : World) (hT : Tabs w) (hA : Ints w A raw) (hB : Ints w B other) (h1 : raw.length ≤ 9223372036854775807) (h2 : other.length ≤ 9223372036854775807) :
    Calls Tryz.prog 5 #[.slice A raw.length c, .slice B other.length d, .int .i64 secret] w fun e w' => e = .returned (.bool true) ∧ Below w.heap.size w w' := by
  have HH := Lib.hid (bhead_any w hT)
  have HT : Hid (∀ W, Below w.heap.size w W → Tabs W) := Lib.hid (fun W hW => hT.below hW)
  have HA := Lib.hid hA
  have HB := Lib.hid hB
  clear hT hA hB
  by_cases hz_a : 20 < raw.length
  case pos =>
    have hd1_a : decide (20 < raw.length) = true := decide_eq_true hz_a
    have hi1_a : (20 : Int) < (raw.length : Int) := by omega
    have hd2_a : decide ((20 : Int) < (raw.length : Int)) = true := decide_eq_true hi1_a
    go_enter Tryz.func5, Tryz.ntmps5
    go_wp2_with fail
    refine (HH.out).mono ?_
    rintro e w1 ⟨rfl, hb⟩
    have HB1 := Lib.hid hb
    clear hb
    go_wp2
    go_ret
    exact ⟨rfl, HB1.out⟩
  case neg =>
  have hd1_a : decide (20 < raw.length) = false := decide_eq_false hz_a
  have hi1_a : ¬ (20 : Int) < (raw.length : Int) := by omega
  have hd2_a : decide ((20 : Int) < (raw.length : Int)) = false := decide_eq_false hi1_a
  by_cases hz_b : 20 < other.length
  case pos =>
    have hd1_b : decide (20 < other.length) = true := decide_eq_true hz_b
    have hi1_b : (20 : Int) < (other.length : Int) := by omega
    have hd2_b : decide ((20 : Int) < (other.length : Int)) = true := decide_eq_true hi1_b
    go_enter Tryz.func5, Tryz.ntmps5
    go_wp2_with fail
    refine (HH.out).mono ?_
    rintro e w1 ⟨rfl, hb⟩
    have HB1 := Lib.hid hb
    clear hb
    go_wp2
    go_ret
    exact ⟨rfl, HB1.out⟩
  case neg =>
  have hd1_b : decide (20 < other.length) = false := decide_eq_false hz_b
  have hi1_b : ¬ (20 : Int) < (other.length : Int) := by omega
  have hd2_b : decide ((20 : Int) < (other.length : Int)) = false := decide_eq_false hi1_b
  obtain ⟨i0, hi0, hz0, hz1, hz2⟩ := info_parts info_int
  have HI := Lib.hid (And.intro hi0 (And.intro hz0 (And.intro hz1 hz2)))
  have HMO1 := Lib.hid (md_ok raw secret (by omega))
  have HMO2 := Lib.hid (md_ok other secret (by omega))
  have HML1 := Lib.hid (md_len raw)
  have HML2 := Lib.hid (md_len other)
  have HMG1 : Hid (∀ (k : Nat) (x : Int), raw[k]? = some x → (md raw)[k]? = some (x.tmod 1000000001)) := Lib.hid (fun k x h => md_get h)
  have HMG2 : Hid (∀ (k : Nat) (x : Int), other[k]? = some x → (md other)[k]? = some (x.tmod 1000000001)) := Lib.hid (fun k x h => md_get h)
  have HMR1 : Hid (∀ (k : Nat) (y : Int), (md raw)[k]? = some y → -1000000000 ≤ y ∧ y ≤ 1000000000) := Lib.hid (fun k y h => by
    obtain ⟨x, _, rfl⟩ := List.mem_map.1 (List.mem_of_getElem? h)
    exact tm_range x)
  have HMR2 : Hid (∀ (k : Nat) (y : Int), (md other)[k]? = some y → -1000000000 ≤ y ∧ y ≤ 1000000000) := Lib.hid (fun k y h => by
    obtain ⟨x, _, rfl⟩ := List.mem_map.1 (List.mem_of_getElem? h)
    exact tm_range x)
  generalize md raw = ma at *
  generalize md other = mb at *
  clear hi0 hz0 hz1 hz2 h1 h2
  go_enter Tryz.func5, Tryz.ntmps5
  go_wp2_with fail
  refine (HH.out).mono ?_
  rintro e w1 ⟨rfl, hb⟩
  have HB1 := Lib.hid hb
  clear hb
  have HO0 : Hid (w1.ownsRow w1.heap.size 3 1 (.slice none 0 0) 0 []) := ⟨rfl, .inl ⟨rfl, rfl⟩⟩
  go_wp2_with fail
  go_loopw [8, 10] (fun us uc wr => ∃ k : Nat, k ≤ raw.length ∧ uc = .int .i64 k ∧ Below w1.heap.size w1 wr ∧ wr.ownsRow w1.heap.size 3 1 us k ((ma.take k).map (Value.int .i64))) (fun _ uc _ => raw.length - (intOf uc).toNat)
  case atStart => exact ⟨0, Nat.zero_le _, rfl, Below.refl _ _, HO0.out⟩
  case round =>
  obtain ⟨k, hk, rfl, hb, ho⟩ := hrel
  have HBk := Lib.hid hb
  have HOk := Lib.hid ho
  clear hb ho
  by_cases hlt : k < raw.length
  case pos =>
    obtain ⟨x, hx⟩ := get_some raw k hlt
    obtain ⟨bb, off, rfl, hcell⟩ := (HA.out.below (below_trans HB1.out HBk.out)).at_ hx
    have hcl := lt_of_cell hcell
    have HX := Lib.hid (HMG1.out k x hx)
    clear hx
    generalize hy : x.tmod 1000000001 = y at *
    go_wp2_with (at_builtin; refine wpList_app _ rfl (.tmp 35) (.tmp 41) 22 22 rfl w1.heap.size 3 3 i0 _ 1 8 Tryz.underlying22 Tryz.underlying22 HI.out.1 HI.out.2.1 HI.out.2.2.1 HI.out.2.2.2 rfl (by omega) _ k _ rfl (HOk.out.alloc _) _ 1 1 [.int .i64 y] rfl (Rd_new wr #[.int .i64 y] _ 1 1 _ rfl rfl) (by simp [Value.oneCell']) (by simp only [maxLen]; omega) (by omega) (by have := HBk.out.size; simp; omega) ?_)
    intro v1 w4 hown4 hg4
    have HB4 : Hid (Below w1.heap.size w1 w4) := Lib.hid ((below_alloc HBk.out _).grown hg4 (by have := HBk.out.size; simp; omega) (fun j hj => (HOk.out.lt j hj).1))
    have HOWN4 := Lib.hid hown4
    clear hown4 hg4 hy
    go_wp2
    go_roundw
    case rel => exact ⟨k + 1, by omega, by go_num, HB4.out, by rw [take_snoc _ _ _ HX.out, List.map_append, List.map_take]; exact HOWN4.out⟩
    case measure => simp [intOf]; omega
  case neg =>
  obtain rfl : k = raw.length := by omega
  obtain ⟨A8, c8, rfl, -, -, hr8⟩ := Rd.of_own HOk.out
  have hI8 : Ints wr A8 ma := by
    unfold Ints
    rw [HML1.out]
    rw [List.take_of_length_le (by rw [HML1.out]; exact Nat.le_refl _)] at hr8
    exact hr8
  have HI8 : Hid (∀ W, Below wr.heap.size wr W → Ints W A8 ma) := Lib.hid (fun W hW => hI8.below hW)
  have HB2 := Lib.hid (below_trans HB1.out HBk.out)
  clear hI8 hr8 HOk HBk HO0
  obtain ⟨w2, rfl⟩ : ∃ w2 : World, w2 = wr := ⟨_, rfl⟩
  have HO0 : Hid (w2.ownsRow w2.heap.size 3 1 (.slice none 0 0) 0 []) := ⟨rfl, .inl ⟨rfl, rfl⟩⟩
  go_wp2_with fail
  go_loopw [9, 11] (fun us uc wr => ∃ k : Nat, k ≤ other.length ∧ uc = .int .i64 k ∧ Below w2.heap.size w2 wr ∧ wr.ownsRow w2.heap.size 3 1 us k ((mb.take k).map (Value.int .i64))) (fun _ uc _ => other.length - (intOf uc).toNat)
  case atStart => exact ⟨0, Nat.zero_le _, rfl, Below.refl _ _, HO0.out⟩
  case round =>
  obtain ⟨k, hk, rfl, hb, ho⟩ := hrel
  have HBk := Lib.hid hb
  have HOk := Lib.hid ho
  clear hb ho
  by_cases hlt : k < other.length
  case pos =>
    obtain ⟨x, hx⟩ := get_some other k hlt
    obtain ⟨bb, off, rfl, hcell⟩ := (HB.out.below (below_trans HB2.out HBk.out)).at_ hx
    have hcl := lt_of_cell hcell
    have HX := Lib.hid (HMG2.out k x hx)
    clear hx
    generalize hy : x.tmod 1000000001 = y at *
    go_wp2_with (at_builtin; refine wpList_app _ rfl (.tmp 49) (.tmp 55) 22 22 rfl w2.heap.size 3 3 i0 _ 1 8 Tryz.underlying22 Tryz.underlying22 HI.out.1 HI.out.2.1 HI.out.2.2.1 HI.out.2.2.2 rfl (by omega) _ k _ rfl (HOk.out.alloc _) _ 1 1 [.int .i64 y] rfl (Rd_new wr #[.int .i64 y] _ 1 1 _ rfl rfl) (by simp [Value.oneCell']) (by simp only [maxLen]; omega) (by omega) (by have := HBk.out.size; simp; omega) ?_)
    intro v1 w4 hown4 hg4
    have HB4 : Hid (Below w2.heap.size w2 w4) := Lib.hid ((below_alloc HBk.out _).grown hg4 (by have := HBk.out.size; simp; omega) (fun j hj => (HOk.out.lt j hj).1))
    have HOWN4 := Lib.hid hown4
    clear hown4 hg4 hy
    go_wp2
    go_roundw
    case rel => exact ⟨k + 1, by omega, by go_num, HB4.out, by rw [take_snoc _ _ _ HX.out, List.map_append, List.map_take]; exact HOWN4.out⟩
    case measure => simp [intOf]; omega
  case neg =>
  obtain rfl : k = other.length := by omega
  obtain ⟨A9, c9, rfl, -, -, hr9⟩ := Rd.of_own HOk.out
  have hI9 : Ints wr A9 mb := by
    unfold Ints
    rw [HML2.out]
    rw [List.take_of_length_le (by rw [HML2.out]; exact Nat.le_refl _)] at hr9
    exact hr9
  have HI89 : Hid (∀ W, Below wr.heap.size wr W → Ints W A8 ma ∧ Ints W A9 mb) := Lib.hid (fun W hW => ⟨HI8.out W (below_trans HBk.out hW), hI9.below hW⟩)
  have HB3 := Lib.hid (below_trans HB2.out HBk.out)
  clear hI9 hr9 HOk HBk HO0 HI8
  obtain ⟨w3, rfl⟩ : ∃ w3 : World, w3 = wr := ⟨_, rfl⟩
  have hle1 := HML1.out
  have hle2 := HML2.out
  have HX3 : Hid (Below w3.heap.size w3 w3) := Lib.hid (Below.refl _ _)
  have HBA : Hid (∀ W, Below w3.heap.size w3 W → _) := Lib.hid (fun W hW => blind_any A8 c8 ma (secret % 2147483647) W (HI89.out W hW).1 (by omega) (HT.out W (below_trans HB3.out hW)))
  have HBB : Hid (∀ W, Below w3.heap.size w3 W → _) := Lib.hid (fun W hW => blind_any A9 c9 mb (secret % 2147483647) W (HI89.out W hW).2 (by omega) (HT.out W (below_trans HB3.out hW)))
  have hbk := back_ok HMO1.out
  have HBL1 := Lib.hid (blL_len HMO1.out)
  have HBL2 := Lib.hid (blL_len HMO2.out)
  have HBG1 : Hid (∀ (i : Nat) (x : Int), ma[i]? = some x → (blL ma (secret % 2147483647))[i]? = some (x + (offN (secret % 2147483647).toNat i : Int))) := Lib.hid (fun i x h => blL_get HMO1.out h)
  have HBG2 : Hid (∀ (i : Nat) (x : Int), mb[i]? = some x → (blL mb (secret % 2147483647))[i]? = some (x + (offN (secret % 2147483647).toNat i : Int))) := Lib.hid (fun i x h => blL_get HMO2.out h)
  have HOF : Hid (∀ i, offN (secret % 2147483647).toNat i < 1000003) := Lib.hid (fun i => offN_lt _ i)
  have HUN : Hid (∀ (Z : Option Addr) (cz : Nat) W, Below w3.heap.size w3 W → Ints W Z (blL ma (secret % 2147483647)) → Calls Tryz.prog 13 #[.slice Z (blL ma (secret % 2147483647)).length cz, .int .i64 (secret % 2147483647)] W fun e w' => ∃ v, e = .returned (.tuple #[v, .int .i64 0]) ∧ w'.ownsRow W.heap.size 3 1 v ma.length (ma.map (Value.int .i64)) ∧ Below W.heap.size W w') := Lib.hid (fun Z cz W hW hZ => by
    have := unblind_any Z cz (blL ma (secret % 2147483647)) (secret % 2147483647) W hZ (by rw [blL_len HMO1.out]; omega) (HT.out W (below_trans HB3.out hW))
    rw [hbk.1, hbk.2, if_pos rfl] at this
    exact this)
  rw [HMO1.out, if_pos rfl] at HBA
  rw [HMO2.out, if_pos rfl] at HBB
  generalize blL ma (secret % 2147483647) = xs at *
  generalize blL mb (secret % 2147483647) = ys at *
  generalize offN (secret % 2147483647).toNat = of at *
  rw [hle1] at HBA HUN
  rw [hle2] at HBB
  clear hbk hle1 hle2
  go_wp2_with fail
  refine (lelement_any _ _).mono ?_
  rintro e _ ⟨rfl, rfl⟩
  go_wp2_with fail
  refine (HBA.out w3 HX3.out).mono ?_
  rintro e w4 ⟨v4, rfl, ho, hb⟩
  obtain ⟨Ax, cx, rfl, -, -, hrx⟩ := Rd.of_own ho
  have HX4 := Lib.hid hb
  have HIX : Hid (∀ W, Below w4.heap.size w4 W → Ints W Ax xs) := Lib.hid (fun W hW => Ints.below hrx hW)
  clear ho hb hrx
  go_wp2_with fail
  refine (lelement_any _ _).mono ?_
  rintro e _ ⟨rfl, rfl⟩
  go_wp2_with fail
  refine (HBB.out w4 HX4.out).mono ?_
  rintro e w5 ⟨v5, rfl, ho, hb⟩
  obtain ⟨Ay, cy, rfl, -, -, hry⟩ := Rd.of_own ho
  have HX5 := Lib.hid (below_trans HX4.out hb)
  have HXY : Hid (∀ W, Below w5.heap.size w5 W → Ints W Ax xs ∧ Ints W Ay ys) := Lib.hid (fun W hW => ⟨HIX.out W (below_trans hb hW), Ints.below hry hW⟩)
  clear ho hb hry HIX
  go_wp2_with fail
  refine (lelement_any _ _).mono ?_
  rintro e _ ⟨rfl, rfl⟩
  go_wp2_with fail
  refine (HUN.out Ax cx w5 HX5.out (HXY.out _ (Below.refl _ _)).1).mono ?_
  rintro e w6 ⟨v6, rfl, ho, hb⟩
  obtain ⟨Az, cz, rfl, -, -, hrz⟩ := Rd.of_own ho
  have HX6 := Lib.hid (below_trans HX5.out hb)
  have HQ6 : Hid (Below w5.heap.size w5 w6) := Lib.hid hb
  have hIZ : Ints w6 Az ma := by unfold Ints; rw [HML1.out]; exact hrz
  have hsm := isame_any Az A8 cz c8 ma ma w6 hIZ (HI89.out w6 HX6.out).1 (by have := HML1.out; omega) (by have := HML1.out; omega)
  rw [decide_eq_true rfl, HML1.out] at hsm
  have HSM := Lib.hid hsm
  clear ho hb hrz hIZ hsm
  have hl1 : ((xs.length : Int) != (raw.length : Int)) = false := by have := HBL1.out; have := HML1.out; simp; omega
  have hl2 : ((ys.length : Int) != (other.length : Int)) = false := by have := HBL2.out; have := HML2.out; simp; omega
  go_wp2_with fail
  refine HSM.out.mono ?_
  rintro e w7 ⟨rfl, hb⟩
  have HX7 := Lib.hid (below_trans HX6.out hb)
  have HQ7 := Lib.hid (below_trans HQ6.out hb)
  clear hb
  go_wp2_with fail
  go_loopw [18] (fun u18 wr => ∃ i : Nat, i ≤ raw.length ∧ u18 = .int .i64 i ∧ Below w7.heap.size w7 wr) (fun u18 _ => raw.length - (intOf u18).toNat)
  case atStart => exact ⟨0, Nat.zero_le _, rfl, Below.refl _ _⟩
  case round =>
  obtain ⟨i, hi, rfl, hb⟩ := hrel
  have HW := Lib.hid hb
  clear hb
  by_cases hlt : i < raw.length
  case neg =>
    go_wp2
    go_ret
    exact ⟨rfl, below_trans HB3.out (below_trans HX7.out HW.out)⟩
  case pos =>
  obtain ⟨x, hx⟩ := get_some ma i (by have := HML1.out; omega)
  have hxr := HMR1.out i x hx
  have hX := HBG1.out i x hx
  have hd := HOF.out i
  obtain ⟨bx, ox, rfl, q1⟩ := (HXY.out _ (below_trans HQ7.out HW.out)).1.at_ hX
  obtain ⟨ba, oa, rfl, q2⟩ := (HI89.out _ (below_trans HX7.out HW.out)).1.at_ hx
  have HC : Hid (∀ W, Below wr.heap.size wr W → W.cell? ⟨bx, ox + i, none⟩ = some (.int .i64 (x + (of i : Int))) ∧ W.cell? ⟨ba, oa + i, none⟩ = some (.int .i64 x)) := Lib.hid (fun W hW => ⟨kept_cell hW q1, kept_cell hW q2⟩)
  have hxl : i < xs.length := by have := HBL1.out; have := HML1.out; omega
  clear q1 q2 hX
  obtain ⟨dd, hdd⟩ : ∃ dd, dd = of i := ⟨_, rfl⟩
  have HDD := Lib.hid hdd
  rw [← hdd] at hd HC
  clear hdd
  have e1 : decide (x + (dd : Int) < x) = false := decide_eq_false (by omega)
  have e2 : decide (x + 1000002 < x + (dd : Int)) = false := decide_eq_false (by omega)
  have e2' : decide (1000002 < (dd : Int)) = false := decide_eq_false (by omega)
  have wr1 : IntKind.i64.wrap (x + 1000002) = x + 1000002 := by rw [IntWalk.i64_in _ (by omega)]
  generalize hXX : x + (dd : Int) = X at *
  have HXX := Lib.hid hXX
  clear hXX e2'
  by_cases hlb : i < other.length
  case pos =>
    obtain ⟨y, hy⟩ := get_some mb i (by have := HML2.out; omega)
    have hyr := HMR2.out i y hy
    have hY := HBG2.out i y hy
    obtain ⟨by_, oy, rfl, q1⟩ := (HXY.out _ (below_trans HQ7.out HW.out)).2.at_ hY
    obtain ⟨bb, ob, rfl, q2⟩ := (HI89.out _ (below_trans HX7.out HW.out)).2.at_ hy
    have HD : Hid (∀ W, Below wr.heap.size wr W → W.cell? ⟨by_, oy + i, none⟩ = some (.int .i64 (y + (of i : Int))) ∧ W.cell? ⟨bb, ob + i, none⟩ = some (.int .i64 y)) := Lib.hid (fun W hW => ⟨kept_cell hW q1, kept_cell hW q2⟩)
    have hyl : i < ys.length := by have := HBL2.out; have := HML2.out; omega
    rw [← HDD.out] at HD
    have hx3 := HXX.out
    have wr2 : IntKind.i64.wrap (X - (y + (dd : Int))) = x - y := by rw [IntWalk.i64_in _ (by omega)]; omega
    have wr3 : IntKind.i64.wrap (x - y) = x - y := by rw [IntWalk.i64_in _ (by omega)]
    generalize y + (dd : Int) = Y at *
    have hlbi : decide ((i : Int) < (other.length : Int)) = true := decide_eq_true (by omega)
    have hlbn : decide (i < other.length) = true := decide_eq_true (by omega)
    clear hx hy q1 q2 hY hyr hxr hd hx3
    go_wp2_with fail
    refine wp_region_belowC (by kernel_rfl) (by kernel_rfl) (fun WQ HQS HQN => ?_)
    refine HQS.go (fun K hK => ?_)
    go_simp
    apply Exists.intro
    refine ⟨fun W hW => ?_, hK _ ?_⟩
    · (try go_simp)
      exact rfl
    clear hK K
    refine HQS.go (fun K hK => ?_)
    go_simp
    apply Exists.intro
    refine ⟨fun W hW => ?_, hK _ ?_⟩
    · (try go_simp)
      exact rfl
    clear hK K
    refine HQS.go (fun K hK => ?_)
    go_simp
    apply Exists.intro
    refine ⟨fun W hW => ?_, hK _ ?_⟩
    · (try go_simp)
      exact rfl
    clear hK K
    refine HQS.go (fun K hK => ?_)
    go_simp
    apply Exists.intro
    refine ⟨fun W hW => ?_, hK _ ?_⟩
    · have q := (HC.out W hW).1
      have ql := lt_of_cell q
      go_simp
      exact rfl
    clear hK K
    refine HQS.go (fun K hK => ?_)
    go_simp
    apply Exists.intro
    refine ⟨fun W hW => ?_, hK _ ?_⟩
    · (try go_simp)
      exact rfl
    clear hK K
    refine HQS.go (fun K hK => ?_)
    go_simp
    apply Exists.intro
    refine ⟨fun W hW => ?_, hK _ ?_⟩
    · (try go_simp)
      exact rfl
    clear hK K
    refine HQS.go (fun K hK => ?_)
    go_simp
    apply Exists.intro
    refine ⟨fun W hW => ?_, hK _ ?_⟩
    · (try go_simp)
      exact rfl
    clear hK K
    refine HQS.go (fun K hK => ?_)
    go_simp
    apply Exists.intro
    refine ⟨fun W hW => ?_, hK _ ?_⟩
    · have q := (HC.out W hW).2
      have ql := lt_of_cell q
      go_simp
      exact rfl
    clear hK K
    refine HQS.go (fun K hK => ?_)
    go_simp
    apply Exists.intro
    refine ⟨fun W hW => ?_, hK _ ?_⟩
    · (try go_simp)
      exact rfl
    clear hK K
    refine HQS.go (fun K hK => ?_)
    go_simp
    apply Exists.intro
    refine ⟨fun W hW => ?_, hK _ ?_⟩
    · (try go_simp)
      exact rfl
    clear hK K
    refine HQS.go (fun K hK => ?_)
    go_simp
    apply Exists.intro
    refine ⟨fun W hW => ?_, hK _ ?_⟩
    · (try go_simp)
      exact rfl
    clear hK K
    refine HQS.go (fun K hK => ?_)
    go_simp
    apply Exists.intro
    refine ⟨fun W hW => ?_, hK _ ?_⟩
    · (try go_simp)
      exact rfl
    clear hK K
    refine HQS.go (fun K hK => ?_)
    go_simp
    apply Exists.intro
    refine ⟨fun W hW => ?_, hK _ ?_⟩
    · (try go_simp)
      exact rfl
    clear hK K
    refine HQS.go (fun K hK => ?_)
    go_simp
    apply Exists.intro
    refine ⟨fun W hW => ?_, hK _ ?_⟩
    · have q := (HC.out W hW).1
      have ql := lt_of_cell q
      go_simp
      exact rfl
    clear hK K
    refine HQS.go (fun K hK => ?_)
    go_simp
    apply Exists.intro
    refine ⟨fun W hW => ?_, hK _ ?_⟩
    · (try go_simp)
      exact rfl
    clear hK K
    refine HQS.go (fun K hK => ?_)
    go_simp
    apply Exists.intro
    refine ⟨fun W hW => ?_, hK _ ?_⟩
    · (try go_simp)
      exact rfl
    clear hK K
    refine HQS.go (fun K hK => ?_)
    go_simp
    apply Exists.intro
    refine ⟨fun W hW => ?_, hK _ ?_⟩
    · (try go_simp)
      exact rfl
    clear hK K
    refine HQS.go (fun K hK => ?_)
    go_simp
    apply Exists.intro
    refine ⟨fun W hW => ?_, hK _ ?_⟩
    · have q := (HC.out W hW).2
      have ql := lt_of_cell q
      go_simp
      exact rfl
    clear hK K
    refine HQS.go (fun K hK => ?_)
    go_simp
    apply Exists.intro
    refine ⟨fun W hW => ?_, hK _ ?_⟩
    · (try go_simp)
      exact rfl
    clear hK K
    refine HQS.go (fun K hK => ?_)
    go_simp
    apply Exists.intro
    refine ⟨fun W hW => ?_, hK _ ?_⟩
    · (try go_simp)
      exact rfl
    clear hK K
    refine HQS.go (fun K hK => ?_)
    go_simp
    apply Exists.intro
    refine ⟨fun W hW => ?_, hK _ ?_⟩
    · (try go_simp)
      exact rfl
    clear hK K
    refine HQS.go (fun K hK => ?_)
    go_simp
    apply Exists.intro
    refine ⟨fun W hW => ?_, hK _ ?_⟩
    · (try go_simp)
      exact rfl
    clear hK K
    refine HQS.go (fun K hK => ?_)
    go_simp
    apply Exists.intro
    refine ⟨fun W hW => ?_, hK _ ?_⟩
    · (try go_simp)
      exact rfl
    clear hK K
    refine HQS.go (fun K hK => ?_)
    go_simp
    apply Exists.intro
    refine ⟨fun W hW => ?_, hK _ ?_⟩
    · (try go_simp)
      exact rfl
    clear hK K
    refine HQS.go (fun K hK => ?_)
    go_simp
    apply Exists.intro
    refine ⟨fun W hW => ?_, hK _ ?_⟩
    · (try go_simp)
      exact rfl
    clear hK K
    refine HQS.go (fun K hK => ?_)
    go_simp
    apply Exists.intro
    refine ⟨fun W hW => ?_, hK _ ?_⟩
    · (try go_simp)
      exact rfl
    clear hK K
    refine HQS.go (fun K hK => ?_)
    go_simp
    apply Exists.intro
    refine ⟨fun W hW => ?_, hK _ ?_⟩
    · (try go_simp)
      exact rfl
    clear hK K
    refine HQS.go (fun K hK => ?_)
    go_simp
    apply Exists.intro
    refine ⟨fun W hW => ?_, hK _ ?_⟩
    · (try go_simp)
      exact rfl
    clear hK K
    refine HQS.go (fun K hK => ?_)
    go_simp
    apply Exists.intro
    refine ⟨fun W hW => ?_, hK _ ?_⟩
    · (try go_simp)
      exact rfl
    clear hK K
    refine HQS.go (fun K hK => ?_)
    go_simp
    apply Exists.intro
    refine ⟨fun W hW => ?_, hK _ ?_⟩
    · (try go_simp)
      exact rfl
    clear hK K
    refine HQS.go (fun K hK => ?_)
    go_simp
    apply Exists.intro
    refine ⟨fun W hW => ?_, hK _ ?_⟩
    · have q := (HC.out W hW).1
      have ql := lt_of_cell q
      go_simp
      exact rfl
    clear hK K
    refine HQS.go (fun K hK => ?_)
    go_simp
    apply Exists.intro
    refine ⟨fun W hW => ?_, hK _ ?_⟩
    · (try go_simp)
      exact rfl
    clear hK K
    refine HQS.go (fun K hK => ?_)
    go_simp
    apply Exists.intro
    refine ⟨fun W hW => ?_, hK _ ?_⟩
    · (try go_simp)
      exact rfl
    clear hK K
    refine HQS.go (fun K hK => ?_)
    go_simp
    apply Exists.intro
    refine ⟨fun W hW => ?_, hK _ ?_⟩
    · (try go_simp)
      exact rfl
    clear hK K
    refine HQS.go (fun K hK => ?_)
    go_simp
    apply Exists.intro
    refine ⟨fun W hW => ?_, hK _ ?_⟩
    · have q := (HD.out W hW).1
      have ql := lt_of_cell q
      go_simp
      exact rfl
    clear hK K
    refine HQS.go (fun K hK => ?_)
    go_simp
    apply Exists.intro
    refine ⟨fun W hW => ?_, hK _ ?_⟩
    · (try go_simp)
      exact rfl
    clear hK K
    refine HQS.go (fun K hK => ?_)
    go_simp
    apply Exists.intro
    refine ⟨fun W hW => ?_, hK _ ?_⟩
    · (try go_simp)
      exact rfl
    clear hK K
    refine HQS.go (fun K hK => ?_)
    go_simp
    apply Exists.intro
    refine ⟨fun W hW => ?_, hK _ ?_⟩
    · (try go_simp)
      exact rfl
    clear hK K
    refine HQS.go (fun K hK => ?_)
    go_simp
    apply Exists.intro
    refine ⟨fun W hW => ?_, hK _ ?_⟩
    · (try go_simp)
      exact rfl
    clear hK K
    refine HQS.go (fun K hK => ?_)
    go_simp
    apply Exists.intro
    refine ⟨fun W hW => ?_, hK _ ?_⟩
    · have q := (HC.out W hW).2
      have ql := lt_of_cell q
      go_simp
      exact rfl
    clear hK K
    refine HQS.go (fun K hK => ?_)
    go_simp
    apply Exists.intro
    refine ⟨fun W hW => ?_, hK _ ?_⟩
    · (try go_simp)
      exact rfl
    clear hK K
    refine HQS.go (fun K hK => ?_)
    go_simp
    apply Exists.intro
    refine ⟨fun W hW => ?_, hK _ ?_⟩
    · (try go_simp)
      exact rfl
    clear hK K
    refine HQS.go (fun K hK => ?_)
    go_simp
    apply Exists.intro
    refine ⟨fun W hW => ?_, hK _ ?_⟩
    · (try go_simp)
      exact rfl
    clear hK K
    refine HQS.go (fun K hK => ?_)
    go_simp
    apply Exists.intro
    refine ⟨fun W hW => ?_, hK _ ?_⟩
    · have q := (HD.out W hW).2
      have ql := lt_of_cell q
      go_simp
      exact rfl
    clear hK K
    refine HQS.go (fun K hK => ?_)
    go_simp
    apply Exists.intro
    refine ⟨fun W hW => ?_, hK _ ?_⟩
    · (try go_simp)
      exact rfl
    clear hK K
    refine HQS.go (fun K hK => ?_)
    go_simp
    apply Exists.intro
    refine ⟨fun W hW => ?_, hK _ ?_⟩
    · (try go_simp)
      exact rfl
    clear hK K
    refine HQS.go (fun K hK => ?_)
    go_simp
    apply Exists.intro
    refine ⟨fun W hW => ?_, hK _ ?_⟩
    · (try go_simp)
      exact rfl
    clear hK K
    refine HQS.go (fun K hK => ?_)
    go_simp
    apply Exists.intro
    refine ⟨fun W hW => ?_, hK _ ?_⟩
    · (try go_simp)
      exact rfl
    clear hK K
    refine HQN.go ?_
    intro w8 hW
    have H8 := Lib.hid (below_trans HW.out hW)
    clear hW
    go_wp2
    go_roundw
    case rel => exact ⟨i + 1, by omega, by go_num, H8.out⟩
    case measure => simp [intOf]; omega
  case neg =>
    have hlbi : decide ((i : Int) < (other.length : Int)) = false := decide_eq_false (by omega)
    have hlbn : decide (i < other.length) = false := decide_eq_false (by omega)
    clear hx hxr hd
    go_wp2_with fail
    refine wp_region_belowC (by kernel_rfl) (by kernel_rfl) (fun WQ HQS HQN => ?_)
    refine HQS.go (fun K hK => ?_)
    go_simp
    apply Exists.intro
    refine ⟨fun W hW => ?_, hK _ ?_⟩
    · (try go_simp)
      exact rfl
    clear hK K
    refine HQS.go (fun K hK => ?_)
    go_simp
    apply Exists.intro
    refine ⟨fun W hW => ?_, hK _ ?_⟩
    · (try go_simp)
      exact rfl
    clear hK K
    refine HQS.go (fun K hK => ?_)
    go_simp
    apply Exists.intro
    refine ⟨fun W hW => ?_, hK _ ?_⟩
    · (try go_simp)
      exact rfl
    clear hK K
    refine HQS.go (fun K hK => ?_)
    go_simp
    apply Exists.intro
    refine ⟨fun W hW => ?_, hK _ ?_⟩
    · have q := (HC.out W hW).1
      have ql := lt_of_cell q
      go_simp
      exact rfl
    clear hK K
    refine HQS.go (fun K hK => ?_)
    go_simp
    apply Exists.intro
    refine ⟨fun W hW => ?_, hK _ ?_⟩
    · (try go_simp)
      exact rfl
    clear hK K
    refine HQS.go (fun K hK => ?_)
    go_simp
    apply Exists.intro
    refine ⟨fun W hW => ?_, hK _ ?_⟩
    · (try go_simp)
      exact rfl
    clear hK K
    refine HQS.go (fun K hK => ?_)
    go_simp
    apply Exists.intro
    refine ⟨fun W hW => ?_, hK _ ?_⟩
    · (try go_simp)
      exact rfl
    clear hK K
    refine HQS.go (fun K hK => ?_)
    go_simp
    apply Exists.intro
    refine ⟨fun W hW => ?_, hK _ ?_⟩
    · have q := (HC.out W hW).2
      have ql := lt_of_cell q
      go_simp
      exact rfl
    clear hK K
    refine HQS.go (fun K hK => ?_)
    go_simp
    apply Exists.intro
    refine ⟨fun W hW => ?_, hK _ ?_⟩
    · (try go_simp)
      exact rfl
    clear hK K
    refine HQS.go (fun K hK => ?_)
    go_simp
    apply Exists.intro
    refine ⟨fun W hW => ?_, hK _ ?_⟩
    · (try go_simp)
      exact rfl
    clear hK K
    refine HQS.go (fun K hK => ?_)
    go_simp
    apply Exists.intro
    refine ⟨fun W hW => ?_, hK _ ?_⟩
    · (try go_simp)
      exact rfl
    clear hK K
    refine HQS.go (fun K hK => ?_)
    go_simp
    apply Exists.intro
    refine ⟨fun W hW => ?_, hK _ ?_⟩
    · (try go_simp)
      exact rfl
    clear hK K
    refine HQS.go (fun K hK => ?_)
    go_simp
    apply Exists.intro
    refine ⟨fun W hW => ?_, hK _ ?_⟩
    · (try go_simp)
      exact rfl
    clear hK K
    refine HQS.go (fun K hK => ?_)
    go_simp
    apply Exists.intro
    refine ⟨fun W hW => ?_, hK _ ?_⟩
    · have q := (HC.out W hW).1
      have ql := lt_of_cell q
      go_simp
      exact rfl
    clear hK K
    refine HQS.go (fun K hK => ?_)
    go_simp
    apply Exists.intro
    refine ⟨fun W hW => ?_, hK _ ?_⟩
    · (try go_simp)
      exact rfl
    clear hK K
    refine HQS.go (fun K hK => ?_)
    go_simp
    apply Exists.intro
    refine ⟨fun W hW => ?_, hK _ ?_⟩
    · (try go_simp)
      exact rfl
    clear hK K
    refine HQS.go (fun K hK => ?_)
    go_simp
    apply Exists.intro
    refine ⟨fun W hW => ?_, hK _ ?_⟩
    · (try go_simp)
      exact rfl
    clear hK K
    refine HQS.go (fun K hK => ?_)
    go_simp
    apply Exists.intro
    refine ⟨fun W hW => ?_, hK _ ?_⟩
    · have q := (HC.out W hW).2
      have ql := lt_of_cell q
      go_simp
      exact rfl
    clear hK K
    refine HQS.go (fun K hK => ?_)
    go_simp
    apply Exists.intro
    refine ⟨fun W hW => ?_, hK _ ?_⟩
    · (try go_simp)
      exact rfl
    clear hK K
    refine HQS.go (fun K hK => ?_)
    go_simp
    apply Exists.intro
    refine ⟨fun W hW => ?_, hK _ ?_⟩
    · (try go_simp)
      exact rfl
    clear hK K
    refine HQS.go (fun K hK => ?_)
    go_simp
    apply Exists.intro
    refine ⟨fun W hW => ?_, hK _ ?_⟩
    · (try go_simp)
      exact rfl
    clear hK K
    refine HQS.go (fun K hK => ?_)
    go_simp
    apply Exists.intro
    refine ⟨fun W hW => ?_, hK _ ?_⟩
    · (try go_simp)
      exact rfl
    clear hK K
    refine HQS.go (fun K hK => ?_)
    go_simp
    apply Exists.intro
    refine ⟨fun W hW => ?_, hK _ ?_⟩
    · (try go_simp)
      exact rfl
    clear hK K
    refine HQS.go (fun K hK => ?_)
    go_simp
    apply Exists.intro
    refine ⟨fun W hW => ?_, hK _ ?_⟩
    · (try go_simp)
      exact rfl
    clear hK K
    refine HQS.go (fun K hK => ?_)
    go_simp
    apply Exists.intro
    refine ⟨fun W hW => ?_, hK _ ?_⟩
    · (try go_simp)
      exact rfl
    clear hK K
    refine HQS.go (fun K hK => ?_)
    go_simp
    apply Exists.intro
    refine ⟨fun W hW => ?_, hK _ ?_⟩
    · (try go_simp)
      exact rfl
    clear hK K
    refine HQS.go (fun K hK => ?_)
    go_simp
    apply Exists.intro
    refine ⟨fun W hW => ?_, hK _ ?_⟩
    · (try go_simp)
      exact rfl
    clear hK K
    refine HQS.go (fun K hK => ?_)
    go_simp
    refine hK _ ?_
    clear hK K
    refine HQS.go (fun K hK => ?_)
    go_simp
    refine hK _ ?_
    clear hK K
    refine HQS.go (fun K hK => ?_)
    go_simp
    refine hK _ ?_
    clear hK K
    refine HQS.go (fun K hK => ?_)
    go_simp
    refine hK _ ?_
    clear hK K
    refine HQS.go (fun K hK => ?_)
    go_simp
    refine hK _ ?_
    clear hK K
    refine HQS.go (fun K hK => ?_)
    go_simp
    refine hK _ ?_
    clear hK K
    refine HQS.go (fun K hK => ?_)
    go_simp
    refine hK _ ?_
    clear hK K
    refine HQS.go (fun K hK => ?_)
    go_simp
    refine hK _ ?_
    clear hK K
    refine HQS.go (fun K hK => ?_)
    go_simp
    refine hK _ ?_
    clear hK K
    refine HQS.go (fun K hK => ?_)
    go_simp
    refine hK _ ?_
    clear hK K
    refine HQS.go (fun K hK => ?_)
    go_simp
    refine hK _ ?_
    clear hK K
    refine HQS.go (fun K hK => ?_)
    go_simp
    refine hK _ ?_
    clear hK K
    refine HQS.go (fun K hK => ?_)
    go_simp
    refine hK _ ?_
    clear hK K
    refine HQS.go (fun K hK => ?_)
    go_simp
    refine hK _ ?_
    clear hK K
    refine HQS.go (fun K hK => ?_)
    go_simp
    refine hK _ ?_
    clear hK K
    refine HQS.go (fun K hK => ?_)
    go_simp
    refine hK _ ?_
    clear hK K
    refine HQS.go (fun K hK => ?_)
    go_simp
    refine hK _ ?_
    clear hK K
    refine HQS.go (fun K hK => ?_)
    go_simp
    refine hK _ ?_
    clear hK K
    refine HQS.go (fun K hK => ?_)
    go_simp
    refine hK _ ?_
    clear hK K
    refine HQS.go (fun K hK => ?_)
    go_simp
    apply Exists.intro
    refine ⟨fun W hW => ?_, hK _ ?_⟩
    · (try go_simp)
      exact rfl
    clear hK K
    refine HQS.go (fun K hK => ?_)
    go_simp
    apply Exists.intro
    refine ⟨fun W hW => ?_, hK _ ?_⟩
    · (try go_simp)
      exact rfl
    clear hK K
    refine HQN.go ?_
    intro w8 hW
    have H8 := Lib.hid (below_trans HW.out hW)
    clear hW
    go_wp2
    go_roundw
    case rel => exact ⟨i + 1, by omega, by go_num, H8.out⟩
    case measure => simp [intOf]; omega
end

section
open Go.RowKit

theorem mvOk_other {l : List Int} {s t most : Int} (h : mvOk l s most = true) (ht : elemB t = true) : mvOk l t most = true := by
  simp only [mvOk, Bool.and_eq_true] at h ⊢
  exact ⟨⟨h.1.1, ht⟩, h.2⟩
theorem unL_get {l : List Int} {s : Int} (h : mvOk l s 1001000002 = true) {i : Nat} {x : Int} (hx : l[i]? = some x) : (unL l s)[i]? = some (x - (offN s.toNat i : Int)) := by
  unfold unL mvL
  rw [h, if_pos rfl, mvA_get s.toNat (-1) hx]
  congr 1
  omega
theorem unL_len {l : List Int} {s : Int} (h : mvOk l s 1001000002 = true) : (unL l s).length = l.length := by
  unfold unL mvL
  rw [h, if_pos rfl, mvA_length]
theorem kcn_all (m : Nat) (h : m ≤ 6) : kcn 255 m = m := by
  have : ∀ x : Fin 7, kcn 255 x.val = x.val := by decide +kernel
  exact this ⟨m, by omega⟩
theorem kcn_step (b k : Nat) (hb : b < 256) : ∃ q : Nat, q ≤ 1 ∧ bits .and .u8 ((b : Int) / 2 ^ (k % 8)) 1 = (q : Int) ∧ kcn b (k + 1) = kcn b k + q := by
  refine ⟨if bitB b k then 1 else 0, by split <;> omega, ?_, rfl⟩
  rw [bit_val b k hb]; split <;> rfl
theorem tb_elem (o : Int) : elemB (o % 2147483647) = true := elemB_mod o
end

end Go.Proofs.YtdlgejofggbifaaGreatDoor
