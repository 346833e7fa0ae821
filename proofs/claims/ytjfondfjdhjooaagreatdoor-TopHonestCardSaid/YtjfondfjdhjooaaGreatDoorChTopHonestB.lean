/- apportion.Share. lottery.valid; what Tickets returns. lottery.Tickets: the groups of requests, plain and in memory. lottery.Tickets. lottery.Tickets: the walk. lottery: Winner. lottery, plain: the tickets are 720 in all; each request wins as often as it has tickets. TopHonest: w11Wins, the rows. -/
import Derived.Test.YtjfondfjdhjooaaGreatDoorChTopHonestA
import Derived.Maps.GroupsBeside
import Derived.Maps.RangeWalk
import Derived.Maps.Ext
namespace Go.Proofs.YtjfondfjdhjooaaGreatDoor
set_option linter.unusedVariables false
set_option linter.unusedSimpArgs false

section
open Go.RowKit

/-- What Share says, and returns. -/
def shE (total : Int) (ws : List Int) : Int := if 1 ≤ ws.length ∧ ws.length ≤ 200 ∧ witB 0 1000000000 ws = true ∧ 0 ≤ total ∧ total ≤ 720 then (if imx ws = 0 ∧ 0 < total then 10 else 0) else 1
def shV (total : Int) (ws : List Int) : List Int := if shE total ws = 0 then shr total.toNat ws else []
theorem info_party : (Tryz.prog.info? 119).map (fun i => (i.zero, i.size, i.bytes)) = some (some (.agg #[.int .i64 0, .int .i64 0]), 2, 16) := by kernel_rfl
theorem info_intL : (Tryz.prog.info? 3).map (fun i => (i.zero, i.size, i.bytes)) = some (some (.int .i64 0), 1, 8) := by kernel_rfl
theorem bmpN_len (P : List (Int × Int)) (k : Nat) : (bmpN P k).length = P.length := by
  induction k with
  | zero => rfl
  | succ k ih => rw [bmpN, bmp, List.length_set, ih]
theorem shr_len (total : Nat) (ws : List Int) : (shr total ws).length = ws.length := by simp [shr, bmpN_len, ini]
set_option maxRecDepth 100000 in
set_option maxHeartbeats 16000000 in
theorem share_any (total : Int) (A : Option Addr) (c : Nat) (ws : List Int) (w : World) (hA : Ints w A ws) (hl : ws.length ≤ 9223372036854775807) :
    Calls Tryz.prog 39 #[.int .i64 total, .slice A ws.length c] w fun e w' => ∃ v, e = .returned (.tuple #[v, .int .i64 (shE total ws)]) ∧ w'.ownsRow w.heap.size 3 1 v (shV total ws).length ((shV total ws).map (Value.int .i64)) ∧ Below w.heap.size w w' := by
  have HA : Hid (∀ W, Below w.heap.size w W → Ints W A ws) := Lib.hid (fun W hW => hA.below hW)
  have hbadr : shE total ws = 1 → shV total ws = [] := fun h => by unfold shV; rw [if_neg (by rw [h]; decide)]
  have HBADR := Lib.hid hbadr
  by_cases hlen : 1 ≤ ws.length ∧ ws.length ≤ 200
  case neg =>
    have hE : shE total ws = 1 := by unfold shE; rw [if_neg (fun h => hlen ⟨h.1, h.2.1⟩)]
    rw [hE, HBADR.out hE]
    clear hE hA hbadr
    by_cases h1 : ws.length < 1
    case pos =>
      have h1i : (ws.length : Int) < 1 := by omega
      clear hlen
      go_enter Tryz.func39, Tryz.ntmps39
      go_wp2
      go_ret2
      exact ⟨_, rfl, World.ownsRow_nil _ _ _ _, Below.refl _ _⟩
    case neg =>
      have h1i : ¬ (ws.length : Int) < 1 := by omega
      have h2i : (200 : Int) < (ws.length : Int) := by omega
      clear hlen h1
      go_enter Tryz.func39, Tryz.ntmps39
      go_wp2
      go_ret2
      exact ⟨_, rfl, World.ownsRow_nil _ _ _ _, Below.refl _ _⟩
  case pos =>
  obtain ⟨hl1, hl2⟩ := hlen
  have h1i : ¬ (ws.length : Int) < 1 := by omega
  have h2i : ¬ (200 : Int) < (ws.length : Int) := by omega
  have HCF := Lib.hid (hasS_any A c ws w hA hl)
  rw [show (ws.all fun x => decide (0 ≤ x ∧ x ≤ 1000000000)) = witB 0 1000000000 ws from rfl] at HCF
  obtain ⟨bw, hbw⟩ : ∃ b, witB 0 1000000000 ws = b := ⟨_, rfl⟩
  rw [hbw] at HCF
  have HBW := Lib.hid hbw
  clear hA hbadr hbw
  cases bw
  case false =>
    have hE : shE total ws = 1 := by unfold shE; rw [if_neg (fun h => by rw [HBW.out] at h; exact absurd h.2.2.1 (by decide))]
    rw [hE, HBADR.out hE]
    clear hE
    go_enter Tryz.func39, Tryz.ntmps39
    go_wp2_with fail
    refine HCF.out.mono ?_
    rintro e w1 ⟨rfl, hb⟩
    have HB1 := Lib.hid hb
    clear hb
    go_wp2
    go_ret2
    exact ⟨_, rfl, World.ownsRow_nil _ _ _ _, HB1.out⟩
  case true =>
  by_cases ht : 0 ≤ total ∧ total ≤ 720
  case neg =>
    have hE : shE total ws = 1 := by unfold shE; rw [if_neg (fun h => ht ⟨h.2.2.2.1, h.2.2.2.2⟩)]
    rw [hE, HBADR.out hE]
    clear hE
    by_cases h3 : total < 0
    case pos =>
      clear ht
      go_enter Tryz.func39, Tryz.ntmps39
      go_wp2_with fail
      refine HCF.out.mono ?_
      rintro e w1 ⟨rfl, hb⟩
      have HB1 := Lib.hid hb
      clear hb
      go_wp2
      go_ret2
      exact ⟨_, rfl, World.ownsRow_nil _ _ _ _, HB1.out⟩
    case neg =>
      have h4 : 720 < total := by omega
      clear ht
      go_enter Tryz.func39, Tryz.ntmps39
      go_wp2_with fail
      refine HCF.out.mono ?_
      rintro e w1 ⟨rfl, hb⟩
      have HB1 := Lib.hid hb
      clear hb
      go_wp2
      go_ret2
      exact ⟨_, rfl, World.ownsRow_nil _ _ _ _, HB1.out⟩
  case pos =>
  obtain ⟨ht0, ht1⟩ := ht
  have h3 : ¬ total < 0 := by omega
  have h4 : ¬ 720 < total := by omega
  have HWS : Hid (∀ x, x ∈ ws → 0 ≤ x ∧ x ≤ 1000000000) := Lib.hid (fun x hx => of_decide_eq_true (List.all_eq_true.1 HBW.out x hx))
  have HMX : Hid (∀ W, Below w.heap.size w W → _) := Lib.hid (fun W hW => imax_any A c ws W (HA.out W hW) hl1 hl)
  by_cases hz : imx ws = 0 ∧ 0 < total
  case pos =>
    have hE : shE total ws = 10 := by unfold shE; rw [if_pos ⟨hl1, hl2, HBW.out, ht0, ht1⟩, if_pos hz]
    have hV : shV total ws = [] := by unfold shV; rw [if_neg (by rw [hE]; decide)]
    rw [hE, hV]
    obtain ⟨hz1, hz2⟩ := hz
    rw [hz1] at HMX
    clear hE hV hz1
    go_enter Tryz.func39, Tryz.ntmps39
    go_wp2_with fail
    refine HCF.out.mono ?_
    rintro e w1 ⟨rfl, hb⟩
    have HB1 := Lib.hid hb
    clear hb
    go_wp2_with fail
    refine (HMX.out w1 HB1.out).mono ?_
    rintro e w2 ⟨rfl, hb⟩
    have HB2 := Lib.hid (below_trans HB1.out hb)
    clear hb
    go_wp2
    go_ret2
    exact ⟨_, rfl, World.ownsRow_nil _ _ _ _, HB2.out⟩
  case neg =>
  have hE : shE total ws = 0 := by unfold shE; rw [if_pos ⟨hl1, hl2, HBW.out, ht0, ht1⟩, if_neg hz]
  obtain ⟨T, rfl⟩ : ∃ T : Nat, total = (T : Int) := ⟨total.toNat, by omega⟩
  have hV : shV (T : Int) ws = shr T ws := by unfold shV; rw [if_pos hE, Int.toNat_natCast]
  rw [hE, hV]
  have HBI : Hid (∀ k, BInv ws k (bmpN (ini ws) k)) := Lib.hid (fun k => BInv.all ws (fun x hx => (HWS.out x hx).1) (by omega) k)
  have HSE : Hid (shr T ws = (bmpN (ini ws) T).map (·.2)) := Lib.hid rfl
  have HI0 : Hid (iniK ws 0 = List.replicate ws.length (0, 0)) := Lib.hid (iniK_0 ws)
  have HIN : Hid (iniK ws ws.length = ini ws) := Lib.hid (iniK_n ws)
  have HIL : Hid (∀ k, (iniK ws k).length = ws.length) := Lib.hid (iniK_len ws)
  have HIS : Hid (∀ (k : Nat) (x : Int), ws[k]? = some x → (flat2 (iniK ws k)).set (k * 2) (.int .i64 x) = flat2 (iniK ws (k + 1))) := Lib.hid (fun k x h => by
    rw [flat2_set1 _ k (0, 0) (iniK_at ws k (List.getElem?_eq_some_iff.1 h).1) x]
    rw [show ((x, ((0 : Int), (0 : Int)).2) : Int × Int) = (x, 0) from rfl, iniK_set ws k x h])
  obtain ⟨i1, hi1, hy0, hy1, hy2⟩ := info_parts info_party
  have HIP := Lib.hid (And.intro hi1 (And.intro hy0 (And.intro hy1 hy2)))
  obtain ⟨i2, hi2, hx0, hx1, hx2⟩ := info_parts info_intL
  have HII := Lib.hid (And.intro hi2 (And.intro hx0 (And.intro hx1 hx2)))
  have hz2 : imx ws = 0 → ¬ 0 < (T : Int) := fun h1 h2 => hz ⟨h1, h2⟩
  obtain ⟨mx, hmx⟩ : ∃ m, imx ws = m := ⟨_, rfl⟩
  rw [hmx] at HMX hz2
  clear hE hV hi1 hy0 hy1 hy2 hi2 hx0 hx1 hx2 hz hmx
  go_enter Tryz.func39, Tryz.ntmps39
  go_wp2_with fail
  refine HCF.out.mono ?_
  rintro e w1 ⟨rfl, hb⟩
  have HB1 := Lib.hid hb
  clear hb
  go_wp2_with fail
  refine (HMX.out w1 HB1.out).mono ?_
  rintro e w2 ⟨rfl, hb⟩
  have HB2 := Lib.hid (below_trans HB1.out hb)
  clear hb
  have hge : ∃ b : Bool, (mx == 0) = b := ⟨_, rfl⟩
  obtain ⟨bm, hbm⟩ := hge
  have hT0 : bm = true → decide (0 < (T : Int)) = false := fun h => by
    rw [h] at hbm
    exact decide_eq_false (by have := hz2 (by simpa using hbm); omega)
  cases bm
  case false =>
    go_wp2_with (at_make; refine wpList_make_full _ rfl (.tmp 44) (.tmp 44) 117 rfl w.heap.size 119 i1 _ 2 Tryz.underlying117 HIP.out.1 HIP.out.2.1 HIP.out.2.2.1 _ _ _ _ ws.length rfl rfl rfl rfl (by rw [HIP.out.2.2.2]; omega) (by simp only [maxLen]; omega) HB2.out.size ?_)
    intro w3 hown hg
    rw [made2, ← HI0.out] at hown
    have HO3 := Lib.hid hown
    have HB3 : Hid (Below w.heap.size w w3) := Lib.hid (HB2.out.grown hg HB2.out.size (fun j hj => (by cases hj)))
    obtain ⟨g, hg'⟩ : ∃ g, w2.heap.size = g := ⟨_, rfl⟩
    rw [hg'] at HO3
    clear hown hg
    go_wp2_with fail
    rw [hg']
    clear hg'
    go_loopw [8, 9, 48] (fun _ _ u48 wr => ∃ k : Nat, k ≤ ws.length ∧ u48 = .int .i64 k ∧ Below w.heap.size w wr ∧ wr.ownsRow w.heap.size 119 2 (.slice (some ⟨g, 0, none⟩) ws.length ws.length) ws.length (flat2 (iniK ws k))) (fun _ _ u48 _ => ws.length - (intOf u48).toNat)
    case atStart => exact ⟨0, Nat.zero_le _, rfl, HB3.out, HO3.out⟩
    case round =>
    obtain ⟨k, hk, rfl, hb, ho⟩ := hrel
    have HBk := Lib.hid hb
    have HOk := Lib.hid ho
    clear hb ho
    by_cases hlt : k < ws.length
    case pos =>
      have hki : (k : Int) < (ws.length : Int) := by omega
      obtain ⟨x, hx⟩ := get_some ws k hlt
      obtain ⟨bA, oA, rfl, c0⟩ := (HA.out wr HBk.out).at_ hx
      have cl := lt_of_cell c0
      obtain ⟨hgb, cs, hcs⟩ := own_blk HOk.out
      obtain ⟨f1, f2⟩ := flat2_at (iniK ws k) k (0, 0) (iniK_at ws k hlt)
      have f0 : wr.cell? ⟨g, k * 2, none⟩ = some (.int .i64 0) := by
        obtain ⟨A', c', he, -, -, hr⟩ := Rd.of_own HOk.out
        cases he
        obtain ⟨b', off', he, hc⟩ := hr.2 (by omega)
        cases he
        have := hc _ _ f1
        rw [Nat.zero_add] at this
        exact this
      have fz := hcs.frozen (k * 2)
      have fl := hcs.lt
      have hset := own_set HOk.out (k * 2) (.int .i64 x)
      rw [HIS.out k x hx] at hset
      have hbe := HBk.out.setCell (p := ⟨g, k * 2, none⟩) hgb (.int .i64 x)
      have HON := Lib.hid hset
      have HBN := Lib.hid hbe
      clear hset hbe f1 f2 hcs hx hgb
      go_wp2
      go_roundw
      case rel => exact ⟨k + 1, by omega, by go_num, HBN.out, HON.out⟩
      case measure => first | (simp [intOf]; done) | (simp [intOf]; omega)
    case neg =>
    obtain rfl : k = ws.length := by omega
    have ho := HOk.out
    rw [HIN.out] at ho
    have HP0 : Hid (wr.ownsRow w.heap.size 119 2 (.slice (some ⟨g, 0, none⟩) ws.length ws.length) ws.length (flat2 (bmpN (ini ws) 0))) := Lib.hid ho
    clear ho
    obtain ⟨wv, hwv⟩ : ∃ W, W = wr := ⟨wr, rfl⟩
    subst hwv
    go_wp2_with fail
    go_loopw [60] (fun u60 wr => ∃ k : Nat, k ≤ T ∧ u60 = .int .i64 k ∧ Below w.heap.size w wr ∧ wr.ownsRow w.heap.size 119 2 (.slice (some ⟨g, 0, none⟩) ws.length ws.length) ws.length (flat2 (bmpN (ini ws) k))) (fun u60 _ => T - (intOf u60).toNat)
    case atStart => exact ⟨0, Nat.zero_le _, rfl, HBk.out, HP0.out⟩
    case round =>
    obtain ⟨k, hk, rfl, hb, ho⟩ := hrel
    have HBq := Lib.hid hb
    have HOq := Lib.hid ho
    clear hb ho
    have HINV := Lib.hid (HBI.out k)
    have hPl := HINV.out.len
    have HBS : Hid (bmpN (ini ws) (k + 1) = bmp (bmpN (ini ws) k)) := Lib.hid rfl
    by_cases hlt : k < T
    case pos =>
      have hki : (k : Int) < (T : Int) := by omega
      obtain ⟨P, hP⟩ : ∃ P, bmpN (ini ws) k = P := ⟨_, rfl⟩
      rw [hP] at HOq HINV HBS hPl
      clear hP
      have hok := HINV.out.ok HWS.out (by omega)
      have hb := bst_lt (P := P) (by omega)
      have HPR : Hid (Prs wr (some ⟨g, 0, none⟩) P) := Lib.hid (by
        obtain ⟨A', c', he, -, -, hr⟩ := Rd.of_own HOq.out
        cases he
        unfold Prs
        rw [hPl]
        exact hr)
      have HBST := Lib.hid (best_any g ws.length P wr HPR.out (by omega) (by omega) hok)
      obtain ⟨p, hp⟩ := get_some P (bst P) hb
      have HBE : Hid (bmp P = P.set (bst P) (p.1, p.2 + 1)) := Lib.hid (by unfold bmp; rw [hp]; rfl)
      have HSET : Hid ((flat2 P).set (bst P * 2 + 1) (.int .i64 (p.2 + 1)) = flat2 (P.set (bst P) (p.1, p.2 + 1))) := Lib.hid (flat2_set2 P (bst P) p hp (p.2 + 1))
      obtain ⟨pk0, pk1, pk2, pk3⟩ := hok p (List.mem_of_getElem? hp)
      have HF := Lib.hid (flat2_at P (bst P) p hp).2
      obtain ⟨bi, hbi⟩ : ∃ b, bst P = b := ⟨_, rfl⟩
      rw [hbi] at HBST HBE HSET HF hb
      have hbii : (bi : Int) < (ws.length : Int) := by omega
      rw [hPl] at HBST
      clear hok hp hbi
      go_wp2_with fail
      refine HBST.out.mono ?_
      rintro e w5 ⟨rfl, hb5⟩
      have HB5 := Lib.hid (below_trans HBq.out hb5)
      have HO5 := Lib.hid (row_below HOq.out hb5)
      obtain ⟨hgb, cs, hcs⟩ := own_blk HO5.out
      have f0 : w5.cell? ⟨g, bi * 2 + 1, none⟩ = some (.int .i64 p.2) := by
        obtain ⟨A', c', he, -, -, hr⟩ := Rd.of_own HO5.out
        cases he
        obtain ⟨b', off', he, hc⟩ := hr.2 (by omega)
        cases he
        have := hc _ _ HF.out
        rw [Nat.zero_add] at this
        exact this
      have fz := hcs.frozen (bi * 2 + 1)
      have fl := hcs.lt
      have hset := own_set HO5.out (bi * 2 + 1) (.int .i64 (p.2 + 1))
      rw [HSET.out, ← HBE.out, ← HBS.out] at hset
      have hbe := HB5.out.setCell (p := ⟨g, bi * 2 + 1, none⟩) hgb (.int .i64 (p.2 + 1))
      have HON := Lib.hid hset
      have HBN := Lib.hid hbe
      clear hset hbe hcs hgb hb5
      go_wp2
      go_roundw
      case rel => exact ⟨k + 1, by omega, by go_num, HBN.out, HON.out⟩
      case measure => first | (simp [intOf]; done) | (simp [intOf]; omega)
    case neg =>
    obtain rfl : k = T := by omega
    obtain ⟨P, hP⟩ : ∃ P, bmpN (ini ws) k = P := ⟨_, rfl⟩
    rw [hP] at HOq HINV HSE hPl
    have HPL := Lib.hid hPl
    have HO0 : Hid (outK P 0 = List.replicate ws.length 0) := Lib.hid (by rw [outK_0, hPl])
    have HON : Hid (outK P ws.length = P.map (·.2)) := Lib.hid (by rw [← hPl]; exact outK_n P)
    have HOS : Hid (∀ (j : Nat) (p : Int × Int), P[j]? = some p → ((outK P j).map (Value.int .i64)).set j (.int .i64 p.2) = (outK P (j + 1)).map (Value.int .i64)) := Lib.hid (fun j p h => by rw [← outK_set P j p h, List.map_set])
    have HOL : Hid (∀ j, (outK P j).length = ws.length) := Lib.hid (fun j => by rw [outK_len, hPl])
    clear hP hPl HBS
    obtain ⟨wt, hwt⟩ : ∃ W, W = wr := ⟨wr, rfl⟩
    subst hwt
    go_wp2_with (at_make; refine wpList_make_full _ rfl (.tmp 73) (.tmp 73) 23 rfl w.heap.size 3 i2 _ 1 Tryz.underlying23 HII.out.1 HII.out.2.1 HII.out.2.2.1 _ _ _ _ ws.length rfl rfl rfl rfl (by rw [HII.out.2.2.2]; omega) (by simp only [maxLen]; omega) HBq.out.size ?_)
    intro w7 hown hg
    rw [made1, ← HO0.out] at hown
    have HO7 := Lib.hid hown
    have HB7 : Hid (Below w.heap.size w w7) := Lib.hid (HBq.out.grown hg HBq.out.size (fun j hj => (by cases hj)))
    have HP7 := Lib.hid (row_below HOq.out ((Below.refl wt.heap.size wt).grown hg (Nat.le_refl _) (fun j hj => (by cases hj))))
    obtain ⟨h, hh⟩ : ∃ g, wt.heap.size = g := ⟨_, rfl⟩
    rw [hh] at HO7
    clear hown hg
    go_wp2_with fail
    rw [hh]
    clear hh
    go_loopw [11, 12, 77] (fun _ _ u77 wr => ∃ k : Nat, k ≤ ws.length ∧ u77 = .int .i64 k ∧ Below w.heap.size w wr ∧ wr.ownsRow w.heap.size 119 2 (.slice (some ⟨g, 0, none⟩) ws.length ws.length) ws.length (flat2 P) ∧ wr.ownsRow w.heap.size 3 1 (.slice (some ⟨h, 0, none⟩) ws.length ws.length) ws.length ((outK P k).map (Value.int .i64))) (fun _ _ u77 _ => ws.length - (intOf u77).toNat)
    case atStart => exact ⟨0, Nat.zero_le _, rfl, HB7.out, HP7.out, HO7.out⟩
    case round =>
    obtain ⟨j, hj, rfl, hb, ho, hq⟩ := hrel
    have HBj := Lib.hid hb
    have HOj := Lib.hid ho
    have HQj := Lib.hid hq
    clear hb ho hq
    by_cases hjl : j < ws.length
    case neg =>
      obtain rfl : j = ws.length := by omega
      have hq := HQj.out
      rw [HON.out] at hq
      have HQ := Lib.hid hq
      clear hq
      go_wp2
      go_ret2
      rw [HSE.out, List.length_map, HPL.out]
      exact ⟨_, rfl, HQ.out, HBj.out⟩
    case pos =>
    have hji : (j : Int) < (ws.length : Int) := by omega
    obtain ⟨p, hp⟩ := get_some P j (by rw [HPL.out]; exact hjl)
    obtain ⟨f1, f2⟩ := flat2_at P j p hp
    obtain ⟨hgb, cs, hcs⟩ := own_blk HOj.out
    obtain ⟨hhb, ds, hds⟩ := own_blk HQj.out
    have g0 : wr.cell? ⟨g, j * 2, none⟩ = some (.int .i64 p.1) ∧ wr.cell? ⟨g, j * 2 + 1, none⟩ = some (.int .i64 p.2) := by
      obtain ⟨A', c', he, -, -, hr⟩ := Rd.of_own HOj.out
      cases he
      obtain ⟨b', off', he, hc⟩ := hr.2 (by omega)
      cases he
      have h1 := hc _ _ f1
      have h2 := hc _ _ f2
      rw [Nat.zero_add] at h1 h2
      exact ⟨h1, h2⟩
    obtain ⟨g0, g1⟩ := g0
    have gl := lt_of_cell g0
    obtain ⟨w8, hw8⟩ : ∃ w8, wr.alloc (.cells #[.int .i64 p.1, .int .i64 p.2] 119) = w8 := ⟨_, rfl⟩
    have hB8 : Below wr.heap.size wr w8 := by rw [← hw8]; exact below_alloc (Below.refl _ _) _
    have HX8 : Hid (Blk w8 wr.heap.size 119 #[.int .i64 p.1, .int .i64 p.2]) := Lib.hid (by rw [← hw8]; exact Blk.new wr _ _ _ rfl)
    have HB8 : Hid (Below w.heap.size w w8) := Lib.hid (by rw [← hw8]; exact below_alloc HBj.out _)
    have HO8 := Lib.hid (row_below HOj.out hB8)
    have HQ8 := Lib.hid (row_below HQj.out hB8)
    have hhe : h < wr.heap.size := hds.lt
    have HHE := Lib.hid hhe
    have HW8 := Lib.hid hw8
    clear hB8 hcs hds hw8 hgb hhe f1 f2
    have x0 := HX8.out.of_cell (i := 0) rfl
    have x1 := HX8.out.of_cell (i := 1) rfl
    have xl := HX8.out.lt
    obtain ⟨-, ds, hds⟩ := own_blk HQ8.out
    obtain ⟨q, hq⟩ := get_some (outK P j) j (by rw [HOL.out]; exact hjl)
    have f0 : w8.cell? ⟨h, j, none⟩ = some (.int .i64 q) := by
      obtain ⟨A', c', he, -, -, hr⟩ := Rd.of_own HQ8.out
      cases he
      obtain ⟨b', off', he, hc⟩ := hr.2 (by omega)
      cases he
      have := hc j (.int .i64 q) (by rw [List.getElem?_map, hq]; rfl)
      rw [Nat.zero_add] at this
      exact this
    have fz := hds.frozen j
    have fl := hds.lt
    have hset := own_set HQ8.out j (.int .i64 p.2)
    rw [HOS.out j p hp] at hset
    have hfar := own_far HO8.out HQ8.out (by decide) j (.int .i64 p.2)
    have hbe := HB8.out.setCell (p := ⟨h, j, none⟩) hhb (.int .i64 p.2)
    have HQN := Lib.hid hset
    have HON2 := Lib.hid hfar
    have HBN := Lib.hid hbe
    clear hset hfar hbe hds hq hp
    repeat (first | (rw [HW8.out]; clear g0 g1 gl) | go_values | go_skip | go_guarded | go_step | go_upon)
    go_wp2
    go_roundw
    case rel => exact ⟨j + 1, by omega, by go_num, HBN.out, HON2.out, HQN.out⟩
    case measure => first | (simp [intOf]; done) | (simp [intOf]; omega)
  case true =>
    have hT1 := hT0 rfl
    have hT2 : ¬ 0 < (T : Int) := of_decide_eq_false hT1
    clear hT0
    go_wp2_with (at_make; refine wpList_make_full _ rfl (.tmp 44) (.tmp 44) 117 rfl w.heap.size 119 i1 _ 2 Tryz.underlying117 HIP.out.1 HIP.out.2.1 HIP.out.2.2.1 _ _ _ _ ws.length rfl rfl rfl rfl (by rw [HIP.out.2.2.2]; omega) (by simp only [maxLen]; omega) HB2.out.size ?_)
    intro w3 hown hg
    rw [made2, ← HI0.out] at hown
    have HO3 := Lib.hid hown
    have HB3 : Hid (Below w.heap.size w w3) := Lib.hid (HB2.out.grown hg HB2.out.size (fun j hj => (by cases hj)))
    obtain ⟨g, hg'⟩ : ∃ g, w2.heap.size = g := ⟨_, rfl⟩
    rw [hg'] at HO3
    clear hown hg
    go_wp2_with fail
    rw [hg']
    clear hg'
    go_loopw [8, 9, 48] (fun _ _ u48 wr => ∃ k : Nat, k ≤ ws.length ∧ u48 = .int .i64 k ∧ Below w.heap.size w wr ∧ wr.ownsRow w.heap.size 119 2 (.slice (some ⟨g, 0, none⟩) ws.length ws.length) ws.length (flat2 (iniK ws k))) (fun _ _ u48 _ => ws.length - (intOf u48).toNat)
    case atStart => exact ⟨0, Nat.zero_le _, rfl, HB3.out, HO3.out⟩
    case round =>
    obtain ⟨k, hk, rfl, hb, ho⟩ := hrel
    have HBk := Lib.hid hb
    have HOk := Lib.hid ho
    clear hb ho
    by_cases hlt : k < ws.length
    case pos =>
      have hki : (k : Int) < (ws.length : Int) := by omega
      obtain ⟨x, hx⟩ := get_some ws k hlt
      obtain ⟨bA, oA, rfl, c0⟩ := (HA.out wr HBk.out).at_ hx
      have cl := lt_of_cell c0
      obtain ⟨hgb, cs, hcs⟩ := own_blk HOk.out
      obtain ⟨f1, f2⟩ := flat2_at (iniK ws k) k (0, 0) (iniK_at ws k hlt)
      have f0 : wr.cell? ⟨g, k * 2, none⟩ = some (.int .i64 0) := by
        obtain ⟨A', c', he, -, -, hr⟩ := Rd.of_own HOk.out
        cases he
        obtain ⟨b', off', he, hc⟩ := hr.2 (by omega)
        cases he
        have := hc _ _ f1
        rw [Nat.zero_add] at this
        exact this
      have fz := hcs.frozen (k * 2)
      have fl := hcs.lt
      have hset := own_set HOk.out (k * 2) (.int .i64 x)
      rw [HIS.out k x hx] at hset
      have hbe := HBk.out.setCell (p := ⟨g, k * 2, none⟩) hgb (.int .i64 x)
      have HON := Lib.hid hset
      have HBN := Lib.hid hbe
      clear hset hbe f1 f2 hcs hx hgb
      go_wp2
      go_roundw
      case rel => exact ⟨k + 1, by omega, by go_num, HBN.out, HON.out⟩
      case measure => first | (simp [intOf]; done) | (simp [intOf]; omega)
    case neg =>
    obtain rfl : k = ws.length := by omega
    have ho := HOk.out
    rw [HIN.out] at ho
    have HP0 : Hid (wr.ownsRow w.heap.size 119 2 (.slice (some ⟨g, 0, none⟩) ws.length ws.length) ws.length (flat2 (bmpN (ini ws) 0))) := Lib.hid ho
    clear ho
    obtain ⟨wv, hwv⟩ : ∃ W, W = wr := ⟨wr, rfl⟩
    subst hwv
    go_wp2_with fail
    go_loopw [60] (fun u60 wr => ∃ k : Nat, k ≤ T ∧ u60 = .int .i64 k ∧ Below w.heap.size w wr ∧ wr.ownsRow w.heap.size 119 2 (.slice (some ⟨g, 0, none⟩) ws.length ws.length) ws.length (flat2 (bmpN (ini ws) k))) (fun u60 _ => T - (intOf u60).toNat)
    case atStart => exact ⟨0, Nat.zero_le _, rfl, HBk.out, HP0.out⟩
    case round =>
    obtain ⟨k, hk, rfl, hb, ho⟩ := hrel
    have HBq := Lib.hid hb
    have HOq := Lib.hid ho
    clear hb ho
    have HINV := Lib.hid (HBI.out k)
    have hPl := HINV.out.len
    have HBS : Hid (bmpN (ini ws) (k + 1) = bmp (bmpN (ini ws) k)) := Lib.hid rfl
    by_cases hlt : k < T
    case pos =>
      exact absurd hlt (by omega)
    case neg =>
    obtain rfl : k = T := by omega
    obtain ⟨P, hP⟩ : ∃ P, bmpN (ini ws) k = P := ⟨_, rfl⟩
    rw [hP] at HOq HINV HSE hPl
    have HPL := Lib.hid hPl
    have HO0 : Hid (outK P 0 = List.replicate ws.length 0) := Lib.hid (by rw [outK_0, hPl])
    have HON : Hid (outK P ws.length = P.map (·.2)) := Lib.hid (by rw [← hPl]; exact outK_n P)
    have HOS : Hid (∀ (j : Nat) (p : Int × Int), P[j]? = some p → ((outK P j).map (Value.int .i64)).set j (.int .i64 p.2) = (outK P (j + 1)).map (Value.int .i64)) := Lib.hid (fun j p h => by rw [← outK_set P j p h, List.map_set])
    have HOL : Hid (∀ j, (outK P j).length = ws.length) := Lib.hid (fun j => by rw [outK_len, hPl])
    clear hP hPl HBS
    obtain ⟨wt, hwt⟩ : ∃ W, W = wr := ⟨wr, rfl⟩
    subst hwt
    go_wp2_with (at_make; refine wpList_make_full _ rfl (.tmp 73) (.tmp 73) 23 rfl w.heap.size 3 i2 _ 1 Tryz.underlying23 HII.out.1 HII.out.2.1 HII.out.2.2.1 _ _ _ _ ws.length rfl rfl rfl rfl (by rw [HII.out.2.2.2]; omega) (by simp only [maxLen]; omega) HBq.out.size ?_)
    intro w7 hown hg
    rw [made1, ← HO0.out] at hown
    have HO7 := Lib.hid hown
    have HB7 : Hid (Below w.heap.size w w7) := Lib.hid (HBq.out.grown hg HBq.out.size (fun j hj => (by cases hj)))
    have HP7 := Lib.hid (row_below HOq.out ((Below.refl wt.heap.size wt).grown hg (Nat.le_refl _) (fun j hj => (by cases hj))))
    obtain ⟨h, hh⟩ : ∃ g, wt.heap.size = g := ⟨_, rfl⟩
    rw [hh] at HO7
    clear hown hg
    go_wp2_with fail
    rw [hh]
    clear hh
    go_loopw [11, 12, 77] (fun _ _ u77 wr => ∃ k : Nat, k ≤ ws.length ∧ u77 = .int .i64 k ∧ Below w.heap.size w wr ∧ wr.ownsRow w.heap.size 119 2 (.slice (some ⟨g, 0, none⟩) ws.length ws.length) ws.length (flat2 P) ∧ wr.ownsRow w.heap.size 3 1 (.slice (some ⟨h, 0, none⟩) ws.length ws.length) ws.length ((outK P k).map (Value.int .i64))) (fun _ _ u77 _ => ws.length - (intOf u77).toNat)
    case atStart => exact ⟨0, Nat.zero_le _, rfl, HB7.out, HP7.out, HO7.out⟩
    case round =>
    obtain ⟨j, hj, rfl, hb, ho, hq⟩ := hrel
    have HBj := Lib.hid hb
    have HOj := Lib.hid ho
    have HQj := Lib.hid hq
    clear hb ho hq
    by_cases hjl : j < ws.length
    case neg =>
      obtain rfl : j = ws.length := by omega
      have hq := HQj.out
      rw [HON.out] at hq
      have HQ := Lib.hid hq
      clear hq
      go_wp2
      go_ret2
      rw [HSE.out, List.length_map, HPL.out]
      exact ⟨_, rfl, HQ.out, HBj.out⟩
    case pos =>
    have hji : (j : Int) < (ws.length : Int) := by omega
    obtain ⟨p, hp⟩ := get_some P j (by rw [HPL.out]; exact hjl)
    obtain ⟨f1, f2⟩ := flat2_at P j p hp
    obtain ⟨hgb, cs, hcs⟩ := own_blk HOj.out
    obtain ⟨hhb, ds, hds⟩ := own_blk HQj.out
    have g0 : wr.cell? ⟨g, j * 2, none⟩ = some (.int .i64 p.1) ∧ wr.cell? ⟨g, j * 2 + 1, none⟩ = some (.int .i64 p.2) := by
      obtain ⟨A', c', he, -, -, hr⟩ := Rd.of_own HOj.out
      cases he
      obtain ⟨b', off', he, hc⟩ := hr.2 (by omega)
      cases he
      have h1 := hc _ _ f1
      have h2 := hc _ _ f2
      rw [Nat.zero_add] at h1 h2
      exact ⟨h1, h2⟩
    obtain ⟨g0, g1⟩ := g0
    have gl := lt_of_cell g0
    obtain ⟨w8, hw8⟩ : ∃ w8, wr.alloc (.cells #[.int .i64 p.1, .int .i64 p.2] 119) = w8 := ⟨_, rfl⟩
    have hB8 : Below wr.heap.size wr w8 := by rw [← hw8]; exact below_alloc (Below.refl _ _) _
    have HX8 : Hid (Blk w8 wr.heap.size 119 #[.int .i64 p.1, .int .i64 p.2]) := Lib.hid (by rw [← hw8]; exact Blk.new wr _ _ _ rfl)
    have HB8 : Hid (Below w.heap.size w w8) := Lib.hid (by rw [← hw8]; exact below_alloc HBj.out _)
    have HO8 := Lib.hid (row_below HOj.out hB8)
    have HQ8 := Lib.hid (row_below HQj.out hB8)
    have hhe : h < wr.heap.size := hds.lt
    have HHE := Lib.hid hhe
    have HW8 := Lib.hid hw8
    clear hB8 hcs hds hw8 hgb hhe f1 f2
    have x0 := HX8.out.of_cell (i := 0) rfl
    have x1 := HX8.out.of_cell (i := 1) rfl
    have xl := HX8.out.lt
    obtain ⟨-, ds, hds⟩ := own_blk HQ8.out
    obtain ⟨q, hq⟩ := get_some (outK P j) j (by rw [HOL.out]; exact hjl)
    have f0 : w8.cell? ⟨h, j, none⟩ = some (.int .i64 q) := by
      obtain ⟨A', c', he, -, -, hr⟩ := Rd.of_own HQ8.out
      cases he
      obtain ⟨b', off', he, hc⟩ := hr.2 (by omega)
      cases he
      have := hc j (.int .i64 q) (by rw [List.getElem?_map, hq]; rfl)
      rw [Nat.zero_add] at this
      exact this
    have fz := hds.frozen j
    have fl := hds.lt
    have hset := own_set HQ8.out j (.int .i64 p.2)
    rw [HOS.out j p hp] at hset
    have hfar := own_far HO8.out HQ8.out (by decide) j (.int .i64 p.2)
    have hbe := HB8.out.setCell (p := ⟨h, j, none⟩) hhb (.int .i64 p.2)
    have HQN := Lib.hid hset
    have HON2 := Lib.hid hfar
    have HBN := Lib.hid hbe
    clear hset hfar hbe hds hq hp
    repeat (first | (rw [HW8.out]; clear g0 g1 gl) | go_values | go_skip | go_guarded | go_step | go_upon)
    go_wp2
    go_roundw
    case rel => exact ⟨j + 1, by omega, by go_num, HBN.out, HON2.out, HQN.out⟩
    case measure => first | (simp [intOf]; done) | (simp [intOf]; omega)
end

section
open Go.RowKit

def lvalB (sh ow me : List Int) : Bool := decide (1 ≤ sh.length ∧ sh.length ≤ 16 ∧ ow.length ≤ 200 ∧ ow.length = me.length) && witB 1 1000 sh && witB 0 ((sh.length : Int) - 1) ow && witB 1 10000 me
set_option maxHeartbeats 8000000 in
theorem lvalid_any (A B C : Option Addr) (ca cb cc : Nat) (sh ow me : List Int) (w : World) (hA : Ints w A sh) (hB : Ints w B ow) (hC : Ints w C me) (h1 : sh.length ≤ 9223372036854775807) (h2 : ow.length ≤ 9223372036854775807) (h3 : me.length ≤ 9223372036854775807) :
    Calls Tryz.prog 38 #[.slice A sh.length ca, .slice B ow.length cb, .slice C me.length cc] w fun e w' => e = .returned (.bool (lvalB sh ow me)) ∧ Below w.heap.size w w' := by
  have HO := Lib.hid (lwithin_one 1 16 sh.length w)
  have HS : Hid (∀ W, Below w.heap.size w W → _) := Lib.hid (fun W hW => lwithin_any 1 1000 A ca sh W (hA.below hW) h1)
  have HW : Hid (∀ W, Below w.heap.size w W → _) := Lib.hid (fun W hW => lwithin_any 0 ((sh.length : Int) - 1) B cb ow W (hB.below hW) h2)
  have HM : Hid (∀ W, Below w.heap.size w W → _) := Lib.hid (fun W hW => lwithin_any 1 10000 C cc me W (hC.below hW) h3)
  obtain ⟨r, hr⟩ : ∃ r, lvalB sh ow me = r := ⟨_, rfl⟩
  obtain ⟨b1, hb1⟩ : ∃ b, decide ((1 : Int) ≤ (sh.length : Int) ∧ (sh.length : Int) ≤ 16) = b := ⟨_, rfl⟩
  obtain ⟨b2, hb2⟩ : ∃ b, witB 1 1000 sh = b := ⟨_, rfl⟩
  obtain ⟨b3, hb3⟩ : ∃ b, witB 0 ((sh.length : Int) - 1) ow = b := ⟨_, rfl⟩
  obtain ⟨b4, hb4⟩ : ∃ b, witB 1 10000 me = b := ⟨_, rfl⟩
  rw [hb1] at HO
  rw [hb2] at HS
  rw [hb3] at HW
  rw [hb4] at HM
  have HR1 : Hid (b1 = false → r = false) := Lib.hid (fun h => by
    rw [h] at hb1
    have := of_decide_eq_false hb1
    rw [← hr]; unfold lvalB; rw [decide_eq_false (by omega)]; rfl)
  have HR5 : Hid (¬ (ow.length ≤ 200 ∧ ow.length = me.length) → r = false) := Lib.hid (fun h => by
    rw [← hr]; unfold lvalB; rw [decide_eq_false (by omega)]; rfl)
  have HR : Hid (b1 = true → (ow.length ≤ 200 ∧ ow.length = me.length) → r = (b2 && b3 && b4)) := Lib.hid (fun h h' => by
    rw [h] at hb1
    have := of_decide_eq_true hb1
    rw [← hr]; unfold lvalB; rw [decide_eq_true (by omega), hb2, hb3, hb4]; simp [Bool.and_assoc])
  rw [hr]
  clear hA hB hC hr hb1 hb2 hb3 hb4
  go_enter Tryz.func38, Tryz.ntmps38
  go_wp2_with fail
  refine HO.out.mono ?_
  rintro e w1 ⟨rfl, hb⟩
  have HB1 := Lib.hid hb
  clear hb
  cases b1
  case false =>
    have hrf := HR1.out rfl
    subst hrf
    go_wp2
    go_ret
    exact ⟨rfl, HB1.out⟩
  case true =>
  by_cases h20 : ow.length ≤ 200
  case neg =>
    have hrf := HR5.out (fun h => h20 h.1)
    subst hrf
    have h20i : (200 : Int) < (ow.length : Int) := by omega
    go_wp2
    go_ret
    exact ⟨rfl, HB1.out⟩
  case pos =>
  have h20i : ¬ (200 : Int) < (ow.length : Int) := by omega
  by_cases heq : ow.length = me.length
  case neg =>
    have hrf := HR5.out (fun h => heq h.2)
    subst hrf
    have he1 : ((ow.length : Int) == (me.length : Int)) = false := by simp; omega
    have he2 : ((ow.length : Int) != (me.length : Int)) = true := by simp; omega
    clear heq
    go_wp2
    go_ret
    exact ⟨rfl, HB1.out⟩
  case pos =>
  have he1 : ((ow.length : Int) == (me.length : Int)) = true := by simp; omega
  have he2 : ((ow.length : Int) != (me.length : Int)) = false := by simp; omega
  have hrr := HR.out (by trivial) ⟨h20, heq⟩
  have HRR := Lib.hid hrr
  clear hrr heq
  go_wp2_with fail
  refine (HS.out w1 HB1.out).mono ?_
  rintro e w2 ⟨rfl, hb⟩
  have HB2 := Lib.hid (below_trans HB1.out hb)
  clear hb
  cases b2
  case false =>
    go_wp2
    go_ret
    exact ⟨by rw [HRR.out]; rfl, HB2.out⟩
  case true =>
  have hsl : (-9223372036854775808 : Int) ≤ (sh.length : Int) - 1 ∧ (sh.length : Int) - 1 ≤ 9223372036854775807 := by omega
  go_wp2_with fail
  refine (HW.out w2 HB2.out).mono ?_
  rintro e w3 ⟨rfl, hb⟩
  have HB3 := Lib.hid (below_trans HB2.out hb)
  clear hb
  cases b3
  case false =>
    go_wp2
    go_ret
    exact ⟨by rw [HRR.out]; rfl, HB3.out⟩
  case true =>
  go_wp2_with fail
  refine (HM.out w3 HB3.out).mono ?_
  rintro e w4 ⟨rfl, hb⟩
  have HB4 := Lib.hid (below_trans HB3.out hb)
  clear hb
  cases b4
  all_goals go_wp2
  all_goals go_ret
  all_goals exact ⟨by rw [HRR.out]; rfl, HB4.out⟩

/-! ### the tickets, plain -/
/-- The indices, below j, of the requests of a partner. -/
def ids (ow : List Int) (p : Int) : Nat → List Nat
  | 0 => []
  | j + 1 => if ow[j]? = some p then ids ow p j ++ [j] else ids ow p j
/-- The weights after j requests. -/
def wgt (sh ow : List Int) (j : Nat) : List Int := (List.range sh.length).map fun (p : Nat) => if ids ow (p : Int) j = [] then 0 else sh[p]?.getD 0
def tots (sh ow : List Int) : List Int := shr 720 (wgt sh ow ow.length)
def mers (ow me : List Int) (p : Int) : List Int := (ids ow p ow.length).map fun i => me[i]?.getD 0
/-- The tickets of the requests of a partner, in their order. -/
def seatsOf (sh ow me : List Int) (p : Int) : List Int := shr ((tots sh ow)[p.toNat]?.getD 0).toNat (mers ow me p)
/-- The tickets of a request. -/
def tkAt (sh ow me : List Int) (i : Nat) : Int := (seatsOf sh ow me (ow[i]?.getD 0))[(ids ow (ow[i]?.getD 0) i).length]?.getD 0
def tkts (sh ow me : List Int) : List Int := (List.range ow.length).map (tkAt sh ow me)

theorem ids_mem {ow : List Int} {p : Int} {j i : Nat} (h : i ∈ ids ow p j) : i < j ∧ ow[i]? = some p := by
  induction j with
  | zero => simp [ids] at h
  | succ j ih =>
    rw [ids] at h
    split at h
    · rename_i hj
      rcases List.mem_append.1 h with h | h
      · have := ih h; exact ⟨by omega, this.2⟩
      · obtain rfl := List.mem_singleton.1 h
        exact ⟨Nat.lt_succ_self _, hj⟩
    · have := ih h; exact ⟨by omega, this.2⟩
theorem ids_of {ow : List Int} {p : Int} {j i : Nat} (hi : i < j) (h : ow[i]? = some p) : i ∈ ids ow p j := by
  induction j with
  | zero => omega
  | succ j ih =>
    rw [ids]
    by_cases hij : i = j
    · subst hij
      rw [if_pos h]
      simp
    · have := ih (by omega)
      split
      · exact List.mem_append.2 (.inl this)
      · exact this
/-- The k-th of them has k before it. -/
theorem ids_at {ow : List Int} {p : Int} {j k i : Nat} (h : (ids ow p j)[k]? = some i) : (ids ow p i).length = k := by
  induction j generalizing k with
  | zero => simp [ids] at h
  | succ j ih =>
    rw [ids] at h
    split at h
    · by_cases hk : k < (ids ow p j).length
      · rw [List.getElem?_append_left hk] at h
        exact ih h
      · rw [List.getElem?_append_right (by omega)] at h
        have hk0 : k - (ids ow p j).length = 0 := by
          have := (List.getElem?_eq_some_iff.1 h).1
          simp at this
          omega
        rw [hk0] at h
        simp at h
        subst h
        omega
    · exact ih h
theorem ids_len (ow : List Int) (p : Int) (j : Nat) : (ids ow p j).length ≤ j := by
  induction j with
  | zero => simp [ids]
  | succ j ih =>
    rw [ids]
    split
    · rw [List.length_append, List.length_singleton]; omega
    · omega
theorem wgt_len (sh ow : List Int) (j : Nat) : (wgt sh ow j).length = sh.length := by simp [wgt]
theorem wgt_0 (sh ow : List Int) : wgt sh ow 0 = List.replicate sh.length 0 := by
  apply List.ext_getElem?
  intro p
  by_cases h : p < sh.length <;> simp [wgt, ids, h]
theorem wgt_set {sh ow : List Int} {j p : Nat} {s : Int} (hp : ow[j]? = some (p : Int)) (hs : sh[p]? = some s) : (wgt sh ow j).set p s = wgt sh ow (j + 1) := by
  have hpl := (List.getElem?_eq_some_iff.1 hs).1
  apply List.ext_getElem?
  intro q
  by_cases hq : q < sh.length
  · by_cases hqp : q = p
    · subst hqp
      rw [List.getElem?_set_self (by rw [wgt_len]; exact hq)]
      have e1 : ids ow (q : Int) (j + 1) = ids ow (q : Int) j ++ [j] := by rw [ids, if_pos hp]
      simp only [wgt, List.getElem?_map, List.getElem?_range hq, Option.map_some]
      rw [e1, if_neg (by simp), hs]
      rfl
    · rw [List.getElem?_set_ne (fun e => hqp e.symm)]
      have e1 : ids ow (q : Int) (j + 1) = ids ow (q : Int) j := by rw [ids, if_neg (fun e => by rw [hp] at e; exact hqp (by have := Option.some.inj e; omega))]
      simp only [wgt, List.getElem?_map, List.getElem?_range hq, Option.map_some]
      rw [e1]
  · rw [List.getElem?_eq_none (by simp [wgt]; omega), List.getElem?_eq_none (by simp [wgt]; omega)]
theorem lval_of {sh ow me : List Int} (h : lvalB sh ow me = true) : (1 ≤ sh.length ∧ sh.length ≤ 16 ∧ ow.length ≤ 200 ∧ ow.length = me.length) ∧ (∀ x, x ∈ sh → 1 ≤ x ∧ x ≤ 1000) ∧ (∀ x, x ∈ ow → 0 ≤ x ∧ x ≤ (sh.length : Int) - 1) ∧ ∀ x, x ∈ me → 1 ≤ x ∧ x ≤ 10000 := by
  unfold lvalB witB at h
  simp only [Bool.and_eq_true, decide_eq_true_eq, List.all_eq_true] at h
  exact ⟨h.1.1.1, h.1.1.2, h.1.2, h.2⟩
theorem imx_pos {l : List Int} (h : ∀ x, x ∈ l → 0 ≤ x) {x : Int} (hx : x ∈ l) (h0 : 0 < x) : imx l ≠ 0 := fun e => by
  obtain ⟨i, hi⟩ := List.getElem?_of_mem hx
  have hl := (List.getElem?_eq_some_iff.1 hi).1
  have := (mxK_zero h (l.length - 1)).2 e i x (by omega) hi
  omega
/-- What Share returns for the weights of a valid list of requests. -/
theorem wgt_mem {sh ow me : List Int} (h : lvalB sh ow me = true) (j : Nat) : ∀ x, x ∈ wgt sh ow j → 0 ≤ x ∧ x ≤ 1000 := fun x hx => by
  obtain ⟨-, h1, -, -⟩ := lval_of h
  obtain ⟨p, hp, rfl⟩ := List.mem_map.1 hx
  have hp := List.mem_range.1 hp
  split
  · omega
  · obtain ⟨s, hs⟩ := get_some sh p hp
    have := h1 s (List.mem_of_getElem? hs)
    rw [hs, Option.getD_some]
    omega
theorem shE_ok {total : Int} {ws : List Int} (h1 : 1 ≤ ws.length) (h2 : ws.length ≤ 200) (hw : ∀ x, x ∈ ws → 0 ≤ x ∧ x ≤ 1000000000) (ht : 0 ≤ total ∧ total ≤ 720) (hp : ∃ x, x ∈ ws ∧ 0 < x) : shE total ws = 0 := by
  unfold shE
  rw [if_pos ⟨h1, h2, List.all_eq_true.2 (fun x hx => decide_eq_true (hw x hx)), ht.1, ht.2⟩, if_neg]
  intro hc
  obtain ⟨x, hx, hx0⟩ := hp
  exact imx_pos (fun x hx => (hw x hx).1) hx hx0 hc.1
theorem tots_ok {sh ow me : List Int} (h : lvalB sh ow me = true) (h1 : 1 ≤ ow.length) : shE 720 (wgt sh ow ow.length) = 0 ∧ (tots sh ow).length = sh.length ∧ ∀ x, x ∈ tots sh ow → 0 ≤ x ∧ x ≤ 720 := by
  obtain ⟨⟨a, b, c, d⟩, hs, ho, hm⟩ := lval_of h
  have hw := wgt_mem h ow.length
  have hpos : ∃ x, x ∈ wgt sh ow ow.length ∧ 0 < x := by
    obtain ⟨p, hp⟩ := get_some ow 0 h1
    have hpr := ho p (List.mem_of_getElem? hp)
    obtain ⟨s, hse⟩ := get_some sh p.toNat (by omega)
    have := hs s (List.mem_of_getElem? hse)
    refine ⟨s, List.mem_map.2 ⟨p.toNat, List.mem_range.2 (by omega), ?_⟩, by omega⟩
    have hm := ids_of (ow := ow) (p := p) (j := ow.length) h1 hp
    rw [show ((p.toNat : Nat) : Int) = p by omega, if_neg (fun e => by rw [e] at hm; cases hm), hse]
    rfl
  refine ⟨shE_ok (by rw [wgt_len]; exact a) (by rw [wgt_len]; omega) (fun x hx => by have := hw x hx; omega) ⟨by decide, by decide⟩ hpos, by unfold tots; rw [shr_len, wgt_len], fun x hx => ?_⟩
  have hb := BInv.all (wgt sh ow ow.length) (fun x hx => (hw x hx).1) (by rw [wgt_len]; omega) 720
  obtain ⟨p, hp, rfl⟩ := List.mem_map.1 hx
  obtain ⟨i, hi⟩ := List.getElem?_of_mem hp
  have := (hb.at_ i p hi).2
  omega
theorem mers_ok {sh ow me : List Int} (h : lvalB sh ow me = true) (p : Int) : ∀ x, x ∈ mers ow me p → 1 ≤ x ∧ x ≤ 10000 := fun x hx => by
  obtain ⟨⟨a, b, c, d⟩, hs, ho, hm⟩ := lval_of h
  obtain ⟨i, hi, rfl⟩ := List.mem_map.1 hx
  have := (ids_mem hi).1
  obtain ⟨m, hme⟩ := get_some me i (by omega)
  rw [hme, Option.getD_some]
  exact hm m (List.mem_of_getElem? hme)
theorem seats_ok {sh ow me : List Int} (h : lvalB sh ow me = true) {p : Int} (hp : ids ow p ow.length ≠ []) : shE ((tots sh ow)[p.toNat]?.getD 0) (mers ow me p) = 0 ∧ shV ((tots sh ow)[p.toNat]?.getD 0) (mers ow me p) = seatsOf sh ow me p ∧ (seatsOf sh ow me p).length = (ids ow p ow.length).length ∧ ∃ t, (tots sh ow)[p.toNat]? = some t ∧ 0 ≤ t ∧ t ≤ 720 := by
  obtain ⟨⟨a, b, c, d⟩, hs, ho, hm⟩ := lval_of h
  have hne : 1 ≤ (ids ow p ow.length).length := List.length_pos_iff.2 hp
  have hol : 1 ≤ ow.length := by have := ids_len ow p ow.length; omega
  obtain ⟨-, t2, t3⟩ := tots_ok h hol
  obtain ⟨i, hi⟩ := get_some (ids ow p ow.length) 0 hne
  have hpo := ho p (List.mem_of_getElem? (ids_mem (List.mem_of_getElem? hi)).2)
  obtain ⟨t, ht⟩ := get_some (tots sh ow) p.toNat (by omega)
  have htr := t3 t (List.mem_of_getElem? ht)
  have hml : (mers ow me p).length = (ids ow p ow.length).length := by simp [mers]
  have hmo := mers_ok h p
  have hE : shE ((tots sh ow)[p.toNat]?.getD 0) (mers ow me p) = 0 := by
    rw [ht, Option.getD_some]
    obtain ⟨x, hx⟩ := get_some (mers ow me p) 0 (by omega)
    have := hmo x (List.mem_of_getElem? hx)
    exact shE_ok (by omega) (by have := ids_len ow p ow.length; omega) (fun x hx => by have := hmo x hx; omega) htr ⟨x, List.mem_of_getElem? hx, by omega⟩
  refine ⟨hE, by unfold shV seatsOf; rw [if_pos hE], by unfold seatsOf; rw [shr_len]; exact hml, t, ht, htr.1, htr.2⟩
/-- The tickets of a partner's requests are its seats. -/
theorem tkAt_ids {sh ow me : List Int} (h : lvalB sh ow me = true) {p : Int} {k i : Nat} (hi : (ids ow p ow.length)[k]? = some i) : (seatsOf sh ow me p)[k]? = some (tkAt sh ow me i) := by
  have hm := ids_mem (List.mem_of_getElem? hi)
  have hl := (List.getElem?_eq_some_iff.1 hi).1
  obtain ⟨-, -, g, -⟩ := seats_ok h (p := p) (fun e => by rw [e] at hl; simp at hl)
  obtain ⟨s, hs⟩ := get_some (seatsOf sh ow me p) k (by omega)
  unfold tkAt
  rw [hm.2, Option.getD_some, ids_at hi, hs, Option.getD_some]
end

section
open Go.RowKit Go.Maps Go.ChangeShapes

theorem lawInt : Keyed Tryz.prog 3 := int_keyed Tryz.underlying3
theorem zeroIntsL (w : World) : (zeroValue 23).run Tryz.prog w = .ok (.slice none 0 0) w := by kernel_rfl
theorem grown_of_below {w w' : World} (hb : Below w.heap.size w w') : w.grownBy w' none := ⟨hb.os, hb.tape, hb.output, hb.size, fun k hk _ => hb.block k hk⟩
theorem grown_setCellG (w : World) (b i : Nat) (v : Value) : w.grownBy (w.setCell ⟨b, i, none⟩ v) (some b) :=
  ⟨rfl, rfl, rfl, by simp, fun k _ hn => Below.heap_setCell w ⟨b, i, none⟩ v k (fun e => hn (by rw [e]))⟩
/-- The numbers of a partner's requests. -/
def idI (ow : List Int) (p : Int) (j : Nat) : List Int := (ids ow p j).map fun (i : Nat) => (i : Int)
theorem idI_len (ow : List Int) (p : Int) (j : Nat) : (idI ow p j).length = (ids ow p j).length := by simp [idI]
/-- The map after j requests. -/
structure Grp (ow : List Int) (j : Nat) (D : DataW Unit) : Prop where
  map : IsMap D
  at_ : ∀ p : Int, D.atKey (.int .i64 p) .nil = if ids ow p j = [] then .nil else .slice (lits .i64 (idI ow p j)) []
  has_ : ∀ p : Int, has D (.int .i64 p) = decide (ids ow p j ≠ [])
theorem lits_inj {l m : List Int} (h : (lits .i64 l : List (DataW Unit)) = lits .i64 m) : l = m := by
  induction l generalizing m with
  | nil => cases m with
    | nil => rfl
    | cons y m => simp [lits] at h
  | cons x l ih => cases m with
    | nil => simp [lits] at h
    | cons y m =>
      simp only [lits, List.map_cons, List.cons.injEq] at h
      obtain ⟨h1, h2⟩ := h
      injection h1 with h1
      injection h1 with _ h1
      rw [h1, ih h2]
theorem Grp.start (ow : List Int) : Grp ow 0 (.map []) := ⟨isMap_empty, fun p => rfl, fun p => rfl⟩
theorem Grp.val {ow : List Int} {j : Nat} {D : DataW Unit} (h : Grp ow j D) {p : Int} {w : World} {base e : Nat} {v : Value} {zs : List Int} (hat : D.atKey (.int .i64 p) .nil = rowDatum .i64 v zs) (ho : w.ownsInts base e .i64 v zs) : zs = idI ow p j := by
  rw [h.at_ p] at hat
  rcases ho.datum (H := Unit) with ⟨hd, hz⟩ | hd
  · rw [hd] at hat
    split at hat
    · rename_i h0
      rw [hz]; simp [idI, h0]
    · cases hat
  · rw [hd] at hat
    split at hat
    · cases hat
    · injection hat with hat
      exact (lits_inj hat).symm
theorem Grp.step {ow : List Int} {j : Nat} {D : DataW Unit} (h : Grp ow j D) {p : Int} (hp : ow[j]? = some p) {w : World} {base e : Nat} {v' : Value} (ho : w.ownsInts base e .i64 v' (idI ow p j ++ [(j : Int)])) : Grp ow (j + 1) (D.put (.int .i64 p) (rowDatum .i64 v' (idI ow p j ++ [(j : Int)]))) := by
  have hd := ho.datum_pos (H := Unit) (by simp)
  rw [hd]
  have e1 : ids ow p (j + 1) = ids ow p j ++ [j] := by rw [ids, if_pos hp]
  have e2 : ∀ q : Int, q ≠ p → ids ow q (j + 1) = ids ow q j := fun q hq => by rw [ids, if_neg (fun e => by rw [hp] at e; exact hq (Option.some.inj e).symm)]
  refine ⟨h.map.put _ _, fun q => ?_, fun q => ?_⟩
  · by_cases hq : q = p
    · subst hq
      rw [atKey_put_same h.map (k := .int .i64 q) trivial, e1, if_neg (by simp)]
      simp [idI, e1]
    · rw [atKey_put_other (fun e => hq (by injection e)), h.at_ q]
      have := e2 q hq
      simp only [idI, this]
  · by_cases hq : q = p
    · subst hq
      rw [has_put_same h.map (k := .int .i64 q) trivial, e1]
      simp
    · rw [has_put_other (fun e => hq (by injection e)), h.has_ q, e2 q hq]
/-- What stands behind j requests: the map (block b), the row of weights (block gw). -/
structure TkA (w wr : World) (b gw j : Nat) (sh ow : List Int) (D : DataW Unit) : Prop where
  bel : Below w.heap.size w wr
  grp : wr.ownsGroups Tryz.prog 3 (b + 1) 3 .i64 b j D
  gd : Grp ow j D
  shu : wr.Shuns b (fun g => g = gw)
  wts : wr.ownsRow w.heap.size 3 1 (.slice (some ⟨gw, 0, none⟩) sh.length sh.length) sh.length ((wgt sh ow j).map (Value.int .i64))
  hb : w.heap.size ≤ b
  hlt : b < wr.heap.size
  ne : gw ≠ b
theorem TkA.mid {w wr w5 w6 : World} {b gw j : Nat} {sh ow : List Int} {D : DataW Unit} (h : TkA w wr b gw j sh ow D) {u : Value} {zs : List Int} (hoi : wr.ownsInts (b + 1) 3 .i64 u zs) (hsu : ∀ No : Nat → Prop, wr.Shuns b No → ∀ g, u.ownBlock = some g → ¬ No g) (hall : wr.grownBy w5 u.ownBlock) (hg6 : w5.grownBy w6 (some b)) :
    w6.ownsRow w.heap.size 3 1 (.slice (some ⟨gw, 0, none⟩) sh.length sh.length) sh.length ((wgt sh ow j).map (Value.int .i64)) ∧ Below w.heap.size w w6 := by
  have h1 := hsu _ h.shu
  have hw5 := h.wts.kept hall (.inr (fun e => h1 gw e.symm rfl))
  have hw6 := hw5.kept hg6 (.inr (fun e => h.ne (Option.some.inj e)))
  refine ⟨hw6, (h.bel.grown hall h.bel.size (fun k hk => ?_)).grown hg6 (Nat.le_trans h.bel.size hall.size) (fun k hk => by cases hk; exact h.hb)⟩
  have := (hoi.1.lt k hk).1
  have := h.hb
  omega
theorem TkA.next {w wr w5 w6 : World} {b gw j : Nat} {sh ow : List Int} {D D' : DataW Unit} (h : TkA w wr b gw j sh ow D) {u : Value} {zs : List Int} (hoi : wr.ownsInts (b + 1) 3 .i64 u zs) (hsu : ∀ No : Nat → Prop, wr.Shuns b No → ∀ g, u.ownBlock = some g → ¬ No g) (hall : wr.grownBy w5 u.ownBlock) (hg6 : w5.grownBy w6 (some b))
    (grp6 : w6.ownsGroups Tryz.prog 3 (b + 1) 3 .i64 b (j + 1) D') (gd' : Grp ow (j + 1) D') (sh6 : w6.Shuns b (fun g => g = gw)) {p : Nat} {s : Int} (hp : ow[j]? = some (p : Int)) (hs : sh[p]? = some s) :
    TkA w (w6.setCell ⟨gw, p, none⟩ (.int .i64 s)) b gw (j + 1) sh ow D' := by
  obtain ⟨hw6, hb6⟩ := h.mid hoi hsu hall hg6
  have hgs := grown_setCellG w6 gw p (.int .i64 s)
  obtain ⟨hgb, _, hcs⟩ := own_blk hw6
  have hblt : b < w6.heap.size := Nat.lt_of_lt_of_le h.hlt (Nat.le_trans hall.size hg6.size)
  have hset := own_set hw6 p (.int .i64 s)
  rw [← List.map_set, wgt_set hp hs] at hset
  exact ⟨hb6.setCell (p := ⟨gw, p, none⟩) hgb _, grp6.kept hgs (fun e => h.ne (Option.some.inj e).symm) (sh6.rowsOff (fun k hk => by cases hk; rfl)), gd', sh6.kept hgs hblt (fun e => h.ne (Option.some.inj e).symm), hset, h.hb, by simpa using hblt, h.ne⟩
end

section
open Go.RowKit Go.Maps Go.ChangeShapes

/-- What Tickets says, and returns. -/
def tkE (sh ow me : List Int) : Int := if lvalB sh ow me = true then 0 else 1
def tkV (sh ow me : List Int) : List Int := if lvalB sh ow me = true then tkts sh ow me else []
/-- The tickets while some partners are still to come. -/
def tkL (sh ow me : List Int) (left : Lit → Bool) : List Int := (List.range ow.length).map fun i => if left (.int .i64 (ow[i]?.getD 0)) then 0 else tkAt sh ow me i
/-- .. and in the middle of one partner's, k of whose have their tickets. -/
def tkM (sh ow me : List Int) (left : Lit → Bool) (p : Int) (k : Nat) : List Int := (List.range ow.length).map fun i => if left (.int .i64 (ow[i]?.getD 0)) && !(decide (ow[i]? = some p) && decide ((ids ow p i).length < k)) then 0 else tkAt sh ow me i
theorem tkL_len (sh ow me : List Int) (left : Lit → Bool) : (tkL sh ow me left).length = ow.length := by simp [tkL]
theorem tkM_len (sh ow me : List Int) (left : Lit → Bool) (p : Int) (k : Nat) : (tkM sh ow me left p k).length = ow.length := by simp [tkM]
theorem tkL_start {ow : List Int} {D : DataW Unit} (h : Grp ow ow.length D) (sh me : List Int) : tkL sh ow me (has D) = List.replicate ow.length 0 := by
  apply List.ext_getElem?
  intro i
  by_cases hi : i < ow.length
  · obtain ⟨p, hp⟩ := get_some ow i hi
    have hm := ids_of hi hp
    have : has D (.int .i64 p) = true := by
      rw [h.has_ p, decide_eq_true_eq]
      intro e
      rw [e] at hm
      cases hm
    simp only [tkL, List.getElem?_map, List.getElem?_range hi, Option.map_some, hp, Option.getD_some, this, if_true]
    simp [hi]
  · rw [List.getElem?_eq_none (by simp [tkL]; omega), List.getElem?_eq_none (by simp; omega)]
theorem tkL_end (sh ow me : List Int) {left : Lit → Bool} (h : ∀ z, left z = false) : tkL sh ow me left = tkts sh ow me := by
  unfold tkL tkts
  apply List.map_congr_left
  intro i _
  rw [h]
  rfl
theorem tkM_0 (sh ow me : List Int) (left : Lit → Bool) (p : Int) : tkM sh ow me left p 0 = tkL sh ow me left := by
  unfold tkL tkM
  apply List.map_congr_left
  intro i _
  simp
theorem tkM_n (sh ow me : List Int) (left : Lit → Bool) (p : Int) : tkM sh ow me left p (ids ow p ow.length).length = tkL sh ow me (fun z => left z && !z.sameKey (.int .i64 p)) := by
  unfold tkL tkM
  apply List.map_congr_left
  intro i hi
  have hi := List.mem_range.1 hi
  obtain ⟨q, hq⟩ := get_some ow i hi
  rw [hq, Option.getD_some]
  by_cases hqp : q = p
  · subst hqp
    have hlt : (ids ow q i).length < (ids ow q ow.length).length := by
      obtain ⟨k, hk⟩ := List.getElem?_of_mem (ids_of hi hq)
      have := ids_at hk
      have := (List.getElem?_eq_some_iff.1 hk).1
      omega
    have hs : (Lit.int IntKind.i64 q).sameKey (Lit.int IntKind.i64 q) = true := by simp [Lit.sameKey]
    simp [hs, hlt]
  · have hs : (Lit.int IntKind.i64 q).sameKey (Lit.int IntKind.i64 p) = false := sameKey_ne (fun e => hqp (by injection e))
    simp [hs, hqp]
theorem tkM_set {sh ow me : List Int} (h : lvalB sh ow me = true) {left : Lit → Bool} {p : Int} {k i : Nat} (hi : (ids ow p ow.length)[k]? = some i) {s : Int} (hs : (seatsOf sh ow me p)[k]? = some s) : (tkM sh ow me left p k).set i s = tkM sh ow me left p (k + 1) := by
  have hm := ids_mem (List.mem_of_getElem? hi)
  have hik := ids_at hi
  have ht := tkAt_ids h hi
  rw [ht] at hs
  obtain rfl := Option.some.inj hs
  apply List.ext_getElem?
  intro j
  by_cases hj : j < ow.length
  · by_cases hji : j = i
    · subst hji
      rw [List.getElem?_set_self (by rw [tkM_len]; exact hj)]
      simp only [tkM, List.getElem?_map, List.getElem?_range hj, Option.map_some, hm.2, Option.getD_some]
      rw [decide_eq_true (show (ids ow p j).length < k + 1 by omega)]
      simp
    · rw [List.getElem?_set_ne (fun e => hji e.symm)]
      simp only [tkM, List.getElem?_map, List.getElem?_range hj, Option.map_some]
      by_cases hjp : ow[j]? = some p
      · have e : decide ((ids ow p j).length < k) = decide ((ids ow p j).length < k + 1) := by
          by_cases h1 : (ids ow p j).length < k
          · rw [decide_eq_true h1, decide_eq_true (by omega)]
          · have h2 : (ids ow p j).length ≠ k := fun e => by
              obtain ⟨q, hq⟩ := List.getElem?_of_mem (ids_of hj hjp)
              have h3 := ids_at hq
              rw [e] at h3
              rw [← h3, hi] at hq
              exact hji (Option.some.inj hq).symm
            rw [decide_eq_false h1, decide_eq_false (by omega)]
        rw [e]
      · rw [decide_eq_false hjp]
        simp
  · rw [List.getElem?_eq_none (by rw [List.length_set, tkM_len]; omega), List.getElem?_eq_none (by rw [tkM_len]; omega)]
/-- An entry of the map of groups: its row lies in the world in which the groups stood. -/
theorem groups_map {w : World} {b n base : Nat} {D : DataW Unit} (h : w.ownsGroups Tryz.prog 3 base 3 .i64 b n D) : w.ownsMap Tryz.prog 3 (rowElem (H := Unit) w base 3 .i64) b n D := by
  obtain ⟨es, clock, hb, F, hs, hD, -⟩ := h
  exact ⟨es, clock, hb, F, hs, hD⟩
theorem ownsMap_below {w w' : World} {R : Value → Option (DataW Unit × List MemPlace)} {b n : Nat} {D : DataW Unit} (h : w.ownsMap Tryz.prog 3 R b n D) (hb : Below w.heap.size w w') : w'.ownsMap Tryz.prog 3 R b n D := h.kept (grown_of_below hb) (by simp)
/-- What an entry that comes says. -/
theorem Grp.entry {ow : List Int} {D : DataW Unit} (h : Grp ow ow.length D) {wM : World} {base : Nat} {c : Value} {y : DataW Unit × List MemPlace} {p : Int} (hR : rowElem (H := Unit) wM base 3 .i64 c = some y) (hat : ∀ zd, D.atKey (.int .i64 p) zd = y.1) (hh : has D (.int .i64 p) = true) :
    wM.ownsInts base 3 .i64 c (idI ow p ow.length) ∧ ids ow p ow.length ≠ [] := by
  have hne : ids ow p ow.length ≠ [] := by
    have := h.has_ p
    rw [hh] at this
    exact of_decide_eq_true this.symm
  obtain ⟨zs, ho, hy⟩ := rowElem_inv hR
  have := hat .nil
  rw [hy] at this
  have hz := h.val this ho
  rw [← hz]
  exact ⟨ho, hne⟩
end

section
open Go.RowKit Go.Maps Go.ChangeShapes

set_option maxRecDepth 100000 in
set_option maxHeartbeats 32000000 in
theorem ltickets_any (A B C : Option Addr) (ca cb cc : Nat) (sh ow me : List Int) (w : World) (hA : Ints w A sh) (hB : Ints w B ow) (hC : Ints w C me) (h1 : sh.length ≤ 9223372036854775807) (h2 : ow.length ≤ 9223372036854775807) (h3 : me.length ≤ 9223372036854775807) :
    Calls Tryz.prog 13 #[.slice A sh.length ca, .slice B ow.length cb, .slice C me.length cc] w fun e w' => ∃ v, e = .returned (.tuple #[v, .int .i64 (tkE sh ow me)]) ∧ w'.ownsRow w.heap.size 3 1 v (tkV sh ow me).length ((tkV sh ow me).map (Value.int .i64)) ∧ Below w.heap.size w w' := by
  have HA : Hid (∀ W, Below w.heap.size w W → Ints W A sh) := Lib.hid (fun W hW => hA.below hW)
  have HB : Hid (∀ W, Below w.heap.size w W → Ints W B ow) := Lib.hid (fun W hW => hB.below hW)
  have HC : Hid (∀ W, Below w.heap.size w W → Ints W C me) := Lib.hid (fun W hW => hC.below hW)
  have HV := Lib.hid (lvalid_any A B C ca cb cc sh ow me w hA hB hC h1 h2 h3)
  obtain ⟨bv, hbv⟩ : ∃ b, lvalB sh ow me = b := ⟨_, rfl⟩
  rw [hbv] at HV
  have HBV := Lib.hid hbv
  clear hA hB hC hbv
  cases bv
  case false =>
    have hr : tkE sh ow me = 1 ∧ tkV sh ow me = [] := by
      unfold tkE tkV
      rw [HBV.out]
      exact ⟨rfl, rfl⟩
    rw [hr.1, hr.2]
    clear hr
    go_enter Tryz.func13, Tryz.ntmps13
    go_wp2_with fail
    refine HV.out.mono ?_
    rintro e w1 ⟨rfl, hb⟩
    have HB1 := Lib.hid hb
    clear hb
    go_wp2
    go_ret2
    exact ⟨_, rfl, World.ownsRow_nil _ _ _ _, HB1.out⟩
  case true =>
  have hr : tkE sh ow me = 0 ∧ tkV sh ow me = tkts sh ow me := by
    unfold tkE tkV
    rw [HBV.out]
    exact ⟨rfl, rfl⟩
  rw [hr.1, hr.2]
  obtain ⟨⟨l1, l16, l200, leq⟩, hsh, how, hme⟩ := lval_of HBV.out
  have HLEQ := Lib.hid leq
  have HSH := Lib.hid hsh
  have HOW := Lib.hid how
  have HME := Lib.hid hme
  clear hr leq hsh how hme
  by_cases h0 : ow.length = 0
  case pos =>
    have hr : tkts sh ow me = [] := by unfold tkts; rw [h0]; rfl
    rw [hr]
    have h0i : ((ow.length : Int) == 0) = true := beq_iff_eq.2 (by omega)
    clear hr h0
    go_enter Tryz.func13, Tryz.ntmps13
    go_wp2_with fail
    refine HV.out.mono ?_
    rintro e w1 ⟨rfl, hb⟩
    have HB1 := Lib.hid hb
    clear hb
    go_wp2
    go_ret2
    exact ⟨_, rfl, World.ownsRow_nil _ _ _ _, HB1.out⟩
  case neg =>
  have h0i : ((ow.length : Int) == 0) = false := beq_eq_false_iff_ne.2 (by omega)
  have hpos : 1 ≤ ow.length := by omega
  clear h0
  have hmm := @run_makeMap Tryz.prog
  obtain ⟨i0, hi0, hz0, hz1, hz2⟩ := info_parts info_intL
  have HI := Lib.hid (And.intro hi0 (And.intro hz0 (And.intro hz1 hz2)))
  have HTO := Lib.hid (tots_ok HBV.out (by omega))
  clear hi0 hz0 hz1 hz2
  go_enter Tryz.func13, Tryz.ntmps13
  go_wp2_with fail
  refine HV.out.mono ?_
  rintro e w1 ⟨rfl, hb⟩
  have HB1 := Lib.hid hb
  clear hb
  go_wp2_with (at_make; refine wpList_make_full _ rfl (.tmp 34) (.tmp 34) 23 rfl w.heap.size 3 i0 _ 1 Tryz.underlying23 HI.out.1 HI.out.2.1 HI.out.2.2.1 _ _ _ _ sh.length rfl rfl rfl rfl (by rw [HI.out.2.2.2]; omega) (by simp only [maxLen]; omega) (by have := HB1.out.size; simp; omega) ?_)
  intro w3 hown hg
  rw [made1, ← wgt_0 sh ow] at hown
  have HT0 : Hid (TkA w w3 w1.heap.size (w1.heap.size + 1) 0 sh ow (.map [])) := Lib.hid ⟨(below_alloc HB1.out _).grown hg (by have := HB1.out.size; simp; omega) (fun j hj => (by cases hj)), (World.ownsGroups_made w1 _ _ _ _).kept hg (by simp) (fun es clock hb x hx => by
      rw [(MapKept.heap_alloc w1 _).1] at hb
      cases hb
      simp at hx), Grp.start ow, (World.Shuns_made w1 _).kept hg (by simp) (by simp), hown, HB1.out.size, Nat.lt_of_lt_of_le (by simp) hg.size, by omega⟩
  obtain ⟨b, hb'⟩ : ∃ b, w1.heap.size = b := ⟨_, rfl⟩
  obtain ⟨gw, hgw'⟩ : ∃ b, w1.heap.size + 1 = b := ⟨_, rfl⟩
  rw [hgw', hb'] at HT0
  clear hown hg hmm
  go_wp2_with fail
  rw [hgw', hb']
  clear hb' hgw'
  go_loopw [10, 11, 38] (fun _ _ u38 wr => ∃ (j : Nat) (D : DataW Unit), j ≤ ow.length ∧ u38 = .int .i64 j ∧ TkA w wr b gw j sh ow D) (fun _ _ u38 _ => ow.length - (intOf u38).toNat)
  case atStart => exact ⟨0, _, Nat.zero_le _, rfl, HT0.out⟩
  case round =>
  obtain ⟨j, D, hj, rfl, ht⟩ := hrel
  have HT := Lib.hid ht
  clear ht
  by_cases hlt : j < ow.length
  case pos =>
    have hji : (j : Int) < (ow.length : Int) := by omega
    obtain ⟨p', hp'⟩ := get_some ow j hlt
    have hpr := HOW.out p' (List.mem_of_getElem? hp')
    obtain ⟨p, rfl⟩ : ∃ p : Nat, p' = (p : Int) := ⟨p'.toNat, by omega⟩
    obtain ⟨s, hs⟩ := get_some sh p (by omega)
    obtain ⟨bB, oB, rfl, cB⟩ := (HB.out wr HT.out.bel).at_ hp'
    obtain ⟨bA, oA, rfl, cA⟩ := (HA.out wr HT.out.bel).at_ hs
    have lB := lt_of_cell cB
    have hpi : (p : Int) < (sh.length : Int) := by omega
    have hkey := keyOf_int_mk Tryz.underlying3 (WalkArith.wf_i64 (n := (p : Int)) (by omega))
    have hwj := WalkArith.wf_i64 (n := (j : Int)) (by omega)
    have HP := Lib.hid hp'
    have HS := Lib.hid hs
    have HCA : Hid (∀ W, Below w.heap.size w W → W.cell? ⟨bA, oA + p, none⟩ = some (.int .i64 s)) := Lib.hid (fun W hW => by
      obtain ⟨b', o', he, hc⟩ := (HA.out W hW).at_ hs
      cases he
      exact hc)
    clear cA hp' hs hpr
    go_wp2_with (first
      | (at_lookup; refine wpList_lookup_groups_shuns _ rfl _ _ 80 rfl 3 23 3 .i64 lawInt Tryz.underlying80 (zeroIntsL _) (b + 1) b j D rfl HT.out.grp (by unfold maxLen; omega) _ _ rfl hkey ?_; intro u zs hat hoi hzl hback hsu)
      | (at_builtin; refine wpList_append_own_at _ rfl _ _ 23 rfl (b + 1) 3 i0 (.int .i64 0) 1 8 Tryz.underlying23 HI.out.1 HI.out.2.1 HI.out.2.2.1 HI.out.2.2.2 rfl (by decide) _ _ _ rfl (hoi.1.alloc _) ⟨wr.heap.size, 0, none⟩ 1 1 [.int .i64 j] rfl rfl (cell_one_new _ _ _) (ints_oneCell .i64 [(j : Int)]) (by unfold maxLen; omega) (by omega) (by have := HT.out.hlt; simp; omega) ?_; intro v' w5 hown' hgrow hnil hloc; have hall := (World.grownBy_alloc wr (.cells #[.int .i64 j] 3) u.ownBlock).trans hgrow; have hoi' := hoi.appended hown' hwj; have hloc' : v'.ownBlock = u.ownBlock ∨ ∃ g, v'.ownBlock = some g ∧ wr.heap.size ≤ g := hloc.imp id (fun h => ⟨_, h, by simp⟩); have hgwl : gw < wr.heap.size := (own_blk HT.out.wts).2.elim (fun _ h => h.lt); have hno : ∀ g, v'.ownBlock = some g → ¬ (g = gw) := (fun g hg e => hloc'.elim (fun h => hsu _ HT.out.shu g (h.symm.trans hg) e) (fun ⟨g', h, hh⟩ => by rw [h] at hg; cases hg; omega)))
      | (at_mapUpdate
         refine wpList_mapUpdate_back_shuns _ rfl _ _ _ 80 rfl lawInt Tryz.underlying80 hkey HT.out.grp (by unfold maxLen; omega) hoi HT.out.shu hno hback rfl rfl rfl hall hoi' (by simp; omega) hloc' ?_
         intro w6 hown6 hgrow6 hsh6
         have hzs := HT.out.gd.val hat hoi
         subst hzs
         have HG6 := Lib.hid (HT.out.gd.step HP.out hoi')
         have HMID := Lib.hid (HT.out.mid hoi hsu hall hgrow6)
         have HNX := Lib.hid (HT.out.next hoi hsu hall hgrow6 hown6 HG6.out hsh6 HP.out HS.out)
         clear hat hoi hzl hback hsu hown' hgrow hnil hloc hall hoi' hloc' hgwl hno hown6 hgrow6 hsh6 cB lB
         have cA := HCA.out w6 HMID.out.2
         have lA := lt_of_cell cA
         obtain ⟨q, hq⟩ := get_some (wgt sh ow j) p (by rw [wgt_len]; omega)
         obtain ⟨-, ds, hds⟩ := own_blk HMID.out.1
         have f0 : w6.cell? ⟨gw, p, none⟩ = some (.int .i64 q) := by
           obtain ⟨A', c', he, -, -, hr⟩ := Rd.of_own HMID.out.1
           cases he
           obtain ⟨b', off', he, hc⟩ := hr.2 (by omega)
           cases he
           have := hc p (.int .i64 q) (by rw [List.getElem?_map, hq]; rfl)
           rw [Nat.zero_add] at this
           exact this
         have fz := hds.frozen p
         have fl := hds.lt
         clear hds hq))
    go_wp2
    go_roundw
    case rel => exact ⟨j + 1, _, by omega, by go_num, HNX.out⟩
    case measure => first | (simp [intOf]; done) | (simp [intOf]; omega)
  case neg =>
  obtain rfl : j = ow.length := by omega
  obtain ⟨wM, hwM⟩ : ∃ W, W = wr := ⟨wr, rfl⟩
  subst hwM
  have HWT : Hid (Ints wM (some ⟨gw, 0, none⟩) (wgt sh ow ow.length)) := Lib.hid (by
    obtain ⟨A', c', he, -, -, hr⟩ := Rd.of_own HT.out.wts
    cases he
    unfold Ints
    rw [wgt_len]
    exact hr)
  have hsh2 := share_any 720 (some ⟨gw, 0, none⟩) sh.length (wgt sh ow ow.length) wM HWT.out (by rw [wgt_len]; exact h1)
  rw [HTO.out.1, show shV 720 (wgt sh ow ow.length) = tots sh ow by unfold shV; rw [if_pos HTO.out.1]; rfl, wgt_len] at hsh2
  have HSR := Lib.hid hsh2
  clear hsh2
  go_wp2_with fail
  refine HSR.out.mono ?_
  rintro e w4 ⟨vt, rfl, hot, hb⟩
  obtain ⟨At, ct, rfl, -, -, hrt⟩ := Rd.of_own hot
  have HM4 := Lib.hid hb
  have HB4 := Lib.hid (below_trans HT.out.bel hb)
  have HIT : Hid (Ints w4 At (tots sh ow)) := Lib.hid hrt
  clear hot hrt hb
  go_wp2_with (at_make; refine wpList_make_full _ rfl (.tmp 68) (.tmp 68) 23 rfl w.heap.size 3 i0 _ 1 Tryz.underlying23 HI.out.1 HI.out.2.1 HI.out.2.2.1 _ _ _ _ ow.length rfl rfl rfl rfl (by rw [HI.out.2.2.2]; omega) (by simp only [maxLen]; omega) HB4.out.size ?_)
  intro w5 hown hg
  rw [made1, ← tkL_start HT.out.gd sh me] at hown
  have HO5 := Lib.hid hown
  have HX5 : Hid (Below w4.heap.size w4 w5) := Lib.hid ((Below.refl w4.heap.size w4).grown hg (Nat.le_refl _) (fun j hj => (by cases hj)))
  have HM5 := Lib.hid (ownsMap_below (groups_map HT.out.grp) (below_trans HM4.out HX5.out))
  obtain ⟨gO, hgO⟩ : ∃ g, w4.heap.size = g := ⟨_, rfl⟩
  have HGO := Lib.hid hgO
  rw [hgO] at HO5
  clear hown hg
  go_wp2_with (at_range; refine wpList_range_own _ rfl _ 80 rfl 3 23 lawInt Tryz.underlying80 _ b ow.length D rfl HM5.out ?_; intro w6 hrg0 hg0 hs0)
  rw [hgO]
  have HR6 := Lib.hid hrg0
  have HX6 : Hid (Below w4.heap.size w4 w6) := Lib.hid (HX5.out.grown hg0 HX5.out.size (fun j hj => (by cases hj)))
  have HO6 := Lib.hid (HO5.out.kept hg0 (.inr (fun e => by cases (show some gO = none from e))))
  have HGL : Hid (gO < w5.heap.size) := Lib.hid ((own_blk HO5.out).2.elim (fun _ h => h.lt))
  obtain ⟨r, hr'⟩ : ∃ g, w5.heap.size = g := ⟨_, rfl⟩
  rw [hr'] at HR6 HGL
  clear hrg0 hg0 hs0 hgO
  try go_frame
  rw [hr']
  clear hr'
  go_wp2_with fail
  go_loopw [15, 16, 17, 19, 20, 21, 22, 23, 79, 105] (fun _ _ _ _ _ _ _ _ _ _ wr => ∃ (left : Lit → Bool) (cnt : Nat), wr.ranges Tryz.prog 3 (rowElem (H := Unit) wM (b + 1) 3 .i64) b r ow.length D left cnt ∧ Below w4.heap.size w4 wr ∧ wr.ownsRow w.heap.size 3 1 (.slice (some ⟨gO, 0, none⟩) ow.length ow.length) ow.length ((tkL sh ow me left).map (Value.int .i64)) ∧ ∀ z, left z = true → has D z = true) (fun _ _ _ _ _ _ _ _ _ _ wr => wr.rangeLeft b r)
  case atStart => exact ⟨_, _, HR6.out, HX6.out, HO6.out, fun z h => h⟩
  case round =>
  obtain ⟨left, cnt, hrg, hb, ho, hlh⟩ := hrel
  have HRG := Lib.hid hrg
  have HBr := Lib.hid hb
  have HOr := Lib.hid ho
  have HLH := Lib.hid hlh
  clear hrg hb ho hlh
  go_wp2_with (at_next; refine wpList_next_ranges _ rfl _ rfl 3 lawInt _ (fun x : Int => Value.int .i64 x) (fun v : Value => v) (fun key kl h => by obtain ⟨x, hx, -⟩ := keyOf_int_inv Tryz.underlying3 h; exact ⟨x, hx⟩) (fun v y _ => ⟨v, rfl⟩) b r ow.length D left cnt rfl HRG.out ?_ ?_)
  · intro hc0 hl0
    have hend := HOr.out
    rw [tkL_end sh ow me hl0] at hend
    have HEND := Lib.hid hend
    have hln : (tkts sh ow me).length = ow.length := by simp [tkts]
    have HLN := Lib.hid hln
    clear hend hc0 hl0 hln
    go_wp2
    go_ret2
    rw [HLN.out]
    exact ⟨_, rfl, HEND.out, below_trans HB4.out HBr.out⟩
  intro x c kl y yp w7 cnt1 hkk hl hR hat hrg7 hlt7 hg7 hs7 hen
  obtain ⟨x', hx', rfl, hwf⟩ := keyOf_int_inv Tryz.underlying3 hkk
  injection hx' with _ hx'
  subst hx'
  have hent := HT.out.gd.entry (y := (y, yp)) hR hat (HLH.out _ hl)
  obtain ⟨hoi, hne⟩ := hent
  have hB7 := HBr.out.grown hg7 HBr.out.size (fun j hj => by cases hj; exact Nat.le_of_lt (Nat.lt_of_le_of_lt (Nat.le_of_eq HGO.out) HGL.out))
  have HO7 := Lib.hid (HOr.out.kept hg7 (.inr (fun e => by have := Option.some.inj (show some gO = some r from e); have := HGL.out; omega)))
  have HB7 := Lib.hid hB7
  have HR7 := Lib.hid hrg7
  have HM7 := Lib.hid (below_trans HM4.out hB7)
  obtain ⟨Ac, cc', hce, -, -, hrc⟩ := Rd.of_own hoi.1
  have HIC : Hid (Ints wM Ac (idI ow x ow.length)) := Lib.hid hrc
  have hlen := idI_len ow x ow.length
  rw [hlen] at hce
  subst hce
  obtain ⟨i0', hi0'⟩ := get_some (ids ow x ow.length) 0 (List.length_pos_iff.2 hne)
  have hx0 := HOW.out x (List.mem_of_getElem? (ids_mem (List.mem_of_getElem? hi0')).2)
  obtain ⟨p, rfl⟩ : ∃ p : Nat, x = (p : Int) := ⟨x.toNat, by omega⟩
  have HSO := Lib.hid (seats_ok HBV.out hne)
  have HMO := Lib.hid (mers_ok HBV.out (p : Int))
  have HIDM : Hid (∀ (k i : Nat), (ids ow (p : Int) ow.length)[k]? = some i → i < ow.length) := Lib.hid (fun k i h => (ids_mem (List.mem_of_getElem? h)).1)
  have HEN := Lib.hid hen
  obtain ⟨N, hN⟩ : ∃ N, (ids ow (p : Int) ow.length).length = N := ⟨_, rfl⟩
  have hN2 : N ≤ 200 := by have := ids_len ow (p : Int) ow.length; omega
  have HNE := Lib.hid hN
  have HLV := Lib.hid (And.intro hlt7 (And.intro hl HLH.out))
  rw [hN] at hen ⊢
  clear hkk hwf hR hat hrg7 hlt7 hg7 hs7 hoi hne hB7 hrc hlen hi0' hl hN
  go_wp2_with fail
  clear hen
  have HML : Hid ((mers ow me (p : Int)).length = N) := Lib.hid (by rw [← HNE.out]; simp [mers])
  have HV0 : Hid (w7.ownsRow w7.heap.size 3 1 (.slice none 0 0) 0 (((mers ow me (p : Int)).take 0).map (Value.int .i64))) := Lib.hid (World.ownsRow_nil _ _ _ _)
  go_loopw [17, 19, 79] (fun u17 _ u79 wr => ∃ k : Nat, k ≤ N ∧ u79 = .int .i64 k ∧ Below w7.heap.size w7 wr ∧ wr.ownsRow w7.heap.size 3 1 u17 k (((mers ow me (p : Int)).take k).map (Value.int .i64))) (fun _ _ u79 _ => N - (intOf u79).toNat)
  case atStart => exact ⟨0, Nat.zero_le _, rfl, Below.refl _ _, HV0.out⟩
  case round =>
  obtain ⟨k, hk, rfl, hb, ho⟩ := hrel
  have HBk := Lib.hid hb
  have HOk := Lib.hid ho
  clear hb ho
  have HBM := Lib.hid (below_trans HM7.out HBk.out)
  have HBW := Lib.hid (below_trans HT.out.bel HBM.out)
  by_cases hkl : k < N
  case pos =>
    have hki : (k : Int) < (N : Int) := by omega
    obtain ⟨i, hi⟩ := get_some (ids ow (p : Int) ow.length) k (by rw [HNE.out]; exact hkl)
    have hil := HIDM.out k i hi
    obtain ⟨m, hm⟩ := get_some me i (by rw [← HLEQ.out]; exact hil)
    have hid : (idI ow (p : Int) ow.length)[k]? = some (i : Int) := by unfold idI; rw [List.getElem?_map, hi]; rfl
    have hmer : (mers ow me (p : Int))[k]? = some m := by unfold mers; rw [List.getElem?_map, hi, Option.map_some, hm]; rfl
    obtain ⟨bc, oc, rfl, q0⟩ := (HIC.out.below HBM.out).at_ hid
    obtain ⟨bC, oC, rfl, q1⟩ := (HC.out wr HBW.out).at_ hm
    have ql0 := lt_of_cell q0
    have ql1 := lt_of_cell q1
    have him : (i : Int) < (me.length : Int) := by have := HLEQ.out; omega
    have HTK : Hid ((mers ow me (p : Int)).take (k + 1) = (mers ow me (p : Int)).take k ++ [m]) := Lib.hid (by rw [List.take_add_one, hmer]; rfl)
    clear hi hil hm hid hmer
    go_wp2_with (at_builtin; refine wpList_app _ rfl (.tmp 83) (.tmp 88) 23 23 rfl w7.heap.size 3 3 i0 _ 1 8 Tryz.underlying23 Tryz.underlying23 HI.out.1 HI.out.2.1 HI.out.2.2.1 HI.out.2.2.2 rfl (by omega) _ k _ rfl (HOk.out.alloc _) _ 1 1 [.int .i64 m] rfl (Rd_new wr #[.int .i64 m] _ 1 1 _ rfl rfl) (by simp [Value.oneCell']) (by simp only [maxLen]; omega) (by omega) (by have := HBk.out.size; simp; omega) ?_)
    clear q0 q1 ql0 ql1
    intro v9 w9 hown hg
    have HB9 : Hid (Below w7.heap.size w7 w9) := Lib.hid ((below_alloc HBk.out _).grown hg (by have := HBk.out.size; simp; omega) (fun j hj => (HOk.out.lt j hj).1))
    have HO9 : Hid (w9.ownsRow w7.heap.size 3 1 v9 (k + 1) (((mers ow me (p : Int)).take (k + 1)).map (Value.int .i64))) := Lib.hid (by rw [HTK.out, List.map_append, List.map_take]; exact hown)
    clear hown hg
    go_wp2
    go_roundw
    case rel => exact ⟨k + 1, by omega, by go_num, HB9.out, HO9.out⟩
    case measure => first | (simp [intOf]; done) | (simp [intOf]; omega)
  case neg =>
  obtain rfl : k = N := by omega
  obtain ⟨Av, cv, rfl, -, -, hrv⟩ := Rd.of_own HOk.out
  have HIV : Hid (Ints wr Av (mers ow me (p : Int))) := Lib.hid (by
    unfold Ints
    rw [HML.out]
    rw [show (mers ow me (p : Int)).take k = mers ow me (p : Int) by rw [← HML.out, List.take_length]] at hrv
    exact hrv)
  obtain ⟨hE, hV, hSL, t, ht, ht0, ht1⟩ := HSO.out
  rw [Int.toNat_natCast] at ht hE hV
  rw [ht, Option.getD_some] at hE hV
  have HSH3 := share_any t Av cv (mers ow me (p : Int)) wr HIV.out (by rw [HML.out]; omega)
  rw [hE, hV, HML.out] at HSH3
  have HS3 := Lib.hid HSH3
  have HSL := Lib.hid hSL
  have HBR := Lib.hid (below_trans HB7.out HBk.out)
  obtain ⟨bt, ot, rfl, q0⟩ := (HIT.out.below HBR.out).at_ ht
  have ql0 := lt_of_cell q0
  have htl := (List.getElem?_eq_some_iff.1 ht).1
  rw [HTO.out.2.1] at htl
  have hpi : (p : Int) < ((tots sh ow).length : Int) := by rw [HTO.out.2.1]; omega
  obtain ⟨wq, hwq⟩ : ∃ W, W = wr := ⟨wr, rfl⟩
  subst hwq
  clear hrv hE hV hSL ht HSH3
  go_wp2_with fail
  clear q0 ql0
  refine HS3.out.mono ?_
  rintro e w8 ⟨vs, rfl, hos, hb⟩
  obtain ⟨As, cs, rfl, -, -, hrs⟩ := Rd.of_own hos
  have HB8 := Lib.hid (below_trans HBR.out hb)
  have HOS := Lib.hid hos
  have HX8 := Lib.hid hb
  have hg78 := (grown_of_below (below_trans HBk.out hb))
  have HR8 := Lib.hid (HR7.out.kept hg78 (by simp) (by simp))
  have HO8 := Lib.hid (HO7.out.kept hg78 (.inr (fun e => by cases (show some gO = none from e))))
  have hgo7 : gO < w7.heap.size := (own_blk HO7.out).2.elim (fun _ h => h.lt)
  have HGQ : Hid (gO < wq.heap.size) := Lib.hid (Nat.lt_of_lt_of_le hgo7 HBk.out.size)
  have HTM0 : Hid (tkM sh ow me left (p : Int) 0 = tkL sh ow me left) := Lib.hid (tkM_0 sh ow me left p)
  have HTMN : Hid (tkM sh ow me left (p : Int) k = tkL sh ow me (fun z => left z && !z.sameKey (.int .i64 p))) := Lib.hid (by rw [← HNE.out]; exact tkM_n sh ow me left p)
  have HTMS : Hid (∀ (q i : Nat) (s : Int), (ids ow (p : Int) ow.length)[q]? = some i → (seatsOf sh ow me (p : Int))[q]? = some s → ((tkM sh ow me left (p : Int) q).map (Value.int .i64)).set i (.int .i64 s) = (tkM sh ow me left (p : Int) (q + 1)).map (Value.int .i64)) := Lib.hid (fun q i s hi hs => by rw [← tkM_set HBV.out hi hs, List.map_set])
  have HTML : Hid (∀ q, (tkM sh ow me left (p : Int) q).length = ow.length) := Lib.hid (fun q => tkM_len sh ow me left p q)
  rw [← HTM0.out] at HO8
  clear hos hrs hb hg78 hgo7
  go_wp2_with fail
  go_loopw [22, 23, 105] (fun _ _ u105 wr => ∃ q : Nat, q ≤ k ∧ u105 = .int .i64 q ∧ Below w4.heap.size w4 wr ∧ wr.ranges Tryz.prog 3 (rowElem (H := Unit) wM (b + 1) 3 .i64) b r ow.length D (fun z => left z && !z.sameKey (.int .i64 p)) cnt1 ∧ wr.ownsRow w.heap.size 3 1 (.slice (some ⟨gO, 0, none⟩) ow.length ow.length) ow.length ((tkM sh ow me left (p : Int) q).map (Value.int .i64)) ∧ wr.ownsRow wq.heap.size 3 1 (.slice As (seatsOf sh ow me (p : Int)).length cs) (seatsOf sh ow me (p : Int)).length ((seatsOf sh ow me (p : Int)).map (Value.int .i64))) (fun _ _ u105 _ => k - (intOf u105).toNat)
  case atStart => exact ⟨0, Nat.zero_le _, rfl, HB8.out, HR8.out, HO8.out, HOS.out⟩
  case round =>
  obtain ⟨q, hq, rfl, hb, hrg, ho, hse⟩ := hrel
  have HBq := Lib.hid hb
  have HRq := Lib.hid hrg
  have HOq := Lib.hid ho
  have HSq := Lib.hid hse
  clear hb hrg ho hse
  by_cases hql : q < k
  case neg =>
    obtain rfl : q = k := by omega
    have hoq := HOq.out
    rw [HTMN.out] at hoq
    have HON := Lib.hid hoq
    clear hoq
    go_wp2
    go_roundw
    case rel => exact ⟨_, cnt1, HRq.out, HBq.out, HON.out, fun z hz => HLV.out.2.2 z (by revert hz; cases left z <;> simp)⟩
    case measure => rw [HRq.out.left_eq, HRG.out.left_eq]; exact HLV.out.1
  case pos =>
  have hqi : (q : Int) < (k : Int) := by omega
  obtain ⟨i, hi⟩ := get_some (ids ow (p : Int) ow.length) q (by rw [HNE.out]; exact hql)
  have hil := HIDM.out q i hi
  obtain ⟨s, hs⟩ := get_some (seatsOf sh ow me (p : Int)) q (by rw [HSL.out, HNE.out]; exact hql)
  have hid : (idI ow (p : Int) ow.length)[q]? = some (i : Int) := by unfold idI; rw [List.getElem?_map, hi]; rfl
  obtain ⟨bc, oc, rfl, q0⟩ := (HIC.out.below (below_trans HM4.out HBq.out)).at_ hid
  have ql0 := lt_of_cell q0
  obtain ⟨A', c', he, -, -, hrs⟩ := Rd.of_own HSq.out
  cases he
  have his : Ints wr As (seatsOf sh ow me (p : Int)) := hrs
  obtain ⟨bs, os, rfl, q1⟩ := his.at_ hs
  have ql1 := lt_of_cell q1
  have hii : (i : Int) < (ow.length : Int) := by omega
  have hsi : (q : Int) < ((seatsOf sh ow me (p : Int)).length : Int) := by rw [HSL.out, HNE.out]; omega
  obtain ⟨z, hz⟩ := get_some (tkM sh ow me left (p : Int) q) i (by rw [HTML.out]; exact hil)
  obtain ⟨hgb, ds, hds⟩ := own_blk HOq.out
  have f0 : wr.cell? ⟨gO, i, none⟩ = some (.int .i64 z) := by
    obtain ⟨A'', c'', he, -, -, hr⟩ := Rd.of_own HOq.out
    cases he
    obtain ⟨b', off', he, hc⟩ := hr.2 (by omega)
    cases he
    have := hc i (.int .i64 z) (by rw [List.getElem?_map, hz]; rfl)
    rw [Nat.zero_add] at this
    exact this
  have fz := hds.frozen i
  have fl := hds.lt
  have hgs := grown_setCellG wr gO i (.int .i64 s)
  have hset := own_set HOq.out i (.int .i64 s)
  rw [HTMS.out q i s hi hs] at hset
  have HON := Lib.hid hset
  have HBN := Lib.hid (HBq.out.setCell (p := ⟨gO, i, none⟩) (Nat.le_of_eq HGO.out) (.int .i64 s))
  have HRN := Lib.hid (HRq.out.kept hgs (fun e => by have h1 := Option.some.inj e; have h2 := HRq.out.owns.lt; have h3 := HT.out.hlt; have h4 := HM4.out.size; have h5 := HGO.out; omega) (fun e => by have := Option.some.inj e; have := HGL.out; omega))
  have HSN := Lib.hid (HSq.out.kept hgs (.inr (fun e => by have h1 := (HSq.out.lt _ e).1; have h2 := HGQ.out; omega)))
  clear hi hil hs hid hrs his hz hds hgs hset hgb
  go_wp2
  go_roundw
  case rel => exact ⟨q + 1, by omega, by go_num, HBN.out, HRN.out, HON.out, HSN.out⟩
  case measure => first | (simp [intOf]; done) | (simp [intOf]; omega)
end

section
open Go.RowKit

theorem listB_of {l : List Int} (h : listB l = true) : (1 ≤ l.length ∧ l.length ≤ 200) ∧ (∀ (k : Nat) (x : Int), l[k]? = some x → 0 ≤ x ∧ x ≤ 720) ∧ isum l = 720 := by
  unfold listB at h
  simp only [Bool.and_eq_true, decide_eq_true_eq] at h
  exact ⟨h.1.1, fun k x hx => of_decide_eq_true (List.all_eq_true.1 h.1.2 x (List.mem_of_getElem? hx)), h.2⟩
theorem isum_le {l : List Int} (h : ∀ (k : Nat) (x : Int), l[k]? = some x → 0 ≤ x ∧ x ≤ 720) (k : Nat) : 0 ≤ isum (l.take k) ∧ isum (l.take k) ≤ isum l := by
  have e : isum l = isum (l.take k) + isum (l.drop k) := by rw [← isum_append, List.take_append_drop]
  have h1 := isum_range (l := l.take k) (a := 0) (b := 720) (fun x hx => by
    obtain ⟨j, hj⟩ := List.getElem?_of_mem (List.mem_of_mem_take hx)
    exact h j x hj) (by decide)
  have h2 := isum_range (l := l.drop k) (a := 0) (b := 720) (fun x hx => by
    obtain ⟨j, hj⟩ := List.getElem?_of_mem (List.mem_of_mem_drop hx)
    exact h j x hj) (by decide)
  omega
theorem wnr_lt {l : List Int} {d : Int} (h : listB l = true) (hd : d ≤ 719) : wnr l d < l.length := by
  obtain ⟨h1, h2, h3⟩ := listB_of h
  have key : ∀ (l : List Int) (d : Int), d < isum l → wnr l d < l.length ∨ l = [] := fun l => by
    induction l with
    | nil => intro d _; exact .inr rfl
    | cons t r ih =>
      intro d hd
      simp only [isum] at hd
      left
      rw [wnr]
      split
      · simp
      · rcases ih (d - t) (by omega) with h | h
        · simp; omega
        · subst h
          simp only [isum] at hd
          omega
  rcases key l d (by omega) with h | h
  · exact h
  · rw [h] at h1; simp at h1
set_option maxHeartbeats 8000000 in
theorem idxV_any (A : Option Addr) (c : Nat) (l : List Int) (d : Int) (bs bd : Nat) (wa w : World) (hA : Ints wa A l) (hb : Below wa.heap.size wa w) (hbs : wa.heap.size ≤ bs) (hs : Blk w bs 3 #[.int .i64 0]) (hd : w.cell? ⟨bd, 0, none⟩ = some (.int .i64 d)) (hne : bd ≠ bs) (hl : listB l = true) (hd0 : 0 ≤ d) (hd1 : d ≤ 719) :
    Calls Tryz.prog 86 #[.slice A l.length c, .func (.func 85) #[] #[.pointer (some ⟨bs, 0, none⟩), .pointer (some ⟨bd, 0, none⟩)]] w fun e w' => e = .returned (.int .i64 (wnr l d)) ∧ Below wa.heap.size wa w' := by
  have HA : Hid (∀ W, Below wa.heap.size wa W → Ints W A l) := Lib.hid (fun W hW => hA.below hW)
  obtain ⟨⟨hl1, hl2⟩, hx, hsum⟩ := listB_of hl
  have HX := Lib.hid hx
  have HR : Hid (∀ k, 0 ≤ isum (l.take k) ∧ isum (l.take k) ≤ 720) := Lib.hid (fun k => by have := isum_le hx k; omega)
  have HSL : Hid (isum (l.take l.length) = 720) := Lib.hid (by rw [List.take_length]; exact hsum)
  have HST : Hid (∀ (k : Nat) (x : Int), l[k]? = some x → isum (l.take (k + 1)) = isum (l.take k) + x) := Lib.hid (fun k x h => isum_take l k x h)
  have HWN : Hid (∀ (k : Nat) (x : Int), l[k]? = some x → (∀ j, j ≤ k → isum (l.take j) ≤ d) → d < isum (l.take (k + 1)) → wnr l d = k) := Lib.hid (fun k x => wnr_at l d k x)
  have HB := Lib.hid hb
  have HS := Lib.hid hs
  have HD := Lib.hid hd
  have HNE := Lib.hid hne
  generalize wnr l d = wn at *
  clear hA hx hsum hl hb hs hd hne
  go_enter Tryz.func86, Tryz.ntmps86
  go_wp2_with fail
  go_loopw [8] (fun u8 wr => ∃ k : Nat, k ≤ l.length ∧ u8 = .int .i64 k ∧ Below wa.heap.size wa wr ∧ Blk wr bs 3 #[.int .i64 (isum (l.take k))] ∧ wr.cell? ⟨bd, 0, none⟩ = some (.int .i64 d) ∧ ∀ j, j ≤ k → isum (l.take j) ≤ d) (fun u8 _ => l.length - (intOf u8).toNat)
  case atStart => exact ⟨0, Nat.zero_le _, rfl, HB.out, HS.out, HD.out, fun j hj => by
    obtain rfl : j = 0 := by omega
    exact hd0⟩
  case round =>
  obtain ⟨k, hk, rfl, hb, hs, hd, hle⟩ := hrel
  have HBk := Lib.hid hb
  have HSk := Lib.hid hs
  have HDk := Lib.hid hd
  have HLE := Lib.hid hle
  clear hb hs hd hle
  by_cases hlt : k < l.length
  case pos =>
    have hki : (k : Int) < (l.length : Int) := by omega
    obtain ⟨x, hx⟩ := get_some l k hlt
    obtain ⟨x0, x1⟩ := HX.out k x hx
    obtain ⟨s0, s1⟩ := HR.out k
    obtain ⟨b, off, rfl, c0⟩ := (HA.out wr HBk.out).at_ hx
    have c0l := lt_of_cell c0
    have HSX := Lib.hid (HST.out k x hx)
    have HWX := Lib.hid (HWN.out k x hx)
    obtain ⟨s, hse⟩ : ∃ s, isum (l.take k) = s := ⟨_, rfl⟩
    rw [hse] at HSX s0 s1
    have hsk := HSk.out
    rw [hse] at hsk
    have HC := Lib.hid (reached_any x s d bs bd wr hsk HDk.out HNE.out ⟨s0, by omega⟩ ⟨x0, by omega⟩)
    have HSX2 := Lib.hid hsk
    have HBN : Hid (Below wa.heap.size wa (wr.setCell ⟨bs, 0, none⟩ (.int .i64 (s + x)))) := Lib.hid (HBk.out.setCell hbs _)
    have HSN : Hid (Blk (wr.setCell ⟨bs, 0, none⟩ (.int .i64 (s + x))) bs 3 #[.int .i64 (isum (l.take (k + 1)))]) := Lib.hid (by rw [HSX.out]; exact hsk.set 0 (.int .i64 (s + x)))
    have HDN : Hid ((wr.setCell ⟨bs, 0, none⟩ (.int .i64 (s + x))).cell? ⟨bd, 0, none⟩ = some (.int .i64 d)) := Lib.hid (by
      rw [World.cell?_of_block (w := wr) (a := ⟨bd, 0, none⟩) (Below.heap_setCell wr ⟨bs, 0, none⟩ _ bd HNE.out)]
      exact HDk.out)
    generalize wr.setCell ⟨bs, 0, none⟩ (.int .i64 (s + x)) = w9 at *
    clear hx hse hsk
    obtain ⟨v, hv⟩ : ∃ v, decide (d < s + x) = v := ⟨_, rfl⟩
    rw [hv] at HC
    have HV := Lib.hid hv
    clear hv
    go_wp2_with fail
    refine HC.out.mono ?_
    rintro e w1 ⟨rfl, rfl⟩
    clear c0 c0l
    cases v with
    | false =>
      go_wp2
      go_roundw
      case rel => exact ⟨k + 1, by omega, by go_num, HBN.out, HSN.out, HDN.out, fun j hj => by
        have hv := of_decide_eq_false HV.out
        rcases Nat.lt_or_ge k j with h | h
        · obtain rfl : j = k + 1 := by omega
          rw [HSX.out]; omega
        · exact HLE.out j h⟩
      case measure => first | (simp [intOf]; done) | (simp [intOf]; omega)
    | true =>
      have hw := HWX.out HLE.out (by rw [HSX.out]; exact of_decide_eq_true HV.out)
      have HWK := Lib.hid hw
      clear hw
      go_wp2
      go_ret
      rw [HWK.out]
      exact ⟨rfl, HBN.out⟩
  case neg =>
  obtain rfl : k = l.length := by omega
  have := HLE.out l.length (Nat.le_refl _)
  rw [HSL.out] at this
  omega
/-- A winner at all arguments. -/
def wnE (l : List Int) (d : Int) : Int := if listB l = true ∧ 0 ≤ d ∧ d ≤ 719 then 0 else 1
def wnV (l : List Int) (d : Int) : Int := if listB l = true ∧ 0 ≤ d ∧ d ≤ 719 then wnr l d else 0
set_option maxHeartbeats 8000000 in
theorem lwinner_any (A : Option Addr) (c : Nat) (l : List Int) (d : Int) (w : World) (hA : Ints w A l) (hlen : l.length ≤ 9223372036854775807) :
    Calls Tryz.prog 40 #[.slice A l.length c, .int .i64 d] w fun e w' => e = .returned (.tuple #[.int .i64 (wnV l d), .int .i64 (wnE l d)]) ∧ Below w.heap.size w w' := by
  obtain ⟨w0, hw0⟩ : ∃ w0, w.alloc (.cells #[.int .i64 d] 3) = w0 := ⟨_, rfl⟩
  have HB0 : Hid (Below w.heap.size w w0) := Lib.hid (by rw [← hw0]; exact below_alloc (Below.refl _ _) _)
  have HSZ : Hid (w0.heap.size = w.heap.size + 1) := Lib.hid (by rw [← hw0]; simp)
  have HD : Hid (∀ W, Below w0.heap.size w0 W → W.cell? ⟨w.heap.size, 0, none⟩ = some (.int .i64 d)) := Lib.hid (fun W hW => by
    have h1 : Blk w0 w.heap.size 3 #[.int .i64 d] := by rw [← hw0]; exact Blk.new w _ _ _ rfl
    exact kept_cell hW (h1.of_cell (i := 0) rfl))
  have HL := Lib.hid (llist_any A c l w0 (hA.below HB0.out) hlen)
  have HW1 : Hid (∀ W : World, _) := Lib.hid (fun W => lwithin_one 0 719 d W)
  have HA := Lib.hid (hA.below HB0.out)
  obtain ⟨b1, hb1⟩ : ∃ b, listB l = b := ⟨_, rfl⟩
  obtain ⟨b2, hb2⟩ : ∃ b, decide (0 ≤ d ∧ d ≤ 719) = b := ⟨_, rfl⟩
  rw [hb1] at HL
  rw [hb2] at HW1
  have HH1 := Lib.hid hb1
  have HH2 := Lib.hid hb2
  have HW0 := Lib.hid hw0
  clear hA hb1 hb2 hw0
  cases b1
  case false =>
    have hr : wnV l d = 0 ∧ wnE l d = 1 := by
      unfold wnV wnE
      rw [if_neg (fun h => by rw [HH1.out] at h; exact absurd h.1 (by decide)), if_neg (fun h => by rw [HH1.out] at h; exact absurd h.1 (by decide))]
      exact ⟨rfl, rfl⟩
    rw [hr.1, hr.2]
    clear hr
    go_enter Tryz.func40, Tryz.ntmps40
    go_wp2_with fail
    have hw0 := HW0.out
    rw [hw0]
    clear hw0
    refine HL.out.mono ?_
    rintro e w1 ⟨rfl, hb⟩
    have HB1 := Lib.hid (below_trans HB0.out hb)
    clear hb
    go_wp2
    go_ret2
    exact ⟨rfl, HB1.out⟩
  case true =>
  cases b2
  case false =>
    have h2 := of_decide_eq_false HH2.out
    have hr : wnV l d = 0 ∧ wnE l d = 1 := by
      unfold wnV wnE
      rw [if_neg (fun h => h2 h.2), if_neg (fun h => h2 h.2)]
      exact ⟨rfl, rfl⟩
    rw [hr.1, hr.2]
    clear hr h2
    go_enter Tryz.func40, Tryz.ntmps40
    go_wp2_with fail
    have hw0 := HW0.out
    rw [hw0]
    clear hw0
    refine HL.out.mono ?_
    rintro e w1 ⟨rfl, hb⟩
    have HX1 := Lib.hid hb
    clear hb
    have d0 := HD.out w1 HX1.out
    have dl := lt_of_cell d0
    go_wp2_with fail
    refine (HW1.out w1).mono ?_
    rintro e w2 ⟨rfl, hb⟩
    have HB2 := Lib.hid (below_trans HB0.out (below_trans HX1.out hb))
    clear hb d0 dl
    go_wp2
    go_ret2
    exact ⟨rfl, HB2.out⟩
  case true =>
  have h2 := of_decide_eq_true HH2.out
  have hr : wnV l d = wnr l d ∧ wnE l d = 0 := by
    unfold wnV wnE
    rw [if_pos ⟨HH1.out, h2⟩, if_pos ⟨HH1.out, h2⟩]
    exact ⟨rfl, rfl⟩
  rw [hr.1, hr.2]
  obtain ⟨d0', d1'⟩ := h2
  clear hr
  have HIX : Hid (∀ (W : World), Below w0.heap.size w0 W → Calls Tryz.prog 86 #[.slice A l.length c, .func (.func 85) #[] #[.pointer (some ⟨W.heap.size, 0, none⟩), .pointer (some ⟨w.heap.size, 0, none⟩)]] (W.alloc (.cells #[.int .i64 0] 3)) fun e w' => e = .returned (.int .i64 (wnr l d)) ∧ Below w0.heap.size w0 w') := Lib.hid (fun W hW => by
    have hz := hW.size
    have h1 := idxV_any A c l d W.heap.size w.heap.size W (W.alloc (.cells #[.int .i64 0] 3)) (HA.out.below hW) (below_alloc (Below.refl _ _) _) (Nat.le_refl _) (Blk.new W _ _ _ rfl) (kept_cell (below_alloc (Below.refl _ _) _) (HD.out W hW)) (by have := HSZ.out; omega) HH1.out d0' d1'
    exact h1.mono fun _ _ ⟨he, hb⟩ => ⟨he, below_trans hW hb⟩)
  generalize wnr l d = wn at *
  go_enter Tryz.func40, Tryz.ntmps40
  go_wp2_with fail
  have hw0 := HW0.out
  rw [hw0]
  clear hw0
  refine HL.out.mono ?_
  rintro e w1 ⟨rfl, hb⟩
  have HX1 := Lib.hid hb
  clear hb
  have d0 := HD.out w1 HX1.out
  have dl := lt_of_cell d0
  go_wp2_with fail
  refine (HW1.out w1).mono ?_
  rintro e w2 ⟨rfl, hb⟩
  have HX2 := Lib.hid (below_trans HX1.out hb)
  clear hb d0 dl
  go_wp2_with fail
  refine (HIX.out w2 HX2.out).mono ?_
  rintro e w3 ⟨rfl, hb⟩
  have HB3 := Lib.hid (HB0.out.trans (hb.mono (by have := HSZ.out; omega)))
  clear hb
  go_wp2
  go_ret2
  exact ⟨rfl, HB3.out⟩
end

section
open Go.RowKit

theorem range_succ_sum (f : Nat → Int) (m : Nat) : isum ((List.range (m + 1)).map f) = isum ((List.range m).map f) + f m := by
  rw [List.range_succ, List.map_append, isum_append]
  simp [isum]
theorem sum_upd (f f' : Nat → Int) (p0 : Nat) (x : Int) (h0 : f' p0 = f p0 + x) (h : ∀ p, p ≠ p0 → f' p = f p) (m : Nat) : isum ((List.range m).map f') = isum ((List.range m).map f) + (if p0 < m then x else 0) := by
  induction m with
  | zero => simp [isum]
  | succ m ih =>
    rw [range_succ_sum, range_succ_sum, ih]
    by_cases hp : m = p0
    · subst hp
      rw [h0, if_neg (Nat.lt_irrefl _), if_pos (Nat.lt_succ_self _)]
      omega
    · rw [h m hp]
      by_cases h1 : p0 < m
      · rw [if_pos h1, if_pos (by omega)]; omega
      · rw [if_neg h1, if_neg (by omega)]; omega
/-- The tickets of a partner's requests below j. -/
def part (sh ow me : List Int) (p : Int) (j : Nat) : Int := isum ((ids ow p j).map (tkAt sh ow me))
theorem parts_sum {sh ow me : List Int} (h : lvalB sh ow me = true) (j : Nat) (hj : j ≤ ow.length) : isum ((List.range j).map (tkAt sh ow me)) = isum ((List.range sh.length).map fun (p : Nat) => part sh ow me (p : Int) j) := by
  obtain ⟨-, -, how, -⟩ := lval_of h
  induction j with
  | zero =>
    have : ∀ m : Nat, isum ((List.range m).map fun (p : Nat) => part sh ow me (p : Int) 0) = 0 := fun m => by
      induction m with
      | zero => rfl
      | succ m ih => rw [range_succ_sum, ih]; rfl
    rw [this]
    rfl
  | succ j ih =>
    obtain ⟨p, hp⟩ := get_some ow j (by omega)
    have hpr := how p (List.mem_of_getElem? hp)
    have e := sum_upd (fun (p : Nat) => part sh ow me (p : Int) j) (fun (p : Nat) => part sh ow me (p : Int) (j + 1)) p.toNat (tkAt sh ow me j) (by
      have hpp : ((p.toNat : Nat) : Int) = p := by omega
      simp only [part]
      rw [hpp, ids, if_pos hp, List.map_append, isum_append]
      simp [isum]) (fun q hq => by
      simp only [part]
      rw [ids, if_neg (fun e => by rw [hp] at e; have := Option.some.inj e; omega)]) sh.length
    rw [range_succ_sum, ih (by omega), e, if_pos (by omega)]
theorem shr_sum (total : Nat) {ws : List Int} (hw : ∀ x, x ∈ ws → 0 ≤ x) (h1 : 0 < ws.length) : isum (shr total ws) = total := (BInv.all ws hw h1 total).sum
theorem part_all {sh ow me : List Int} (h : lvalB sh ow me = true) (h1 : 1 ≤ ow.length) (p : Nat) (hp : p < sh.length) : some (part sh ow me (p : Int) ow.length) = (tots sh ow)[p]? := by
  obtain ⟨t1, t2, t3⟩ := tots_ok h h1
  obtain ⟨⟨a, b, c, d⟩, hs, ho, hm⟩ := lval_of h
  by_cases hne : ids ow (p : Int) ow.length = []
  · have hw := wgt_mem h ow.length
    have hb := BInv.all (wgt sh ow ow.length) (fun x hx => (hw x hx).1) (by rw [wgt_len]; omega) 720
    have hpos : ∃ x, x ∈ wgt sh ow ow.length ∧ 0 < x := by
      apply Classical.byContradiction
      intro hc
      have hz : imx (wgt sh ow ow.length) = 0 := by
        apply Classical.byContradiction
        intro h2
        unfold shE at t1
        by_cases h3 : imx (wgt sh ow ow.length) = 0
        · exact h2 h3
        · have hall : ∀ (i : Nat) (x : Int), (wgt sh ow ow.length)[i]? = some x → x = 0 := fun i x hx => by
            have hm' := List.mem_of_getElem? hx
            have := (hw x hm').1
            apply Classical.byContradiction
            intro h4
            exact hc ⟨x, hm', by omega⟩
          have hk : ∀ k, mxK (wgt sh ow ow.length) k = 0 := fun k => by
            induction k with
            | zero =>
              rw [mxK]
              cases hi : (wgt sh ow ow.length)[0]? with
              | none => rfl
              | some x => rw [hall 0 x hi]; rfl
            | succ k ih =>
              rw [mxK, ih]
              cases hi : (wgt sh ow ow.length)[k + 1]? with
              | none => rfl
              | some x => rw [hall _ x hi]; rfl
          exact h3 (hk _)
      unfold shE at t1
      rw [if_pos ⟨by rw [wgt_len]; exact a, by rw [wgt_len]; omega, List.all_eq_true.2 (fun x hx => decide_eq_true (by have := hw x hx; omega)), by decide, by decide⟩, if_pos ⟨hz, by decide⟩] at t1
      cases t1
    obtain ⟨q, hq⟩ := get_some (bmpN (ini (wgt sh ow ow.length)) 720) p (by rw [hb.len, wgt_len]; exact hp)
    obtain ⟨g1, -, -⟩ := hb.at_ p q hq
    have hq1 : q.1 = 0 := by
      simp only [wgt, List.getElem?_map, List.getElem?_range hp, Option.map_some] at g1
      rw [if_pos hne] at g1
      exact (Option.some.inj g1).symm
    have hq2 := hb.zero hpos p q hq hq1
    have e1 : (tots sh ow)[p]? = some q.2 := by unfold tots shr; rw [List.getElem?_map, hq]; rfl
    rw [e1, hq2]
    unfold part
    rw [hne]
    rfl
  · obtain ⟨s1, s2, s3, t, ht, ht0, ht1⟩ := seats_ok h hne
    rw [Int.toNat_natCast] at ht
    have hl : (ids ow (p : Int) ow.length).map (tkAt sh ow me) = seatsOf sh ow me (p : Int) := by
      apply List.ext_getElem?
      intro k
      by_cases hk : k < (ids ow (p : Int) ow.length).length
      · obtain ⟨i, hi⟩ := get_some (ids ow (p : Int) ow.length) k hk
        rw [List.getElem?_map, hi, tkAt_ids h hi]
        rfl
      · rw [List.getElem?_eq_none (by simp; omega), List.getElem?_eq_none (by omega)]
    unfold part
    rw [hl, ht]
    unfold seatsOf
    rw [Int.toNat_natCast, ht, Option.getD_some, shr_sum _ (fun x hx => by have := mers_ok h (p : Int) x hx; omega) (by simp only [mers, List.length_map]; exact List.length_pos_iff.2 hne)]
    rw [Int.toNat_of_nonneg ht0]
theorem isum_range_eq (l : List Int) : isum ((List.range l.length).map fun p => l[p]?.getD 0) = isum l := by
  congr 1
  apply List.ext_getElem?
  intro i
  by_cases h : i < l.length
  · simp [h]
  · simp [h]
theorem tkts_list {sh ow me : List Int} (h : lvalB sh ow me = true) (h1 : 1 ≤ ow.length) : listB (tkts sh ow me) = true := by
  obtain ⟨t1, t2, t3⟩ := tots_ok h h1
  obtain ⟨⟨a, b, c, d⟩, hs, ho, hm⟩ := lval_of h
  have hsum : isum (tkts sh ow me) = 720 := by
    unfold tkts
    rw [parts_sum h ow.length (Nat.le_refl _)]
    have e : ((List.range sh.length).map fun (p : Nat) => part sh ow me (p : Int) ow.length) = (List.range (tots sh ow).length).map fun p => (tots sh ow)[p]?.getD 0 := by
      rw [t2]
      apply List.map_congr_left
      intro p hp
      rw [← part_all h h1 p (List.mem_range.1 hp)]
      rfl
    rw [e, isum_range_eq]
    unfold tots
    exact shr_sum 720 (fun x hx => (wgt_mem h _ x hx).1) (by rw [wgt_len]; omega)
  have hall : ∀ x, x ∈ tkts sh ow me → 0 ≤ x ∧ x ≤ 720 := fun x hx => by
    obtain ⟨i, hi, rfl⟩ := List.mem_map.1 hx
    have hi := List.mem_range.1 hi
    obtain ⟨p, hp⟩ := get_some ow i hi
    obtain ⟨k, hk⟩ := List.getElem?_of_mem (ids_of hi hp)
    have hs' := tkAt_ids h hk
    have hne : ids ow p ow.length ≠ [] := fun e => by rw [e] at hk; simp at hk
    obtain ⟨s1, s2, s3, t, ht, ht0, ht1⟩ := seats_ok h hne
    unfold seatsOf at hs'
    rw [ht, Option.getD_some] at hs'
    have hb := BInv.all (mers ow me p) (fun x hx => by have := mers_ok h p x hx; omega) (by simp only [mers, List.length_map]; exact List.length_pos_iff.2 hne) t.toNat
    unfold shr at hs'
    rw [List.getElem?_map] at hs'
    obtain ⟨q, hq, e⟩ := Option.map_eq_some_iff.1 hs'
    have := (hb.at_ k q hq).2
    rw [← e]
    omega
  unfold listB witB
  rw [decide_eq_true (show 1 ≤ (tkts sh ow me).length ∧ (tkts sh ow me).length ≤ 200 by simp only [tkts, List.length_map, List.length_range]; omega), decide_eq_true hsum, List.all_eq_true.2 (fun x hx => decide_eq_true (hall x hx))]
  rfl

/-! ### how often a request wins -/
def wct (l : List Int) (c : Int) (j : Nat) : Nat → Int
  | 0 => 0
  | s + 1 => wct l c j s + (if wnr l ((c + s) % 720) = j then 1 else 0)
theorem wct_shift (l : List Int) (c : Int) (j : Nat) (m : Nat) : wct l (c + 1) j m + (if wnr l (c % 720) = j then 1 else 0) = wct l c j m + (if wnr l ((c + m) % 720) = j then 1 else 0) := by
  induction m with
  | zero => simp [wct]
  | succ m ih =>
    simp only [wct]
    have e : c + 1 + (m : Int) = c + ((m + 1 : Nat) : Int) := by omega
    rw [e]
    omega
theorem wct_turn (l : List Int) (c : Int) (j : Nat) : wct l (c + 1) j 720 = wct l c j 720 := by
  have := wct_shift l c j 720
  have e : (c + ((720 : Nat) : Int)) % 720 = c % 720 := by omega
  rw [e] at this
  omega
theorem wct_zero (l : List Int) (c : Nat) (j : Nat) : wct l (c : Int) j 720 = wct l 0 j 720 := by
  induction c with
  | zero => rfl
  | succ c ih =>
    have := wct_turn l (c : Int) j
    rw [show ((c + 1 : Nat) : Int) = (c : Int) + 1 by omega, this, ih]
theorem wnr_iff {l : List Int} (h : listB l = true) {d : Int} (h0 : 0 ≤ d) (h1 : d ≤ 719) (j : Nat) (hj : j < l.length) : wnr l d = j ↔ isum (l.take j) ≤ d ∧ d < isum (l.take (j + 1)) := by
  obtain ⟨hl, hx, hs⟩ := listB_of h
  have mono : ∀ (a b : Nat), a ≤ b → isum (l.take a) ≤ isum (l.take b) := fun a b hab => by
    induction b with
    | zero =>
      obtain rfl : a = 0 := by omega
      exact Int.le_refl _
    | succ b ih =>
      by_cases hb : a ≤ b
      · have := ih hb
        by_cases hbl : b < l.length
        · obtain ⟨x, hxx⟩ := get_some l b hbl
          have := hx b x hxx
          rw [isum_take l b x hxx]
          omega
        · rw [List.take_of_length_le (show l.length ≤ b + 1 by omega)]
          rw [List.take_of_length_le (show l.length ≤ b by omega)] at this
          exact this
      · obtain rfl : a = b + 1 := by omega
        exact Int.le_refl _
  obtain ⟨xj, hxj⟩ := get_some l j hj
  have dir : ∀ (k : Nat), k < l.length → isum (l.take k) ≤ d → d < isum (l.take (k + 1)) → wnr l d = k := fun k hk h2 h3 => by
    obtain ⟨x, hxx⟩ := get_some l k hk
    exact wnr_at l d k x hxx (fun i hi => by have := mono i k hi; omega) h3
  constructor
  · intro he
    -- the place that d has
    have hex : ∃ k, k < l.length ∧ isum (l.take k) ≤ d ∧ d < isum (l.take (k + 1)) := by
      have step : ∀ m, m ≤ l.length → isum (l.take m) ≤ d ∨ ∃ k, k < m ∧ isum (l.take k) ≤ d ∧ d < isum (l.take (k + 1)) := fun m => by
        induction m with
        | zero => intro _; left; simpa [isum] using h0
        | succ m ih =>
          intro hm
          rcases ih (by omega) with h2 | ⟨k, hk, h2⟩
          · by_cases h3 : isum (l.take (m + 1)) ≤ d
            · exact .inl h3
            · exact .inr ⟨m, Nat.lt_succ_self _, h2, by omega⟩
          · exact .inr ⟨k, by omega, h2⟩
      rcases step l.length (Nat.le_refl _) with h2 | h2
      · rw [List.take_length, hs] at h2
        omega
      · exact h2
    obtain ⟨k, hk, h2, h3⟩ := hex
    have := dir k hk h2 h3
    rw [he] at this
    subst this
    exact ⟨h2, h3⟩
  · exact fun ⟨h2, h3⟩ => dir j hj h2 h3
theorem wct_below {l : List Int} (h : listB l = true) (j : Nat) (hj : j < l.length) (m : Nat) (hm : m ≤ 720) : wct l 0 j m = (if (m : Int) ≤ isum (l.take j) then 0 else if (m : Int) ≤ isum (l.take (j + 1)) then (m : Int) - isum (l.take j) else isum (l.take (j + 1)) - isum (l.take j)) := by
  obtain ⟨hl, hx, hs⟩ := listB_of h
  have h0 := (isum_le hx j).1
  obtain ⟨x, hxx⟩ := get_some l j hj
  have hxr := hx j x hxx
  have e := isum_take l j x hxx
  induction m with
  | zero => rw [if_pos (by omega)]; rfl
  | succ m ih =>
    have ih := ih (by omega)
    have hmod : (0 + (m : Int)) % 720 = m := by omega
    rw [wct, ih, hmod]
    have hw := wnr_iff h (d := (m : Int)) (by omega) (by omega) j hj
    by_cases hc : wnr l (m : Int) = j
    · rw [if_pos hc]
      have := hw.1 hc
      split <;> (try split) <;> (try split) <;> (try split) <;> omega
    · rw [if_neg hc]
      have h2 : ¬ (isum (l.take j) ≤ (m : Int) ∧ (m : Int) < isum (l.take (j + 1))) := fun h3 => hc (hw.2 h3)
      split <;> (try split) <;> (try split) <;> (try split) <;> omega
/-- Each request wins as often as it has tickets. -/
theorem wct_all {l : List Int} (h : listB l = true) (c : Nat) (j : Nat) (x : Int) (hx : l[j]? = some x) : wct l (c : Int) j 720 = x := by
  have hj := (List.getElem?_eq_some_iff.1 hx).1
  obtain ⟨hl, hxs, hs⟩ := listB_of h
  have := isum_le hxs (j + 1)
  have e := isum_take l j x hx
  have hxr := hxs j x hx
  rw [wct_zero, wct_below h j hj 720 (Nat.le_refl _)]
  split
  · omega
  · split <;> omega
def winsK (l : List Int) (c : Int) (s : Nat) : List Int := (List.range l.length).map fun j => wct l c j s
theorem winsK_0 (l : List Int) (c : Int) : winsK l c 0 = List.replicate l.length 0 := by
  apply List.ext_getElem?
  intro j
  by_cases h : j < l.length <;> simp [winsK, wct, h]
theorem winsK_len (l : List Int) (c : Int) (s : Nat) : (winsK l c s).length = l.length := by simp [winsK]
theorem winsK_all {l : List Int} (h : listB l = true) (c : Nat) : winsK l (c : Int) 720 = l := by
  apply List.ext_getElem?
  intro j
  by_cases hj : j < l.length
  · obtain ⟨x, hx⟩ := get_some l j hj
    simp only [winsK, List.getElem?_map, List.getElem?_range hj, Option.map_some]
    rw [wct_all h c j x hx, hx]
  · rw [List.getElem?_eq_none (by simp [winsK]; omega), List.getElem?_eq_none (by omega)]
theorem winsK_set (l : List Int) (c : Int) (s : Nat) (v : Int) (hv : (winsK l c s)[wnr l ((c + s) % 720)]? = some v) : (winsK l c s).set (wnr l ((c + s) % 720)) (v + 1) = winsK l c (s + 1) := by
  obtain ⟨q, hq⟩ : ∃ q, wnr l ((c + s) % 720) = q := ⟨_, rfl⟩
  rw [hq] at hv ⊢
  apply List.ext_getElem?
  intro j
  by_cases hj : j < l.length
  · by_cases hjq : j = q
    · subst hjq
      rw [List.getElem?_set_self (by rw [winsK_len]; exact hj)]
      simp only [winsK, List.getElem?_map, List.getElem?_range hj, Option.map_some] at hv ⊢
      rw [wct, if_pos hq, Option.some.inj hv]
    · rw [List.getElem?_set_ne (fun e => hjq e.symm)]
      simp only [winsK, List.getElem?_map, List.getElem?_range hj, Option.map_some]
      rw [wct, if_neg (fun e => hjq (by rw [← e, hq])), Int.add_zero]
  · rw [List.getElem?_eq_none (by rw [List.length_set, winsK_len]; omega), List.getElem?_eq_none (by rw [winsK_len]; omega)]
end

section
open Go.RowKit

theorem Rd_of_blk {w : World} {g T size n : Nat} {cs : Array Value} (h : Blk w g T cs) (hn : cs.size = n * size) : Rd w size (some ⟨g, 0, none⟩) n cs.toList :=
  ⟨by simpa using hn, fun _ => ⟨g, 0, rfl, fun j u hu => by
    rw [Nat.zero_add, h.cell]
    rw [Array.getElem?_toList] at hu
    exact hu⟩⟩
theorem blk_typed {w w' : World} {g T : Nat} {cs : Array Value} (h : Blk w g T cs) (hk : ∀ (b : Nat) (cs : Array Value), w.heap[b]? = some (.cells cs T (0, 0)) → w'.heap[b]? = w.heap[b]?) : Blk w' g T cs := (hk g cs h).trans h
/-- What of other types lay in a world, lies on. -/
def TyK (a w : World) : Prop := ∀ (T : Nat), (T = 9 ∨ T = 50) → ∀ (b : Nat) (cs : Array Value), a.heap[b]? = some (.cells cs T (0, 0)) → w.heap[b]? = a.heap[b]?
theorem TyK.refl (a : World) : TyK a a := fun _ _ _ _ _ => rfl
theorem TyK.below {a w w' : World} (h : TyK a w) (hb : Below w.heap.size w w') : TyK a w' := fun T hT b cs hcs => by
  have h1 := h T hT b cs hcs
  have h2 : w.heap[b]? = some (.cells cs T (0, 0)) := h1.trans hcs
  exact (hb.block b (Array.getElem?_eq_some_iff.1 h2).1).trans h1
theorem TyK.then_ {a w w' : World} (h : TyK a w) (hk : ∀ (T : Nat), (T = 9 ∨ T = 50) → ∀ (b : Nat) (cs : Array Value), w.heap[b]? = some (.cells cs T (0, 0)) → w'.heap[b]? = w.heap[b]?) : TyK a w' := fun T hT b cs hcs => by
  have h1 := h T hT b cs hcs
  exact (hk T hT b cs (h1.trans hcs)).trans h1
/-- The three rows that w11Wins fills, and what waits to be appended. -/
structure Rows3 (B : Nat) (a aS wr : World) (nc no nk : Nat) (uc uo uk : Value) (xc xo xk : List Value) (pc po pk : Option Nat) (yc yo yk : Array Value) : Prop where
  b : Below B a wr
  hB : B ≤ wr.heap.size
  rc : wr.ownsRow B 29 2 uc nc xc
  ro : wr.ownsRow B 32 4 uo no xo
  rk : wr.ownsRow B 33 1 uk nk xk
  bc : ∀ g, pc = some g → Blk wr g 29 yc
  bo : ∀ g, po = some g → Blk wr g 32 yo
  bk : ∀ g, pk = some g → Blk wr g 33 yk
  ty : TyK aS wr
theorem Rows3.below {B : Nat} {a aS wr w' : World} {nc no nk : Nat} {uc uo uk : Value} {xc xo xk : List Value} {pc po pk : Option Nat} {yc yo yk : Array Value} (h : Rows3 B a aS wr nc no nk uc uo uk xc xo xk pc po pk yc yo yk) (hb : Below wr.heap.size wr w') : Rows3 B a aS w' nc no nk uc uo uk xc xo xk pc po pk yc yo yk :=
  ⟨h.b.trans (hb.mono h.hB), Nat.le_trans h.hB hb.size, row_below h.rc hb, row_below h.ro hb, row_below h.rk hb, fun g e => (hb.block g (h.bc g e).lt).trans (h.bc g e), fun g e => (hb.block g (h.bo g e).lt).trans (h.bo g e), fun g e => (hb.block g (h.bk g e).lt).trans (h.bk g e), h.ty.below hb⟩
theorem Rows3.drew {B : Nat} {a aS wr : World} {nc no nk : Nat} {uc uo uk : Value} {xc xo xk : List Value} {pc po pk : Option Nat} {yc yo yk : Array Value} (h : Rows3 B a aS wr nc no nk uc uo uk xc xo xk pc po pk yc yo yk) : Rows3 B a aS (World.drew wr) nc no nk uc uo uk xc xo xk pc po pk yc yo yk :=
  ⟨h.b.drew, h.hB, h.rc, h.ro, h.rk, h.bc, h.bo, h.bk, h.ty⟩
theorem Rows3.start {B : Nat} {a aS wr : World} {nc no nk : Nat} {uc uo uk : Value} {xc xo xk : List Value} {yc yo yk : Array Value} (h : Rows3 B a aS wr nc no nk uc uo uk xc xo xk none none none yc yo yk) (aS' : World) (ht : TyK aS' wr) (yc' yo' yk' : Array Value) : Rows3 B a aS' wr nc no nk uc uo uk xc xo xk none none none yc' yo' yk' :=
  ⟨h.b, h.hB, h.rc, h.ro, h.rk, fun g e => (by cases e), fun g e => (by cases e), fun g e => (by cases e), ht⟩
theorem Rows3.forget {B : Nat} {a aS wr : World} {nc no nk : Nat} {uc uo uk : Value} {xc xo xk : List Value} {yc yo yk : Array Value} (h : Rows3 B a aS wr nc no nk uc uo uk xc xo xk none none none yc yo yk) : Rows3 B a aS wr nc no nk uc uo uk xc xo xk none none none #[] #[] #[] := h.start aS h.ty _ _ _
theorem Rows3.uclt {B : Nat} {a aS wr : World} {nc no nk : Nat} {uc uo uk : Value} {xc xo xk : List Value} {pc po pk : Option Nat} {yc yo yk : Array Value} (h : Rows3 B a aS wr nc no nk uc uo uk xc xo xk pc po pk yc yo yk) (n : Nat) (hn : wr.heap.size ≤ n) : (∀ g, uc.ownBlock = some g → g < n) ∧ (∀ g, uo.ownBlock = some g → g < n) ∧ ∀ g, uk.ownBlock = some g → g < n :=
  ⟨fun g e => Nat.lt_of_lt_of_le (h.rc.lt g e).2 hn, fun g e => Nat.lt_of_lt_of_le (h.ro.lt g e).2 hn, fun g e => Nat.lt_of_lt_of_le (h.rk.lt g e).2 hn⟩
theorem Blk.grown_ {w w' : World} {g T : Nat} {cs : Array Value} (h : Blk w g T cs) {u : Value} (hg : w.grownBy w' u.ownBlock) {n : Nat} (hu : ∀ g, u.ownBlock = some g → g < n) (hn : n ≤ g) : Blk w' g T cs :=
  (hg.block g h.lt (fun e => by have := hu g e.symm; omega)).trans h
/-- The rows behind some keepers. -/
structure W1Inv (l : List Kr) (need : Int) (i : Nat) (cl : Nat → Bool) (w wr : World) (j : Nat) (uc uo uk : Value) (os : List Og) (ks : List Kw) : Prop where
  r : Rows3 w.heap.size w wr wr j j j uc uo uk (((l.take j).map (cmK l.length need)).flatMap cmC) (os.flatMap ogC) (ks.flatMap kwC) none none none #[] #[] #[]
  h : HonOk l need.toNat i j cl os ks
  m : NightMem wr os ks
theorem W1Inv.zero (l : List Kr) (need : Int) (i : Nat) (cl : Nat → Bool) (w wr : World) (hb : Below w.heap.size w wr) : W1Inv l need i cl w wr 0 (.slice none 0 0) (.slice none 0 0) (.slice none 0 0) [] [] :=
  ⟨⟨hb, hb.size, World.ownsRow_nil _ _ _ _, World.ownsRow_nil _ _ _ _, World.ownsRow_nil _ _ _ _, fun g e => (by cases e), fun g e => (by cases e), fun g e => (by cases e), TyK.refl _⟩, ⟨rfl, rfl, fun q kr hq => by omega, fun q kr hq => by omega⟩, ⟨fun o ho => (by cases ho), fun a ha => (by cases ha)⟩⟩
theorem W1Inv.next {l : List Kr} {need : Int} {i : Nat} {cl : Nat → Bool} {w wr w10 w' : World} {j : Nat} {uc uo uk vc vo vk : Value} {os : List Og} {ks : List Kw} (h : W1Inv l need i cl w wr j uc uo uk os ks) (hb : Below wr.heap.size wr w10) {kr : Kr} (hkr : l[j]? = some kr) {o : Og} {a : Kw} {yc yo yk : Array Value}
    (hr : Rows3 w.heap.size w w10 w' (j + 1) (j + 1) (j + 1) vc vo vk (((l.take j).map (cmK l.length need)).flatMap cmC ++ yc.toList) (os.flatMap ogC ++ yo.toList) (ks.flatMap kwC ++ yk.toList) none none none yc yo yk)
    (hyc : yc.toList = cmC (cmK l.length need kr)) (hyo : yo.toList = ogC o) (hyk : yk.toList = kwC a) (ho : if cl j then o = zOgT else ∃ A c, o = ogOf kr i A c) (hp : PathIn w10 o.A o.p) (hc : o.p.length ≤ o.c) (ha : KwT w10 a) (hks : KpsOk kr need.toNat l.length i l.length a.l) :
    W1Inv l need i cl w w' (j + 1) vc vo vk (os ++ [o]) (ks ++ [a]) := by
  have e1 : (l.take (j + 1)).map (cmK l.length need) = (l.take j).map (cmK l.length need) ++ [cmK l.length need kr] := by rw [List.take_add_one, hkr]; simp
  have hm10 := (h.m.below hb).keep (fun b cs hcs => hr.ty _ (.inl rfl) b cs hcs) (fun b cs hcs => hr.ty _ (.inr rfl) b cs hcs)
  refine ⟨?_, ⟨by rw [List.length_append, h.h.ol]; rfl, by rw [List.length_append, h.h.kl]; rfl, fun q x hq hx => ?_, fun q x hq hx => ?_⟩, fun p hpm => ?_, fun p hpm => ?_⟩
  · rw [hyc, hyo, hyk] at hr
    rw [e1, List.flatMap_append, List.flatMap_append, List.flatMap_append]
    exact (Rows3.start (by simpa using hr.forget) w' (TyK.refl _) #[] #[] #[])
  · by_cases hqj : q < j
    · rw [List.getElem?_append_left (by rw [h.h.ol]; exact hqj)]
      exact h.h.o q x hqj hx
    · obtain rfl : q = j := by omega
      rw [hkr] at hx
      cases hx
      rw [List.getElem?_append_right (by rw [h.h.ol]; exact Nat.le_refl _), h.h.ol, Nat.sub_self, List.getElem?_cons_zero]
      cases hcq : cl q with
      | true => rw [hcq, if_pos rfl] at ho; rw [if_pos rfl, ho]
      | false =>
        rw [hcq, if_neg (by decide)] at ho
        obtain ⟨A, c, rfl⟩ := ho
        exact ⟨A, c, rfl⟩
  · by_cases hqj : q < j
    · rw [List.getElem?_append_left (by rw [h.h.kl]; exact hqj)]
      exact h.h.k q x hqj hx
    · obtain rfl : q = j := by omega
      rw [hkr] at hx
      cases hx
      exact ⟨a, by rw [List.getElem?_append_right (by rw [h.h.kl]; exact Nat.le_refl _), h.h.kl, Nat.sub_self]; rfl, hks⟩
  · rcases List.mem_append.1 hpm with h1 | h1
    · exact hm10.1 p h1
    · rw [List.mem_singleton.1 h1]
      exact ⟨hp.keep fun b cs _ hcs => hr.ty _ (.inl rfl) _ cs hcs, hc⟩
  · rcases List.mem_append.1 hpm with h1 | h1
    · exact hm10.2 p h1
    · rw [List.mem_singleton.1 h1]
      exact ha.keep (fun b cs hcs => hr.ty _ (.inl rfl) b cs hcs) (fun b cs hcs => hr.ty _ (.inr rfl) b cs hcs)
theorem Rows3.allocC {B : Nat} {a aS wr : World} {nc no nk : Nat} {uc uo uk : Value} {xc xo xk : List Value} {pc po pk : Option Nat} {yc yo yk : Array Value} (h : Rows3 B a aS wr nc no nk uc uo uk xc xo xk pc po pk yc yo yk) (g0 : Nat) (hg0 : g0 = wr.heap.size) : Rows3 B a aS (wr.alloc (.cells yc 29)) nc no nk uc uo uk xc xo xk (some g0) po pk yc yo yk := by
  have M := h.below (below_alloc (Below.refl _ _) (.cells yc 29))
  exact ⟨M.b, M.hB, M.rc, M.ro, M.rk, fun g e => by cases e; exact Blk.new wr _ _ _ hg0, M.bo, M.bk, M.ty⟩
theorem Rows3.appC {B : Nat} {a aS wr : World} {nc no nk : Nat} {uc uo uk : Value} {xc xo xk : List Value} {pc po pk : Option Nat} {yc yo yk : Array Value} (h : Rows3 B a aS wr nc no nk uc uo uk xc xo xk pc po pk yc yo yk) {w' : World} {v : Value} (hown : w'.ownsRow B 29 2 v (nc + 1) (xc ++ yc.toList)) (hg : wr.grownBy w' uc.ownBlock) : Rows3 B a aS w' (nc + 1) no nk v uo uk (xc ++ yc.toList) xo xk none po pk yc yo yk :=
  ⟨h.b.grown hg h.hB (fun j hj => (h.rc.lt j hj).1), Nat.le_trans h.hB hg.size, hown, own_typed_keep h.ro (grown_typed h.rc hg (by decide)), own_typed_keep h.rk (grown_typed h.rc hg (by decide)), fun g e => (by cases e), fun g e => blk_typed (h.bo g e) (grown_typed h.rc hg (by decide)), fun g e => blk_typed (h.bk g e) (grown_typed h.rc hg (by decide)), h.ty.then_ (fun T hT => by
    rcases hT with rfl | rfl
    · exact grown_typed h.rc hg (by decide)
    · exact grown_typed h.rc hg (by decide))⟩
theorem Rows3.allocO {B : Nat} {a aS wr : World} {nc no nk : Nat} {uc uo uk : Value} {xc xo xk : List Value} {pc po pk : Option Nat} {yc yo yk : Array Value} (h : Rows3 B a aS wr nc no nk uc uo uk xc xo xk pc po pk yc yo yk) (g0 : Nat) (hg0 : g0 = wr.heap.size) : Rows3 B a aS (wr.alloc (.cells yo 32)) nc no nk uc uo uk xc xo xk pc (some g0) pk yc yo yk := by
  have M := h.below (below_alloc (Below.refl _ _) (.cells yo 32))
  exact ⟨M.b, M.hB, M.rc, M.ro, M.rk, M.bc, fun g e => by cases e; exact Blk.new wr _ _ _ hg0, M.bk, M.ty⟩
theorem Rows3.appO {B : Nat} {a aS wr : World} {nc no nk : Nat} {uc uo uk : Value} {xc xo xk : List Value} {pc po pk : Option Nat} {yc yo yk : Array Value} (h : Rows3 B a aS wr nc no nk uc uo uk xc xo xk pc po pk yc yo yk) {w' : World} {v : Value} (hown : w'.ownsRow B 32 4 v (no + 1) (xo ++ yo.toList)) (hg : wr.grownBy w' uo.ownBlock) : Rows3 B a aS w' nc (no + 1) nk uc v uk xc (xo ++ yo.toList) xk pc none pk yc yo yk :=
  ⟨h.b.grown hg h.hB (fun j hj => (h.ro.lt j hj).1), Nat.le_trans h.hB hg.size, own_typed_keep h.rc (grown_typed h.ro hg (by decide)), hown, own_typed_keep h.rk (grown_typed h.ro hg (by decide)), fun g e => blk_typed (h.bc g e) (grown_typed h.ro hg (by decide)), fun g e => (by cases e), fun g e => blk_typed (h.bk g e) (grown_typed h.ro hg (by decide)), h.ty.then_ (fun T hT => by
    rcases hT with rfl | rfl
    · exact grown_typed h.ro hg (by decide)
    · exact grown_typed h.ro hg (by decide))⟩
theorem Rows3.allocK {B : Nat} {a aS wr : World} {nc no nk : Nat} {uc uo uk : Value} {xc xo xk : List Value} {pc po pk : Option Nat} {yc yo yk : Array Value} (h : Rows3 B a aS wr nc no nk uc uo uk xc xo xk pc po pk yc yo yk) (g0 : Nat) (hg0 : g0 = wr.heap.size) : Rows3 B a aS (wr.alloc (.cells yk 33)) nc no nk uc uo uk xc xo xk pc po (some g0) yc yo yk := by
  have M := h.below (below_alloc (Below.refl _ _) (.cells yk 33))
  exact ⟨M.b, M.hB, M.rc, M.ro, M.rk, M.bc, M.bo, fun g e => by cases e; exact Blk.new wr _ _ _ hg0, M.ty⟩
theorem Rows3.appK {B : Nat} {a aS wr : World} {nc no nk : Nat} {uc uo uk : Value} {xc xo xk : List Value} {pc po pk : Option Nat} {yc yo yk : Array Value} (h : Rows3 B a aS wr nc no nk uc uo uk xc xo xk pc po pk yc yo yk) {w' : World} {v : Value} (hown : w'.ownsRow B 33 1 v (nk + 1) (xk ++ yk.toList)) (hg : wr.grownBy w' uk.ownBlock) : Rows3 B a aS w' nc no (nk + 1) uc uo v xc xo (xk ++ yk.toList) pc po none yc yo yk :=
  ⟨h.b.grown hg h.hB (fun j hj => (h.rk.lt j hj).1), Nat.le_trans h.hB hg.size, own_typed_keep h.rc (grown_typed h.rk hg (by decide)), own_typed_keep h.ro (grown_typed h.rk hg (by decide)), hown, fun g e => blk_typed (h.bc g e) (grown_typed h.rk hg (by decide)), fun g e => blk_typed (h.bo g e) (grown_typed h.rk hg (by decide)), fun g e => (by cases e), h.ty.then_ (fun T hT => by
    rcases hT with rfl | rfl
    · exact grown_typed h.rk hg (by decide)
    · exact grown_typed h.rk hg (by decide))⟩
end

end Go.Proofs.YtjfondfjdhjooaaGreatDoor
