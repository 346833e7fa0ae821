/- Contracts of the disk's Write, Read and Rot. -/
import Derived.Test.YtdbmimmfpglahaaDiskMeth
import Derived.Deep.RegionLaw
import Derived.Deep.AppendLies
namespace Go.Proofs.Ytdbmimmfpglahaa
open Go.RowKit

theorem info_pending : (Try.prog.info? 59).map (fun i => (i.zero, i.size, i.bytes)) = some (some (.agg #[.int .i64 0, .int .i64 0, .string ByteArray.empty]), 3, 32) := by kernel_rfl

theorem DkAt.pushed {w w6 : World} {d sb g cap : Nat} {S : DS} {qv ap : Value} {s : Nat} {t : ByteArray} (h : DkAt w d S sb qv ap) (hc : w.grownBy w6 qv.ownBlock)
    (hown : w6.ownsRow 0 59 3 (.slice (some ⟨g, 0, none⟩) (S.q.length + 1) cap) (S.q.length + 1) (flatq (S.q ++ [(s, t)]))) (hat : qv.ownBlock = some g ∨ w.heap.size ≤ g) (hs : s < S.n) (ht : t.size = 64) (hf : S.q.length < 1000000) :
    DkTo w (w6.setCell ⟨d, 1, none⟩ (.slice (some ⟨g, 0, none⟩) (S.q.length + 1) cap)) d (foot d sb qv ap) { S with q := S.q ++ [(s, t)] } := by
  obtain ⟨a1, a2, a3, a4, a5, a6⟩ := h.apart
  have hgd : g ≠ d := by
    rintro rfl
    rcases hat with e | e
    · exact a2 e
    · have := h.head.lt; omega
  have hgs : g ≠ sb := by
    rintro rfl
    rcases hat with e | e
    · exact a3 e
    · have := h.stab.lt; omega
  have hhead := (h.head.grown hc (Ne.symm a2)).set 1 (.slice (some ⟨g, 0, none⟩) (S.q.length + 1) cap)
  have hstab := (h.stab.grown hc (Ne.symm a3)).far (p := ⟨d, 1, none⟩) (Ne.symm a1) (.slice (some ⟨g, 0, none⟩) (S.q.length + 1) cap)
  have hd : d ∈ foot d sb qv ap := by simp [foot]
  have hcc : Chg (foot d sb qv ap) w (w6.setCell ⟨d, 1, none⟩ (.slice (some ⟨g, 0, none⟩) (S.q.length + 1) cap)) :=
    ((Chg.refl _ w).grown hc (fun k hk => .inl (by simp [foot, hk]))).setCell (p := ⟨d, 1, none⟩) (.inl hd) _
  have hq : (w6.setCell ⟨d, 1, none⟩ (.slice (some ⟨g, 0, none⟩) (S.q.length + 1) cap)).ownsRow 0 59 3 (.slice (some ⟨g, 0, none⟩) (S.q.length + 1) cap) (S.q.length + 1) (flatq (S.q ++ [(s, t)])) :=
    own_chg hown ((Chg.refl [d] w6).setCell (p := ⟨d, 1, none⟩) (.inl (by simp)) _) (fun k hk => by
      simp [Value.ownBlock] at hk
      subst hk
      simpa using hgd)
  refine ⟨_, ⟨sb, .slice (some ⟨g, 0, none⟩) (S.q.length + 1) cap, ap, ⟨by simpa using hhead, hstab, by simpa using hq, ?_, ⟨h.good.n1, h.good.n4000, h.good.len, ?_, by simp; omega, h.good.arm0⟩⟩, rfl⟩, fun k hk => ?_, hcc⟩
  · have ha := h.armed
    cases hS : S.arm with
    | none => simp only [hS] at ha ⊢; exact ha
    | some a =>
      simp only [hS] at ha ⊢
      obtain ⟨ab, rfl, hb⟩ := ha
      refine ⟨ab, rfl, (hb.grown hc ?_).far ?_ _⟩
      · intro e
        exact a6 ab e.symm rfl
      · simpa [ptrBlock] using a4
  · intro p hp
    rcases List.mem_append.1 hp with hp | hp
    · exact h.good.inq p hp
    · rw [List.mem_singleton] at hp
      subst hp
      exact ⟨hs, ht⟩
  · simp only [foot, List.mem_append, List.mem_cons, Option.mem_toList, List.not_mem_nil, or_false, Value.ownBlock, Option.some.injEq] at hk ⊢
    rcases hk with (hk | rfl) | hk
    · exact .inl (.inl (.inl hk))
    · rcases hat with e | e
      · exact .inl (.inl (.inr e))
      · exact .inr e
    · exact .inl (.inr hk)

/-- A step that kept the blocks, then one more. -/
theorem DkTo.behind {w w1 w2 : World} {d : Nat} {F F1 : List Nat} {S : DS} (hc : Chg F w w1) (hF : ∀ k, k ∈ F1 → k ∈ F ∨ w.heap.size ≤ k) (h : DkTo w1 w2 d F1 S) : DkTo w w2 d F S := by
  obtain ⟨F2, k1, k2, k3⟩ := h
  refine ⟨F2, k1, fun j hj => ?_, hc.trans k3 hF⟩
  rcases k2 j hj with h4 | h4
  · exact hF j h4
  · have := hc.size; right; omega

set_option maxHeartbeats 4000000 in
theorem write_any (d : Nat) (S : DS) (F : List Nat) (s : Int) (t : ByteArray) (w : World) (h : Dk w d S F) (hf : S.q.length < 1000000) :
    Calls Try.prog 13 #[ptr d, .int .i64 s, .string t] w fun e w' => e = .returned (.int .i64 (S.write s t).1) ∧ DkTo w w' d F (S.write s t).2 := by
  have HD := Lib.hid h
  obtain ⟨sb, qv, ap, hk, rfl⟩ := h
  have HAT := Lib.hid (at_any d S.n (some ⟨sb, 0, none⟩) (S.n * 64) S.off s w hk.len hk.off_ hk.good.n4000)
  have hea : S.errAt s = errAt S.off S.n s := by simp [DS.errAt, errAt, inB]
  by_cases he : errAt S.off S.n s = 0
  · by_cases ht : t.size = 64
    · have hoff : S.off = false := by
        cases hS : S.off
        · rfl
        · rw [hS] at he; simp [errAt] at he
      have hin : inB S.n s = true := by
        rw [hoff] at he
        cases hS : inB S.n s
        · rw [errAt, hS] at he; simp at he
        · rfl
      have hw : S.write s t = ({ S with q := S.q ++ [(s.toNat, t)] } : DS).count := by simp [DS.write, hea, he, ht]
      obtain ⟨cv, S2, hcs⟩ : ∃ cv S2, ({ S with q := S.q ++ [(s.toNat, t)] } : DS).count = (cv, S2) := ⟨_, _, rfl⟩
      rw [hw, hcs]
      have HCS := Lib.hid hcs
      clear hcs
      have hs0 : 0 ≤ s ∧ s < S.n := by simpa [inB] using hin
      rw [he, atV, hoff, if_neg (by simp), spotV, if_pos hin] at HAT
      have HK := Lib.hid hk
      obtain ⟨a1, a2, a3, a4, a5, a6⟩ := hk.apart
      have HA2 := Lib.hid a2
      clear hw he hea hk a1 a2 a3 a4 a5 a6
      unfold ptr at HAT ⊢
      go_enter Try.func13, Try.ntmps13
      go_wp2_with fail
      refine HAT.out.mono ?_
      rintro e w1 ⟨rfl, hb1⟩
      have HC1 := Lib.hid (Chg.of_below hb1 [])
      have HK1 := Lib.hid (HK.out.chg HC1.out (by simp))
      have c1 := HK1.out.queue_
      have f1 := HK1.out.head.frozen 1
      have hl1 := HK1.out.head.lt
      have HB1 := Lib.hid hb1
      clear hb1
      have HA3 : Hid (qv.ownBlock ≠ some w1.heap.size) := fun e => Nat.lt_irrefl _ (HK1.out.queue.lt _ e).2
      obtain ⟨lo, hlo⟩ : ∃ lo, s * 64 = lo := ⟨_, rfl⟩
      obtain ⟨hi, hhi⟩ : ∃ hi, (s + 1) * 64 = hi := ⟨_, rfl⟩
      rw [hlo, hhi]
      have HLO := Lib.hid hlo
      have HHI := Lib.hid hhi
      clear hlo hhi
      go_wp2_with fail
      have hown : ((w1.alloc (.cells #[.int .i64 lo, .int .i64 hi] 55)).alloc (.cells #[.int .i64 lo, .int .i64 hi, .string t] 59)).drew.ownsRow 0 59 3 qv S.q.length (flatq S.q) := own_chg HK1.out.queue (((Chg.refl [] w1).alloc _).alloc _).drew (by simp)
      have hfz : (w1.alloc (.cells #[.int .i64 lo, .int .i64 hi] 55)).drew.frozen? ⟨d, 1, none⟩ = false := ((HK1.out.head.alloc _).drew).frozen 1
      have hfz2 : ((w1.alloc (.cells #[.int .i64 lo, .int .i64 hi] 55)).alloc (.cells #[.int .i64 lo, .int .i64 hi, .string t] 59)).drew.frozen? ⟨d, 1, none⟩ = false := (((HK1.out.head.alloc _).alloc _).drew).frozen 1
      have hqc : ((w1.alloc (.cells #[.int .i64 lo, .int .i64 hi] 55)).alloc (.cells #[.int .i64 lo, .int .i64 hi, .string t] 59)).drew.cell? ⟨d, 1, none⟩ = some qv := (((HK1.out.head.alloc _).alloc _).drew).cell 1
      obtain ⟨ip, hi1, hy0, hy1, hy2⟩ := info_parts info_pending
      have HI := Lib.hid (And.intro hi1 (And.intro hy0 (And.intro hy1 hy2)))
      clear hi1 hy0 hy1 hy2
      go_region_law (refine step_append_lies _ (by rfl) _ _ _ (by rfl) 0 59 ip _ 3 32 Try.underlying45 HI.out.1 HI.out.2.1 HI.out.2.2.1 HI.out.2.2.2 rfl (by omega) qv S.q.length _ (by rfl) hown ⟨w1.heap.size + 1, 0, none⟩ 1 1 [.int .i64 lo, .int .i64 hi, .string t] (by rfl) (by rfl) (World.news_of_block (cs := #[.int .i64 lo, .int .i64 hi, .string t]) (t := 59) (fr := (0, 0)) ((Blk.new _ _ _ _ (by simp)).drew)) (by simp [Value.oneCell']) (by omega) (by simp only [maxLen]; omega) (by omega) (by simp) (w1.heap.size + 2) (by simp) ?_; intro gg cap w6 hown1 hgrow hat hltg; have hw6c := hgrow.cell_far ⟨d, 1, none⟩ (by simp; omega) (Ne.symm HA2.out); have hw6f := (hgrow.frozen_far ⟨d, 1, none⟩ (by simp; omega) (Ne.symm HA2.out)).trans hfz2; have hc4 : World.cell? w6 ⟨d, 1, none⟩ = some qv := hw6c.trans hqc)
      all_goals
        have hk2 := HK1.out.chg (((Chg.refl [] w1).alloc (.cells #[.int .i64 lo, .int .i64 hi] 55)).alloc (.cells #[.int .i64 lo, .int .i64 hi, .string t] 59)).drew (by simp)
        have hto := DkAt.pushed (s := s.toNat) (t := t) (g := gg) (cap := cap) hk2 hgrow (by
          rw [flatq_append]
          have e1 : flatq [(s.toNat, t)] = [.int .i64 lo, .int .i64 hi, .string t] := by
            have := HLO.out; have := HHI.out
            simp only [flatq, List.flatMap_cons, List.flatMap_nil, List.append_nil, List.cons.injEq, Value.int.injEq, true_and, and_true]
            omega
          rw [e1]; exact hown1) (by
          rcases hat with e | e
          · exact .inl e
          · right; simp; omega) (by omega) ht hf
        obtain ⟨F', hd', hF', hc'⟩ := hto
        have hcnt := count_any d _ F' _ hd'
        rw [HCS.out] at hcnt
        have hBH : ∀ w2 S2, DkTo (w6.setCell ⟨d, 1, none⟩ (.slice (some ⟨gg, 0, none⟩) (S.q.length + 1) cap)) w2 d F' S2 → DkTo w w2 d (foot d sb qv ap) S2 := fun w2 S2 => DkTo.behind
          ((((Chg.of_below HB1.out _).alloc (.cells #[.int .i64 lo, .int .i64 hi] 55)).alloc (.cells #[.int .i64 lo, .int .i64 hi, .string t] 59)).drew.trans hc' (fun j hj => .inl hj))
          (fun k hk => by
            rcases hF' k hk with e | e
            · exact .inl e
            · right; have := HB1.out.size; simp at e; omega)
        have HCNT := Lib.hid hcnt
        have HBH := Lib.hid hBH
        clear hcnt hBH hF' hd' hc' hk2 hgrow hown1 hat hw6c hw6f hc4 hqc hfz hfz2 hown
        unfold ptr at HCNT
        go_wp2_with fail
        refine HCNT.out.mono ?_
        rintro e w8 ⟨rfl, hto8⟩
        have hto8 := HBH.out _ _ hto8
        have HTO := Lib.hid hto8
        clear hto8
        go_wp2
        go_ret
        exact ⟨rfl, HTO.out⟩
    · have hw : S.write s t = (1, S) := by simp [DS.write, hea, he, ht]
      rw [hw]
      rw [he] at HAT
      have ht' : ((t.size : Int) != 64) = true := by simp; omega
      unfold ptr at HAT ⊢
      obtain ⟨sv, hsv⟩ : ∃ x y, atV S.off S.n s = .agg #[.int .i64 x, .int .i64 y] := by
        unfold atV spotV
        split
        · exact ⟨_, _, rfl⟩
        · split <;> exact ⟨_, _, rfl⟩
      obtain ⟨y, hsv⟩ := hsv
      rw [hsv] at HAT
      clear hsv hw he hea
      go_enter Try.func13, Try.ntmps13
      go_wp2_with fail
      refine HAT.out.mono ?_
      rintro e w1 ⟨rfl, hb1⟩
      have HB1 := Lib.hid hb1
      clear hb1
      go_wp2
      go_ret
      exact ⟨rfl, DkTo.of_chg HD.out (below_alloc HB1.out _)⟩
  · have hw : S.write s t = (errAt S.off S.n s, S) := by simp [DS.write, hea, he]
    rw [hw]
    obtain ⟨er, her⟩ : ∃ er, errAt S.off S.n s = er := ⟨_, rfl⟩
    rw [her] at HAT he ⊢
    unfold ptr at HAT ⊢
    obtain ⟨sv, hsv⟩ : ∃ x y, atV S.off S.n s = .agg #[.int .i64 x, .int .i64 y] := by
      unfold atV spotV
      split
      · exact ⟨_, _, rfl⟩
      · split <;> exact ⟨_, _, rfl⟩
    obtain ⟨y, hsv⟩ := hsv
    rw [hsv] at HAT
    clear hsv hw hea her
    go_enter Try.func13, Try.ntmps13
    go_wp2_with fail
    refine HAT.out.mono ?_
    rintro e w1 ⟨rfl, hb1⟩
    have HB1 := Lib.hid hb1
    clear hb1
    go_wp2
    go_ret
    exact ⟨rfl, DkTo.of_chg HD.out (below_alloc HB1.out _)⟩

end Go.Proofs.Ytdbmimmfpglahaa
