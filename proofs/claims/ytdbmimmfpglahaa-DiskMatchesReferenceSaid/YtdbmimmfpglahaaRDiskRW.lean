/- Contracts of the reference's disk: Read, Write, New. -/
import Derived.Test.YtdbmimmfpglahaaRDiskFail
namespace Go.Proofs.Ytdbmimmfpglahaa
open Go.RowKit

theorem wr_off (S : DS) (h : S.off = true) (s : Int) (t : ByteArray) : S.write s t = (28, S) := by
  unfold DS.write DS.errAt; rw [h]; rfl
theorem rd_off (S : DS) (h : S.off = true) (s : Int) : S.read s = (ByteArray.empty, 28) := by
  unfold DS.read DS.errAt; rw [h]; rfl
theorem viewL_snoc (st : List UInt8) (q : List (Nat × ByteArray)) (p : Nat × ByteArray) (i : Nat) : viewL st (q ++ [p]) i = if p.1 = i then p.2 else viewL st q i := by
  simp only [viewL, List.reverse_append, List.reverse_cons, List.reverse_nil, List.nil_append, List.find?_append]
  by_cases h : p.1 = i
  · simp [List.find?, h]
  · have h2 : (p.1 == i) = false := by simpa using h
    simp [List.find?, h, h2]

set_option maxHeartbeats 4000000 in
theorem rread_any (d : Nat) (S : DS) (F : List Nat) (s : Int) (w : World) (h : RDk w d S F) :
    Calls Try.prog 12 #[ptr d, .int .i64 s] w fun e w' => e = .returned (.tuple #[.string (S.read s).1, .int .i64 (S.read s).2]) ∧ w = w' := by
  obtain ⟨sb, c, qv, x, y, z, hk, -⟩ := h
  have HK := Lib.hid hk
  have c0 := hk.c0
  have c1 := hk.c1
  have c2 := hk.c2
  have g40 := hk.good.n4000
  have gfew := hk.good.few
  clear hk
  cases hoff : S.off with
  | true =>
    have he : S.read s = (ByteArray.empty, 28) := rd_off S hoff s
    rw [he]
    rw [hoff] at c2
    simp only [Bool.not_true] at c2
    unfold ptr
    go_enter Try.func12, Try.ntmps12
    go_wp2
    go_ret2
    exact ⟨rfl, rfl⟩
  | false =>
    rw [hoff] at c2
    simp only [Bool.not_false] at c2
    by_cases hin : 0 ≤ s ∧ s < S.n
    · obtain ⟨h1, h2⟩ := hin
      obtain ⟨k, rfl⟩ : ∃ k : Nat, s = k := ⟨s.toNat, by omega⟩
      have hkn : k < S.n := by omega
      rw [read_on S hoff k hkn]
      have c3 := HK.out.stab.cell k hkn
      obtain ⟨A, c', rfl, hcc1, hcc2, hrd⟩ := Rd.of_own HK.out.queue
      have HQ : Hid (RQs w A S.q) := hrd
      obtain ⟨txt, htxt⟩ : ∃ txt, S.view k = txt := ⟨_, rfl⟩
      rw [htxt]
      rw [view_eq] at htxt
      have HTXT := Lib.hid htxt
      clear htxt hrd
      unfold ptr
      go_enter Try.func12, Try.ntmps12
      go_wp2_with fail
      go_loop [6, 7] (fun u6 u7 => ∃ i : Nat, i ≤ S.q.length ∧ u7 = .int .i64 i ∧ u6 = .string (viewL S.st (S.q.take i) k)) (fun _ u7 => S.q.length - (intOf u7).toNat)
      case atStart => exact ⟨0, Nat.zero_le _, rfl, rfl⟩
      case round =>
        obtain ⟨i, hi, rfl, rfl⟩ := hrel
        obtain ⟨cur, hcur⟩ : ∃ cur, viewL S.st (S.q.take i) k = cur := ⟨_, rfl⟩
        rw [hcur]
        have HCUR := Lib.hid hcur
        clear hcur
        by_cases hlt : i < S.q.length
        · obtain ⟨p, hp⟩ := get_some S.q i hlt
          obtain ⟨b, off, rfl, e1, e2⟩ := HQ.out.at_ hp
          have hsn := viewL_snoc S.st (S.q.take i) p k
          rw [← take_snoc S.q i p hp, HCUR.out] at hsn
          have HSN := Lib.hid hsn
          clear hp hsn
          by_cases hpk : p.1 = k
          · have hb : ((p.1 : Int) == (k : Int)) = true := by simp; omega
            rw [if_pos hpk] at HSN
            have hpk' : (p.1 : Int) = (k : Int) := by omega
            go_wp2
            go_round
            case rel => exact ⟨i + 1, by omega, by go_num, by rw [HSN.out]⟩
            case measure => simp [intOf]; omega
          · have hb : ((p.1 : Int) == (k : Int)) = false := by simp only [beq_eq_false_iff_ne, ne_eq]; omega
            rw [if_neg hpk] at HSN
            have hpk' : ¬ (p.1 : Int) = (k : Int) := by omega
            go_wp2
            go_round
            case rel => exact ⟨i + 1, by omega, by go_num, by rw [HSN.out]⟩
            case measure => simp [intOf]; omega
        · obtain rfl : i = S.q.length := by omega
          rw [List.take_length, HTXT.out] at HCUR
          have hc := HCUR.out
          subst hc
          go_wp2
          go_ret2
          exact ⟨rfl, rfl⟩
    · have he : S.read s = (ByteArray.empty, 1) := by simp [DS.read, DS.errAt, hoff, hin]
      rw [he]
      have hor : s < 0 ∨ (0 ≤ s ∧ (S.n : Int) ≤ s) := by omega
      unfold ptr
      rcases hor with h1 | ⟨h1, h2⟩
      all_goals
        go_enter Try.func12, Try.ntmps12
        go_wp2
        go_ret2
        exact ⟨rfl, rfl⟩

theorem info_rpending : (Try.prog.info? 61).map (fun i => (i.zero, i.size, i.bytes)) = some (some (.agg #[.int .i64 0, .string ByteArray.empty]), 2, 24) := by kernel_rfl

theorem RDkAt.pushed {w w6 : World} {d sb c g cap : Nat} {S : DS} {qv : Value} {x y z : Int} {s : Nat} {t : ByteArray} (h : RDkAt w d S sb c qv x y z) (hc : w.grownBy w6 qv.ownBlock)
    (hown : w6.ownsRow 0 61 2 (.slice (some ⟨g, 0, none⟩) (S.q.length + 1) cap) (S.q.length + 1) (rq (S.q ++ [(s, t)]))) (hat : qv.ownBlock = some g ∨ w.heap.size ≤ g) (hs : s < S.n) (ht : t.size = 64) (hf : S.q.length < 1000000) :
    RDkTo w (w6.setCell ⟨d, 1, none⟩ (.slice (some ⟨g, 0, none⟩) (S.q.length + 1) cap)) d (rfoot d sb qv) { S with q := S.q ++ [(s, t)] } := by
  obtain ⟨a1, a2, a3⟩ := h.apart
  have hgd : g ≠ d := by
    rintro rfl
    rcases hat with e | e
    · exact a2 e
    · have := h.head.lt; omega
  have hhead := (h.head.grown hc (Ne.symm a2)).set 1 (.slice (some ⟨g, 0, none⟩) (S.q.length + 1) cap)
  have hstab := (h.stab.grown hc (Ne.symm a3)).far (p := ⟨d, 1, none⟩) (Ne.symm a1) (.slice (some ⟨g, 0, none⟩) (S.q.length + 1) cap)
  have hd : d ∈ rfoot d sb qv := by simp [rfoot]
  have hcc : Chg (rfoot d sb qv) w (w6.setCell ⟨d, 1, none⟩ (.slice (some ⟨g, 0, none⟩) (S.q.length + 1) cap)) :=
    ((Chg.refl _ w).grown hc (fun k hk => .inl (by simp [rfoot, hk]))).setCell (p := ⟨d, 1, none⟩) (.inl hd) _
  have hq : (w6.setCell ⟨d, 1, none⟩ (.slice (some ⟨g, 0, none⟩) (S.q.length + 1) cap)).ownsRow 0 61 2 (.slice (some ⟨g, 0, none⟩) (S.q.length + 1) cap) (S.q.length + 1) (rq (S.q ++ [(s, t)])) :=
    own_chg hown ((Chg.refl [d] w6).setCell (p := ⟨d, 1, none⟩) (.inl (by simp)) _) (fun k hk => by
      simp [Value.ownBlock] at hk
      subst hk
      simpa using hgd)
  simp at hhead
  refine ⟨_, ⟨sb, c, .slice (some ⟨g, 0, none⟩) (S.q.length + 1) cap, x, y, z, ⟨by simpa using hhead, hstab, by simpa using hq, h.armed, ⟨h.good.n1, h.good.n4000, h.good.len, ?_, by simp; omega, h.good.arm0⟩⟩, rfl⟩, fun k hk => ?_, hcc⟩
  · intro p hp
    rcases List.mem_append.1 hp with hp | hp
    · exact h.good.inq p hp
    · rw [List.mem_singleton] at hp
      subst hp
      exact ⟨hs, ht⟩
  · simp only [rfoot, List.mem_append, List.mem_cons, Option.mem_toList, List.not_mem_nil, or_false, Value.ownBlock, Option.some.injEq] at hk ⊢
    rcases hk with hk | rfl
    · exact .inl (.inl hk)
    · rcases hat with e | e
      · exact .inl (.inr e)
      · exact .inr e

set_option maxHeartbeats 4000000 in
theorem rwrite_any (d : Nat) (S : DS) (F : List Nat) (s : Int) (t : ByteArray) (w : World) (h : RDk w d S F) (hf : S.q.length < 1000000) :
    Calls Try.prog 23 #[ptr d, .int .i64 s, .string t] w fun e w' => e = .returned (.int .i64 (S.write s t).1) ∧ RDkTo w w' d F (S.write s t).2 := by
  have HD := Lib.hid h
  obtain ⟨sb, c, qv, x, y, z, hk, rfl⟩ := h
  have HK := Lib.hid hk
  have c0 := hk.c0
  have c1 := hk.c1
  have c2 := hk.c2
  have f1 := hk.head.frozen 1
  have hl := hk.head.lt
  have g40 := hk.good.n4000
  clear hk
  cases hoff : S.off with
  | true =>
    rw [wr_off S hoff s t]
    rw [hoff] at c2
    simp only [Bool.not_true] at c2
    unfold ptr
    go_enter Try.func23, Try.ntmps23
    go_wp2
    go_ret
    exact ⟨rfl, RDkTo.of_chg HD.out (Below.refl _ _)⟩
  | false =>
    rw [hoff] at c2
    simp only [Bool.not_false] at c2
    by_cases hin : (0 ≤ s ∧ s < S.n) ∧ t.size = 64
    · obtain ⟨⟨h1, h2⟩, ht⟩ := hin
      obtain ⟨k, rfl⟩ : ∃ k : Nat, s = k := ⟨s.toNat, by omega⟩
      have hkn : k < S.n := by omega
      have hw : S.write (k : Int) t = ({ S with q := S.q ++ [(k, t)] } : DS).count := by simp [DS.write, DS.errAt, hoff, hkn, ht]
      obtain ⟨cv, S2, hcs⟩ : ∃ cv S2, ({ S with q := S.q ++ [(k, t)] } : DS).count = (cv, S2) := ⟨_, _, rfl⟩
      rw [hw, hcs]
      have HCS := Lib.hid hcs
      have ht' : (t.size : Int) = 64 := by omega
      clear hw hcs
      obtain ⟨ip, hi1, hy0, hy1, hy2⟩ := info_parts info_rpending
      have HI := Lib.hid (And.intro hi1 (And.intro hy0 (And.intro hy1 hy2)))
      clear hi1 hy0 hy1 hy2
      have HO : Hid ((w.alloc (.cells #[.int .i64 (k : Int), .string t] 61)).ownsRow 0 61 2 qv S.q.length (rq S.q)) := own_chg HK.out.queue ((Chg.refl [] w).alloc _) (by simp)
      unfold ptr
      go_enter Try.func23, Try.ntmps23
      go_wp2_with (at_builtin; refine wpList_append_lies _ rfl (.tmp 34) (.tmp 38) 50 rfl 0 61 ip _ 2 24 Try.underlying50 HI.out.1 HI.out.2.1 HI.out.2.2.1 HI.out.2.2.2 rfl (by omega) qv S.q.length _ rfl HO.out ⟨w.heap.size, 0, none⟩ 1 1 [.int .i64 (k : Int), .string t] rfl rfl (World.news_of_block (cs := #[.int .i64 (k : Int), .string t]) (t := 61) (fr := (0, 0)) (Blk.new _ _ _ _ rfl)) (by simp [Value.oneCell']) (by omega) (by simp only [maxLen]; omega) (by omega) (by simp) (w.heap.size + 1) (by simp) ?_)
      intro gg cap w6 hown hgrow hat hltg
      have hk2 := HK.out.chg ((Chg.refl [] w).alloc (.cells #[.int .i64 (k : Int), .string t] 61)) (by simp)
      have hto := RDkAt.pushed (s := k) (t := t) (g := gg) (cap := cap) hk2 hgrow (by rw [rq_append]; exact hown) (by
        rcases hat with e | e
        · exact .inl e
        · right; simp; omega) hkn ht hf
      obtain ⟨F', hd', hF', hc'⟩ := hto
      have hcnt := rcount_any d _ F' _ hd'
      rw [HCS.out] at hcnt
      have hBH : ∀ w2 S2, RDkTo (w6.setCell ⟨d, 1, none⟩ (.slice (some ⟨gg, 0, none⟩) (S.q.length + 1) cap)) w2 d F' S2 → RDkTo w w2 d (rfoot d sb qv) S2 := fun w2 S2 => RDkTo.behind
        (((Chg.refl _ w).alloc (.cells #[.int .i64 (k : Int), .string t] 61)).trans hc' (fun j hj => .inl hj))
        (fun j hj => by
          rcases hF' j hj with e | e
          · exact .inl e
          · right; simp at e; omega)
      have hfz : w6.frozen? ⟨d, 1, none⟩ = false := (hgrow.frozen_far ⟨d, 1, none⟩ (by simp; omega) (Ne.symm HK.out.apart.2.1)).trans ((HK.out.head.alloc _).frozen 1)
      have hc4 : w6.cell? ⟨d, 1, none⟩ = some qv := (hgrow.cell_far ⟨d, 1, none⟩ (by simp; omega) (Ne.symm HK.out.apart.2.1)).trans ((HK.out.head.alloc _).cell 1)
      have HCNT := Lib.hid hcnt
      have HBH := Lib.hid hBH
      clear hcnt hBH hF' hd' hc' hk2 hgrow hown hat
      unfold ptr at HCNT
      go_wp2_with fail
      refine HCNT.out.mono ?_
      rintro e w8 ⟨rfl, hto8⟩
      have HTO := Lib.hid (HBH.out _ _ hto8)
      clear hto8
      go_wp2
      go_ret
      exact ⟨rfl, HTO.out⟩
    · have hw : S.write s t = (1, S) := by
        by_cases h2 : 0 ≤ s ∧ s < S.n
        · have h3 : ¬ t.size = 64 := fun e => hin ⟨h2, e⟩
          simp [DS.write, DS.errAt, hoff, h2, h3]
        · simp [DS.write, DS.errAt, hoff, h2]
      rw [hw]
      have hor : s < 0 ∨ (0 ≤ s ∧ (S.n : Int) ≤ s) ∨ (0 ≤ s ∧ s < S.n ∧ ((t.size : Int) != 64) = true) := by
        by_cases h2 : 0 ≤ s ∧ s < S.n
        · have h3 : ¬ t.size = 64 := fun e => hin ⟨h2, e⟩
          exact .inr (.inr ⟨h2.1, h2.2, by simp; omega⟩)
        · omega
      clear hin
      unfold ptr
      rcases hor with h1 | ⟨h1, h2⟩ | ⟨h1, h2, h3⟩
      all_goals
        go_enter Try.func23, Try.ntmps23
        go_wp2
        go_ret
        exact ⟨rfl, RDkTo.of_chg HD.out (Below.refl _ _)⟩

end Go.Proofs.Ytdbmimmfpglahaa
