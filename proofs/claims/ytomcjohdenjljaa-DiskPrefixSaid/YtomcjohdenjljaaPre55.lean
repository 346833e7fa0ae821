/- Writes that succeed, the first of them; observatorylaw55.prefix. -/
import Derived.Test.YtomcjohdenjljaaLB255
namespace Go.Proofs.Ytomcjohdenjljaa
open Go.RowKit

def okw (n : Nat) (a : AC) : Bool := decide (0 ≤ a.sector ∧ a.sector < n ∧ a.txt.size = 64)
def toq (a : AC) : Nat × ByteArray := (a.sector.toNat, a.txt)
def wqs (n : Nat) (l : List AC) : List (Nat × ByteArray) := (l.filter (okw n)).map toq
def DS.wq (S : DS) (q : List (Nat × ByteArray)) : DS := { S with q := q }

theorem okw_true {n : Nat} {a : AC} (h : okw n a = true) : 0 ≤ a.sector ∧ a.sector < n ∧ a.txt.size = 64 := by simpa [okw] using h

theorem wq_write (S : DS) (h : S.on) (q : List (Nat × ByteArray)) (a : AC) :
    (okw S.n a = true ∧ (S.wq q).write a.sector a.txt = (0, S.wq (q ++ [toq a]))) ∨ (okw S.n a = false ∧ (S.wq q).write a.sector a.txt = (1, S.wq q)) := by
  rcases write_on (S.wq q) ⟨h.1, h.2⟩ a.sector a.txt with ⟨h1, h2⟩ | ⟨h1, h2⟩
  · have h3 : 0 ≤ a.sector ∧ a.sector < S.n ∧ a.txt.size = 64 := h1
    exact .inl ⟨by simpa [okw] using h3, h2⟩
  · refine .inr ⟨?_, h2⟩
    rw [okw, decide_eq_false_iff_not]; exact h1

theorem filter_take_snoc (f : AC → Bool) (m : List AC) (k : Nat) (a : AC) (h : m[k]? = some a) : (m.take (k + 1)).filter f = (m.take k).filter f ++ if f a then [a] else [] := by
  rw [take_snoc m k a h, List.filter_append]
  congr 1
  cases hf : f a <;> simp [hf]

theorem wqs_yes {n : Nat} {m : List AC} {k : Nat} {a : AC} (h : m[k]? = some a) (ho : okw n a = true) : wqs n (m.take (k + 1)) = wqs n (m.take k) ++ [toq a] := by
  unfold wqs
  rw [filter_take_snoc _ m k a h, ho]
  simp
theorem wqs_no {n : Nat} {m : List AC} {k : Nat} {a : AC} (h : m[k]? = some a) (ho : okw n a = false) : wqs n (m.take (k + 1)) = wqs n (m.take k) := by
  unfold wqs
  rw [filter_take_snoc _ m k a h, ho]
  simp
theorem wqs_len (n : Nat) (m : List AC) : (wqs n m).length ≤ m.length := by
  unfold wqs
  rw [List.length_map]; exact List.length_filter_le _ _
theorem wqs_split (n : Nat) (m : List AC) (k : Nat) : wqs n m = wqs n (m.take k) ++ wqs n (m.drop k) := by
  unfold wqs
  rw [← List.map_append, ← List.filter_append, List.take_append_drop]
theorem wqs_done (n : Nat) (m : List AC) (k j : Nat) (h : (wqs n (m.take k)).length = j) : (wqs n m).take j = wqs n (m.take k) := by
  rw [wqs_split n m k, ← h, List.take_left']
  rfl
theorem wqs_all (n : Nat) (m : List AC) (j : Nat) (h : (wqs n (m.take m.length)).length ≤ j) : (wqs n m).take j = wqs n (m.take m.length) := by
  rw [List.take_length] at h ⊢
  exact List.take_of_length_le h
theorem wqs_in (n : Nat) (m : List AC) : inQ n (wqs n m) := by
  intro p hp
  obtain ⟨a, ha, rfl⟩ := List.mem_map.1 hp
  have := okw_true (List.mem_filter.1 ha).2
  exact ⟨by simp only [toq]; omega, this.2.2⟩

/-- The disk after the operations, started and synchronized. -/
def S2of (n : Nat) (l : List AC) : DS := (acts (DS.new n) l).start.sync.2
theorem S2of_on (n : Nat) (l : List AC) : (S2of n l).on ∧ (S2of n l).n = n ∧ (S2of n l).q = [] ∧ (acts (DS.new n) l).start.sync.1 = 0 := by
  unfold S2of
  rw [sync_on _ (start_on _)]
  exact ⟨⟨rfl, rfl⟩, acts_n (DS.new n) l, rfl, rfl⟩
theorem S2of_wq (n : Nat) (l : List AC) : S2of n l = (S2of n l).wq [] := by
  have h := (S2of_on n l).2.2.1
  obtain ⟨S, hS⟩ : ∃ S, S2of n l = S := ⟨_, rfl⟩
  rw [hS] at h ⊢
  unfold DS.wq
  cases S
  simp only at h
  rw [h]

/-! ### prefix, the walk -/
set_option maxRecDepth 100000 in
set_option maxHeartbeats 32000000 in
theorem prefix_any (n : Nat) (hn1 : 1 ≤ n) (hn2 : n ≤ 12) (A : Option Addr) (c : Nat) (l : List AC) (B : Option Addr) (c2 : Nat) (m : List AC) (wri : Int) (W : World) (hl : Acs W A l) (hm : Acs W B m) (hll : l.length ≤ 9223372036854775807) (hlm : m.length ≤ 9223372036854775807) (hfitl : fits l) (hwri : 0 ≤ wri) (HVl : Hid (okB l = true)) (HVm : Hid (okB m = true)) :
    Calls Try.prog 26 #[.int .i64 n, .slice A l.length c, .slice B m.length c2, .int .i64 wri] W fun e w' =>
      ∃ (b cc : Nat) (cur : Array Value), e = .returned (.tuple #[.slice (some ⟨b, 0, none⟩) n cc, .bool true]) ∧ Strs w' (some ⟨b, 0, none⟩) ((S2of n l).wq ((wqs n m).take wri.toNat)).views ∧ Blk w' b 9 cur ∧ cur.toList.take n = ((S2of n l).wq ((wqs n m).take wri.toNat)).views.map Value.string ∧ n ≤ cc ∧ cur.size = cc ∧
        W.heap.size ≤ b ∧ b < w'.heap.size ∧ Below W.heap.size W w' := by
  have HAl : Hid (∀ w', Below W.heap.size W w' → Acs w' A l) := fun w' hb => hl.below hb
  have HAm : Hid (∀ w', Below W.heap.size W w' → Acs w' B m) := fun w' hb => hm.below hb
  have HB1 : Hid (Below W.heap.size W W) := Lib.hid (Below.refl _ _)
  clear hl hm
  obtain ⟨hon2, hn2', hq2, hs1⟩ := S2of_on n l
  have hS2w := S2of_wq n l
  obtain ⟨S2, hS2⟩ : ∃ S, S2of n l = S := ⟨_, rfl⟩
  rw [hS2] at hon2 hn2' hq2 hS2w ⊢
  have HON2 := Lib.hid hon2
  have HN2 := Lib.hid hn2'
  have HQ2 := Lib.hid hq2
  have HS1 := Lib.hid hs1
  have HS2 := Lib.hid hS2
  have HS2W := Lib.hid hS2w
  clear hon2 hn2' hq2 hs1 hS2 hS2w
  go_enter Try.func26, Try.ntmps26
  go_wp2_with fail
  refine (new_own W n hn1 (by omega) W HB1.out).mono ?_
  rintro e w3 ⟨d, rfl, ho⟩
  have HO := Lib.hid ho
  clear ho
  have HDO := Lib.hid (fun k a wr (hk : l[k]? = some a) (ho : Own W wr d (acts (DS.new n) (l.take k)) []) => do_step HVl.out hfitl n k a hk ho.acc)
  go_wp2_with fail
  go_loopw [11] (fun u wr => ∃ k : Nat, k ≤ l.length ∧ u = .int .i64 k ∧ Own W wr d (acts (DS.new n) (l.take k)) []) (fun u _ => l.length - (intOf u).toNat)
  case atStart => exact ⟨0, Nat.zero_le _, rfl, HO.out⟩
  case round =>
  obtain ⟨k, hk, rfl, ho⟩ := hrel
  have HOW := Lib.hid ho
  clear ho
  by_cases hlt : k < l.length
  · obtain ⟨a, ha⟩ := get_some l k hlt
    obtain ⟨b, off, rfl, c0, c1, c2, c3, c4, c5⟩ := (HAl.out _ HOW.out.base).at_ ha
    have HAK := Lib.hid ha
    clear ha
    go_wp2_with fail
    refine (HDO.out k a wr HAK.out HOW.out).mono ?_
    rintro e w4 ⟨⟨s4, c4, rfl⟩, ho4⟩
    have HO4 := Lib.hid ho4
    clear ho4
    go_wp2
    go_roundw
    case rel => exact ⟨k + 1, by omega, by go_num, HO4.out⟩
    case measure => simp [intOf]; omega
  obtain rfl : k = l.length := by omega
  go_wp2_with fail
  refine (start_own HOW.out.acc).mono ?_
  rintro e w5 ⟨rfl, ho5⟩
  rw [List.take_length] at ho5
  have HO5 := Lib.hid ho5
  clear ho5 HOW
  go_wp2_with fail
  refine (sync_own HO5.out.acc).mono ?_
  rw [HS1.out]
  rintro e w6 ⟨rfl, ho⟩
  have HO6 : Hid (Own W w6 d (S2.wq []) []) := Lib.hid (by rw [← HS2W.out, ← HS2.out]; exact ho)
  clear ho
  have hm60 := okB_len HVm.out
  go_wp2_with fail
  go_loopw [12, 13] (fun u12 u13 wr => ∃ (k j : Nat), k ≤ m.length ∧ u13 = .int .i64 k ∧ u12 = .int .i64 j ∧ j = (wqs n (m.take k)).length ∧ (j : Int) ≤ wri ∧ Own W wr d (S2.wq (wqs n (m.take k))) []) (fun _ u13 _ => m.length - (intOf u13).toNat)
  case atStart => exact ⟨0, 0, Nat.zero_le _, rfl, rfl, rfl, hwri, HO6.out⟩
  case round =>
  obtain ⟨k, j, hk, rfl, rfl, hj, hjw, ho⟩ := hrel
  have HOW := Lib.hid ho
  have HJ := Lib.hid hj
  have hjk : j ≤ 60 := by rw [hj]; exact Nat.le_trans (wqs_len _ _) (by rw [List.length_take]; omega)
  clear ho hj
  by_cases hgo : k < m.length ∧ (j : Int) < wri
  · obtain ⟨hlt, hlt2⟩ := hgo
    obtain ⟨a, ha⟩ := get_some m k hlt
    have hww := wq_write S2 HON2.out (wqs n (m.take k)) a
    rw [HN2.out] at hww
    have HWW := Lib.hid hww
    have HYES := Lib.hid (fun h => wqs_yes (n := n) ha h)
    have HNO := Lib.hid (fun h => wqs_no (n := n) ha h)
    clear hww
    obtain ⟨kind, sec, byt, tex, od, af⟩ := a
    obtain ⟨b, off, rfl, c0, c1, c2, c3, c4, c5⟩ := (HAm.out _ HOW.out.base).at_ ha
    dsimp only at c0 c1 c2 c3 c4 c5
    have hxl := lt_of_cell c0
    have HXA : Hid (∀ w', Below W.heap.size W w' → w'.cell? ⟨b, off + k * 6, none⟩ = some (.int .i64 kind) ∧ w'.cell? ⟨b, off + k * 6 + 1, none⟩ = some (.int .i64 sec) ∧ w'.cell? ⟨b, off + k * 6 + 2, none⟩ = some (.int .i64 byt) ∧ w'.cell? ⟨b, off + k * 6 + 3, none⟩ = some (.string tex) ∧ w'.cell? ⟨b, off + k * 6 + 4, none⟩ = some (.bool od) ∧ w'.cell? ⟨b, off + k * 6 + 5, none⟩ = some (.int .i64 af)) := Lib.hid (fun w' hb => by
      obtain ⟨b', off', hbo, y0, y1, y2, y3, y4, y5⟩ := (HAm.out w' hb).at_ ha
      obtain ⟨rfl, rfl⟩ : b = b' ∧ off = off' := by simpa using hbo
      exact ⟨y0, y1, y2, y3, y4, y5⟩)
    obtain ⟨tx, htx⟩ : ∃ tx, AC.txt ⟨kind, sec, byt, tex, od, af⟩ = tx := ⟨_, rfl⟩
    have HTX : Hid (∀ w, Calls Try.prog 24 #[.agg #[.int .i64 kind, .int .i64 sec, .int .i64 byt, .string tex, .bool od, .int .i64 af]] w fun e w' => e = .returned (.string tx) ∧ Below w.heap.size w w') := by
      intro w
      rw [← htx]
      exact act_text HVm.out k ⟨kind, sec, byt, tex, od, af⟩ ha w
    have HTXE := Lib.hid htx
    have HAK := Lib.hid ha
    clear htx ha
    have HD : Hid (∀ w', Below wr.drew.heap.size wr.drew w' → Own W w' d (S2.wq (wqs n (m.take k))) []) := fun w' hb => HOW.out.below (below_trans (Below.drew (Below.refl _ _)) hb)
    have HXB := Lib.hid (fun w' (hb : Below wr.drew.heap.size wr.drew w') => HXA.out w' (HOW.out.base.drew.trans (hb.mono HOW.out.base.size)))
    obtain ⟨cv, S', hcs⟩ : ∃ cv T, DS.write (S2.wq (wqs n (m.take k))) sec tx = (cv, T) := ⟨_, _, rfl⟩
    have HWR : Hid (∀ w', Own W w' d (S2.wq (wqs n (m.take k))) [] → Calls Try.prog 23 #[.pointer (some ⟨d, 0, none⟩), .int .i64 sec, .string tx] w' fun e w'' => e = .returned (.int .i64 cv) ∧ Own W w'' d S' []) := by
      intro w' hw
      have := write_own sec tx hw.acc (by show (wqs n (m.take k)).length < 1000000; have := HJ.out; omega)
      rw [hcs] at this
      exact this
    have HCS := Lib.hid hcs
    clear hcs
    go_wp2_with fail
    go_region_held3 (fun w' => w'.cell? ⟨b, off + k * 6, none⟩ = some (.int .i64 kind) ∧ w'.cell? ⟨b, off + k * 6 + 1, none⟩ = some (.int .i64 sec) ∧ w'.cell? ⟨b, off + k * 6 + 2, none⟩ = some (.int .i64 byt) ∧ w'.cell? ⟨b, off + k * 6 + 3, none⟩ = some (.string tex) ∧ w'.cell? ⟨b, off + k * 6 + 4, none⟩ = some (.bool od) ∧ w'.cell? ⟨b, off + k * 6 + 5, none⟩ = some (.int .i64 af))
      (first
        | go_keep
        | (go_split_ands
           exact HXB.out _ hbt)
        | (go_split_ands
           exact HXA.out _ hto.base))
      (first
        | (go_at_call 24; refine (HTX.out _).mono ?_; rintro e wt ⟨rfl, hbt⟩)
        | (go_at_call 23; refine (HWR.out _ (HD.out _ hbt)).mono ?_; rintro e wv ⟨rfl, hto⟩))
    all_goals
      have HOV := Lib.hid hto
      clear hto hbt
      rcases HWW.out with ⟨h1, h2⟩ | ⟨h1, h2⟩
      all_goals
        try dsimp only at h2
        rw [HTXE.out, HCS.out] at h2
        simp only [Prod.mk.injEq] at h2
        obtain ⟨rfl, h4⟩ := h2
      · have HOV' : Hid (Own W wv d (S2.wq (wqs n (m.take (k + 1)))) []) := Lib.hid (by rw [HYES.out h1, ← h4]; exact HOV.out)
        have HJ' : Hid (j + 1 = (wqs n (m.take (k + 1))).length) := Lib.hid (by rw [HYES.out h1, List.length_append, ← HJ.out]; rfl)
        clear h1 h4 c0 c1 c2 c3 c4 c5
        go_wp2_with fail
        go_roundw
        case rel => exact ⟨k + 1, j + 1, by omega, by go_num, by go_num, HJ'.out, by omega, HOV'.out⟩
        case measure => simp [intOf]; omega
      · have HOV' : Hid (Own W wv d (S2.wq (wqs n (m.take (k + 1)))) []) := Lib.hid (by rw [HNO.out h1, ← h4]; exact HOV.out)
        have HJ' : Hid (j = (wqs n (m.take (k + 1))).length) := Lib.hid (by rw [HNO.out h1]; exact HJ.out)
        clear h1 h4 c0 c1 c2 c3 c4 c5
        go_wp2_with fail
        go_roundw
        case rel => exact ⟨k + 1, j, by omega, by go_num, rfl, HJ'.out, by omega, HOV'.out⟩
        case measure => simp [intOf]; omega
  have HE : Hid ((wqs n m).take wri.toNat = wqs n (m.take k)) := Lib.hid (by
    by_cases h5 : k < m.length
    · have h6 : ¬ (j : Int) < wri := fun h => hgo ⟨h5, h⟩
      exact wqs_done n m k _ (by rw [← HJ.out]; omega)
    · obtain rfl : k = m.length := by omega
      exact wqs_all n m _ (by rw [← HJ.out]; omega))
  by_cases hlt : k < m.length
  · have hlt2 : ¬ (j : Int) < wri := fun h => hgo ⟨hlt, h⟩
    go_wp2_with fail
    refine (contents_acc n HOW.out.acc HON2.out.1 HN2.out.symm).mono ?_
    rintro e w7 ⟨b1, cc1, cur1, rfl, hst, hbl, hcu, hcc, hcz, hlo, hhi, hb⟩
    rw [← HE.out] at hst hcu
    have HFIN := Lib.hid (And.intro hst (And.intro hbl (And.intro hcu (And.intro hcc (And.intro hcz (And.intro (Nat.le_trans HOW.out.base.size hlo) (And.intro hhi (HOW.out.below hb).base)))))))
    clear hst hbl hcu hcc hcz hlo hhi hb
    go_wp2
    go_ret2
    exact ⟨b1, cc1, cur1, rfl, HFIN.out⟩
  · clear hgo
    go_wp2_with fail
    refine (contents_acc n HOW.out.acc HON2.out.1 HN2.out.symm).mono ?_
    rintro e w7 ⟨b1, cc1, cur1, rfl, hst, hbl, hcu, hcc, hcz, hlo, hhi, hb⟩
    rw [← HE.out] at hst hcu
    have HFIN := Lib.hid (And.intro hst (And.intro hbl (And.intro hcu (And.intro hcc (And.intro hcz (And.intro (Nat.le_trans HOW.out.base.size hlo) (And.intro hhi (HOW.out.below hb).base)))))))
    clear hst hbl hcu hcc hcz hlo hhi hb
    go_wp2
    go_ret2
    exact ⟨b1, cc1, cur1, rfl, HFIN.out⟩

end Go.Proofs.Ytomcjohdenjljaa
