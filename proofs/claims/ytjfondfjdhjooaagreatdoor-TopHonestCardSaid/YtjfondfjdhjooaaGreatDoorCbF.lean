/- keeper: Draw. Chapter 30: the laws' helpers: Few, few, equal, example. Chapter 30: the laws' helper open: the night of some keepers. Chapter 30, plain: the nights of honest keepers. Chapter 30: a night's lists fit a draw; the example's keepers are right. A row that a call owns, by its block: what is read of it, and what a store changes. A block of ints that the call made by make, filled place by place. -/
import Derived.Test.YtjfondfjdhjooaaGreatDoorCbE
import Derived.Deep.MidRow
namespace Go.Proofs.YtjfondfjdhjooaaGreatDoor
set_option linter.unusedVariables false
set_option linter.unusedSimpArgs false

section
open Go.RowKit Go.Maps

theorem joinF_range (l : List (Int × Int)) (need : Int) : 0 ≤ (joinF l need).1 := by
  unfold joinF
  split
  · exact Int.le_refl 0
  split
  · exact Int.le_refl 0
  · next hv =>
    split
    · exact Int.le_refl 0
    split
    · exact Int.le_refl 0
    split
    · exact Int.le_refl 0
    · refine (nv_range 0 (l.take need.toNat) (fun p hp => ?_) _ _).1
      have hv' : l.all validB = true := by simpa using hv
      have := (validB_iff p).1 (List.all_eq_true.1 hv' p (List.mem_of_mem_take hp))
      exact ⟨by rw [elemB_iff]; omega, this.2.2⟩
theorem kjn_range (root : ByteArray) (n kp i : Int) (l : List Kp) (need : Int) : 0 ≤ (kjn root n kp i l need).1 ∧ (kjn root n kp i l need).1 < 720 := by
  unfold kjn
  split
  · exact ⟨Int.le_refl 0, by simp⟩
  split
  · exact ⟨Int.le_refl 0, by simp⟩
  · next h => exact ⟨joinF_range _ _, by simp only; omega⟩
theorem kone_range (c : ByteArray × ByteArray) (n kp i : Int) (o : Og) (l : List Kp) (need : Int) : 0 ≤ (kone c n kp i o l need).1 ∧ (kone c n kp i o l need).1 < 720 := by
  unfold kone
  split
  · next h =>
    have := h.2
    simp only [ckB, Bool.and_eq_true, decide_eq_true_eq] at this
    exact ⟨by simp only; omega, by simp only; omega⟩
  · exact kjn_range _ _ _ _ _ _
theorem ksum_range (rs : List (Int × Int × Bool)) (k : Nat) : 0 ≤ ksum rs k ∧ ksum rs k < 720 := by
  cases k with
  | zero => exact ⟨Int.le_refl 0, by simp [ksum]⟩
  | succ k => unfold ksum; omega
theorem ksum_succ {rs : List (Int × Int × Bool)} {k : Nat} {v e : Int} {f : Bool} (h : rs[k]? = some (v, e, f)) : ksum rs (k + 1) = (ksum rs k + v) % 720 := by rw [ksum, h]; rfl
theorem kwh_succ {rs : List (Int × Int × Bool)} {k : Nat} {v e : Int} {f : Bool} (h : rs[k]? = some (v, e, f)) : kwh rs (k + 1) = kwh rs k ++ (if f then [(k : Int)] else []) := by rw [kwh, h]; rfl
theorem kwh_len (rs : List (Int × Int × Bool)) (k : Nat) : (kwh rs k).length ≤ k := by
  induction k with
  | zero => exact Nat.le_refl _
  | succ k ih => rw [kwh, List.length_append]; split <;> simp <;> omega
theorem kall_ok {rs : List (Int × Int × Bool)} (h : ∀ (k : Nat) (r : Int × Int × Bool), rs[k]? = some r → r.2.1 = 0) : kall rs = (ksum rs rs.length, kwh rs rs.length, 0) := by
  unfold kall
  have : rs.find? (fun r => r.2.1 != 0) = none := by
    rw [List.find?_eq_none]
    intro r hr
    obtain ⟨k, hk⟩ := List.getElem?_of_mem hr
    simp [h k r hk]
  rw [this]
theorem kall_err {rs : List (Int × Int × Bool)} {k : Nat} {r : Int × Int × Bool} (h : ∀ (j : Nat) (r : Int × Int × Bool), j < k → rs[j]? = some r → r.2.1 = 0) (hk : rs[k]? = some r) (hr : r.2.1 ≠ 0) : kall rs = (0, [], r.2.1) := by
  unfold kall
  have e : rs = rs.take k ++ r :: rs.drop (k + 1) := by
    obtain ⟨hl, rfl⟩ := List.getElem?_eq_some_iff.1 hk
    rw [← List.drop_eq_getElem_cons hl, List.take_append_drop]
  have h1 : (rs.take k).find? (fun r => r.2.1 != 0) = none := by
    rw [List.find?_eq_none]
    intro q hq
    obtain ⟨j, hj⟩ := List.getElem?_of_mem hq
    rw [List.getElem?_take] at hj
    split at hj
    · next hlt => simp [h j q hlt hj]
    · cases hj
  have : rs.find? (fun r => r.2.1 != 0) = some r := by
    rw [e, List.find?_append, h1]
    simp [hr]
  rw [this]
theorem krs_get {cs : List (ByteArray × ByteArray)} {n i : Int} {os : List Og} {ks : List (List Kp)} {need : Int} {k : Nat} {c : ByteArray × ByteArray} {o : Og} {l : List Kp} (hc : cs[k]? = some c) (ho : os[k]? = some o) (hl : ks[k]? = some l) :
    (krs cs n i os ks need)[k]? = some (kone c n (cs.length : Int) i o l need) := by
  have h1 : (List.zip os ks)[k]? = some (o, l) := List.getElem?_zip_eq_some.2 ⟨ho, hl⟩
  have h2 : (List.zip cs (List.zip os ks))[k]? = some (c, (o, l)) := List.getElem?_zip_eq_some.2 ⟨hc, h1⟩
  unfold krs
  rw [List.getElem?_map, h2]; rfl
theorem krs_len {cs : List (ByteArray × ByteArray)} {n i : Int} {os : List Og} {ks : List (List Kp)} {need : Int} (h1 : os.length = cs.length) (h2 : ks.length = cs.length) : (krs cs n i os ks need).length = cs.length := by
  simp [krs, h1, h2]

theorem og_cells {w : World} {A : Option Addr} {l : List Og} (h : RowOf ogC 4 w A l) {j : Nat} {o : Og} (hj : l[j]? = some o) : ∃ b off, A = some ⟨b, off, none⟩ ∧ w.cell? ⟨b, off + j * 4, none⟩ = some (.int .i64 o.ix) ∧ w.cell? ⟨b, off + j * 4 + 1, none⟩ = some (.int .i64 o.v) ∧ w.cell? ⟨b, off + j * 4 + 2, none⟩ = some (.string o.salt) ∧ w.cell? ⟨b, off + j * 4 + 3, none⟩ = some (.slice o.A o.p.length o.c) := by
  obtain ⟨b, off, he, hc⟩ := h.at_ ogC_len hj
  exact ⟨b, off, he, by have := hc 0 _ rfl; simpa using this, hc 1 _ rfl, hc 2 _ rfl, hc 3 _ rfl⟩
theorem cm_cells {w : World} {A : Option Addr} {l : List (ByteArray × ByteArray)} (h : RowOf cmC 2 w A l) {j : Nat} {o : ByteArray × ByteArray} (hj : l[j]? = some o) : ∃ b off, A = some ⟨b, off, none⟩ ∧ w.cell? ⟨b, off + j * 2, none⟩ = some (.string o.1) ∧ w.cell? ⟨b, off + j * 2 + 1, none⟩ = some (.string o.2) := by
  obtain ⟨b, off, he, hc⟩ := h.at_ cmC_len hj
  exact ⟨b, off, he, by have := hc 0 _ rfl; simpa using this, hc 1 _ rfl⟩
theorem kw_cells {w : World} {A : Option Addr} {l : List Kw} (h : RowOf kwC 1 w A l) {j : Nat} {o : Kw} (hj : l[j]? = some o) : ∃ b off, A = some ⟨b, off, none⟩ ∧ w.cell? ⟨b, off + j, none⟩ = some (.slice o.A o.l.length o.c) := by
  obtain ⟨b, off, he, hc⟩ := h.at_ kwC_len hj
  exact ⟨b, off, he, by have := hc 0 _ rfl; simpa using this⟩

/-- What Draw asks of memory. -/
structure DrFit (w : World) (CA : Option Addr) (cs : List (ByteArray × ByteArray)) (OA : Option Addr) (os : List Og) (KA : Option Addr) (ks : List Kw) : Prop where
  c : RowOf cmC 2 w CA cs
  o : RowOf ogC 4 w OA os
  k : RowOf kwC 1 w KA ks
  og : ∀ o, o ∈ os → OgFit w o
  kw : ∀ k, k ∈ ks → KwFit w k
  cl : cs.length ≤ 9223372036854775807
  ol : os.length ≤ 9223372036854775807
  kl : ks.length ≤ 9223372036854775807
theorem DrFit.below {w w' : World} {CA OA KA : Option Addr} {cs : List (ByteArray × ByteArray)} {os : List Og} {ks : List Kw} (h : DrFit w CA cs OA os KA ks) (hb : Below w.heap.size w w') : DrFit w' CA cs OA os KA ks :=
  ⟨h.c.below hb, h.o.below hb, h.k.below hb, fun o ho => (h.og o ho).below hb, fun k hk => (h.kw k hk).below hb, h.cl, h.ol, h.kl⟩

set_option maxRecDepth 100000 in
set_option maxHeartbeats 16000000 in
theorem kdraw_bad (CA : Option Addr) (cc : Nat) (cs : List (ByteArray × ByteArray)) (n i : Int) (OA : Option Addr) (oc : Nat) (os : List Og) (KA : Option Addr) (kc : Nat) (ks : List Kw) (need : Int) (w : World) (hl1 : cs.length ≤ 9223372036854775807) (hl2 : os.length ≤ 9223372036854775807) (hl3 : ks.length ≤ 9223372036854775807) (hn : i64ok n)
    (hbad : ¬ (1 ≤ cs.length ∧ cs.length ≤ 7 ∧ 1 ≤ n ∧ n ≤ 600 ∧ 0 ≤ i ∧ i ≤ n - 1 ∧ 1 ≤ need ∧ need ≤ cs.length ∧ os.length = cs.length ∧ ks.length = cs.length)) :
    Calls Tryz.prog 25 #[.slice CA cs.length cc, .int .i64 n, .int .i64 i, .slice OA os.length oc, .slice KA ks.length kc, .int .i64 need] w fun e w' => e = .returned (.tuple #[.int .i64 0, .slice none 0 0, .int .i64 1]) ∧ w = w' := by
  obtain ⟨nlo, nhi⟩ := hn
  obtain ⟨b1, hb1⟩ : ∃ b, wiB cs.length 1 7 = b := ⟨_, rfl⟩
  obtain ⟨b2, hb2⟩ : ∃ b, wiB n 1 600 = b := ⟨_, rfl⟩
  obtain ⟨b3, hb3⟩ : ∃ b, wiB i 0 (n - 1) = b := ⟨_, rfl⟩
  obtain ⟨b4, hb4⟩ : ∃ b, wiB need 1 cs.length = b := ⟨_, rfl⟩
  have HBAD : Hid (b1 = true → b2 = true → b3 = true → b4 = true → ¬ (os.length = cs.length ∧ ks.length = cs.length)) := Lib.hid (fun h1 h2 h3 h4 h5 => by
    rw [h1] at hb1; rw [h2] at hb2; rw [h3] at hb3; rw [h4] at hb4
    have g1 := of_decide_eq_true hb1
    have g2 := of_decide_eq_true hb2
    have g3 := of_decide_eq_true hb3
    have g4 := of_decide_eq_true hb4
    exact hbad (by omega))
  have H1 := Lib.hid hb1
  have H2 := Lib.hid hb2
  have H3 := Lib.hid hb3
  have H4 := Lib.hid hb4
  clear hb1 hb2 hb3 hb4 hbad
  go_enter Tryz.func25, Tryz.ntmps25
  go_wp2_with fail
  refine (kwithin_any _ _ _ _).mono ?_
  rintro e _ ⟨rfl, rfl⟩
  rw [H1.out]
  cases b1
  case false =>
    go_wp2
    go_ret3
    exact ⟨rfl, rfl⟩
  case true =>
  go_wp2_with fail
  refine (kwithin_any _ _ _ _).mono ?_
  rintro e _ ⟨rfl, rfl⟩
  rw [H2.out]
  cases b2
  case false =>
    go_wp2
    go_ret3
    exact ⟨rfl, rfl⟩
  case true =>
  have h2 := of_decide_eq_true H2.out
  obtain ⟨h21, h22⟩ := h2
  go_wp2_with fail
  refine (kwithin_any _ _ _ _).mono ?_
  rintro e _ ⟨rfl, rfl⟩
  rw [H3.out]
  cases b3
  case false =>
    go_wp2
    go_ret3
    exact ⟨rfl, rfl⟩
  case true =>
  go_wp2_with fail
  refine (kwithin_any _ _ _ _).mono ?_
  rintro e _ ⟨rfl, rfl⟩
  rw [H4.out]
  cases b4
  case false =>
    go_wp2
    go_ret3
    exact ⟨rfl, rfl⟩
  case true =>
  have hb := HBAD.out (by trivial) (by trivial) (by trivial) (by trivial)
  by_cases ho : os.length = cs.length
  case neg =>
    have h1 : ((os.length : Int) == (cs.length : Int)) = false := by simp; omega
    have h2 : ((os.length : Int) != (cs.length : Int)) = true := by simp; omega
    clear ho hb
    go_wp2
    go_ret3
    exact ⟨rfl, rfl⟩
  case pos =>
  have h1 : ((os.length : Int) == (cs.length : Int)) = true := by simp; omega
  have h2 : ((os.length : Int) != (cs.length : Int)) = false := by simp; omega
  have h3 : ((ks.length : Int) == (cs.length : Int)) = false := by simp; omega
  have h4 : ((ks.length : Int) != (cs.length : Int)) = true := by simp; omega
  clear ho hb
  go_wp2
  go_ret3
  exact ⟨rfl, rfl⟩
set_option maxRecDepth 100000 in
set_option maxHeartbeats 16000000 in
theorem kdraw_ok (CA : Option Addr) (cc : Nat) (cs : List (ByteArray × ByteArray)) (n i : Nat) (OA : Option Addr) (oc : Nat) (os : List Og) (KA : Option Addr) (kc : Nat) (ks : List Kw) (need : Nat) (w : World) (hf : DrFit w CA cs OA os KA ks) (h1 : 1 ≤ cs.length) (h7 : cs.length ≤ 7) (hn6 : n ≤ 600) (hin : i < n) (hn1 : 1 ≤ need) (hnc : need ≤ cs.length) (hol : os.length = cs.length) (hkl : ks.length = cs.length) (hT : Tabs w) :
    Calls Tryz.prog 25 #[.slice CA cs.length cc, .int .i64 n, .int .i64 i, .slice OA os.length oc, .slice KA ks.length kc, .int .i64 need] w fun e w' => ∃ v, e = .returned (.tuple #[.int .i64 (kall (krs cs n i os (ks.map (·.l)) need)).1, v, .int .i64 (kall (krs cs n i os (ks.map (·.l)) need)).2.2]) ∧ w'.ownsRow w.heap.size 3 1 v (kall (krs cs n i os (ks.map (·.l)) need)).2.1.length ((kall (krs cs n i os (ks.map (·.l)) need)).2.1.map (Value.int .i64)) ∧ Below w.heap.size w w' := by
  have HF : Hid (∀ W, Below w.heap.size w W → DrFit W CA cs OA os KA ks) := Lib.hid (fun W hW => hf.below hW)
  have HT : Hid (∀ W, Below w.heap.size w W → Tabs W) := Lib.hid (fun W hW => hT.below hW)
  obtain ⟨rs, hrs⟩ : ∃ rs, krs cs n i os (ks.map (·.l)) need = rs := ⟨_, rfl⟩
  have HRG : Hid (∀ (k : Nat) (c : ByteArray × ByteArray) (o : Og) (a : Kw), cs[k]? = some c → os[k]? = some o → ks[k]? = some a → rs[k]? = some (kone c n (cs.length : Int) i o a.l need)) := Lib.hid (fun k c o a hc ho ha => by
    rw [← hrs]; exact krs_get hc ho (by rw [List.getElem?_map, ha]; rfl))
  have HRL : Hid (rs.length = cs.length) := Lib.hid (by rw [← hrs]; exact krs_len hol (by rw [List.length_map]; exact hkl))
  rw [hrs]
  clear hrs
  obtain ⟨KA1, hKA1⟩ : ∃ x, kall rs = x := ⟨_, rfl⟩
  rw [hKA1]
  have HKE := Lib.hid hKA1
  have HSR : Hid (∀ k, 0 ≤ ksum rs k ∧ ksum rs k < 720) := Lib.hid (fun k => ksum_range rs k)
  have HWL : Hid (∀ k, (kwh rs k).length ≤ k) := Lib.hid (fun k => kwh_len rs k)
  obtain ⟨i0, hi0, hz0, hz1, hz2⟩ := info_parts info_int
  have HI := Lib.hid (And.intro hi0 (And.intro hz0 (And.intro hz1 hz2)))
  have HO0 : Hid (w.ownsRow w.heap.size 3 1 (.slice none 0 0) (kwh rs 0).length ((kwh rs 0).map (Value.int .i64))) := Lib.hid (World.ownsRow_nil _ _ _ _)
  have HS0 : Hid (ksum rs 0 = 0) := Lib.hid rfl
  have hw1 : wiB (cs.length : Int) 1 7 = true := decide_eq_true (by omega)
  have hw2 : wiB (n : Int) 1 600 = true := decide_eq_true (by omega)
  have hw3 : wiB (i : Int) 0 ((n : Int) - 1) = true := decide_eq_true (by omega)
  have hw4 : wiB (need : Int) 1 cs.length = true := decide_eq_true (by omega)
  have H1 := Lib.hid hw1
  have H2 := Lib.hid hw2
  have H3 := Lib.hid hw3
  have H4 := Lib.hid hw4
  have HOL := Lib.hid hol
  have HKL := Lib.hid hkl
  have hb1 : ((cs.length : Int) == (cs.length : Int)) = true := by simp
  have hb2 : ((cs.length : Int) != (cs.length : Int)) = false := by simp
  clear hf hT hi0 hz0 hz1 hz2 hw1 hw2 hw3 hw4 hKA1
  rw [hol, hkl]
  clear hol hkl
  go_enter Tryz.func25, Tryz.ntmps25
  go_wp2_with fail
  refine (kwithin_any _ _ _ _).mono ?_
  rintro e _ ⟨rfl, rfl⟩
  rw [H1.out]
  go_wp2_with fail
  refine (kwithin_any _ _ _ _).mono ?_
  rintro e _ ⟨rfl, rfl⟩
  rw [H2.out]
  go_wp2_with fail
  refine (kwithin_any _ _ _ _).mono ?_
  rintro e _ ⟨rfl, rfl⟩
  rw [H3.out]
  go_wp2_with fail
  refine (kwithin_any _ _ _ _).mono ?_
  rintro e _ ⟨rfl, rfl⟩
  rw [H4.out]
  go_wp2_with fail
  go_loopw [15, 16, 17, 18, 19, 20, 60] (fun u15 u16 _ _ _ _ u60 wr => ∃ k : Nat, k ≤ cs.length ∧ u60 = .int .i64 k ∧ Below w.heap.size w wr ∧ u15 = .int .i64 (ksum rs k) ∧ wr.ownsRow w.heap.size 3 1 u16 (kwh rs k).length ((kwh rs k).map (Value.int .i64)) ∧ (∀ (j : Nat) (r : Int × Int × Bool), j < k → rs[j]? = some r → r.2.1 = 0)) (fun _ _ _ _ _ _ u60 _ => cs.length - (intOf u60).toNat)
  case atStart => exact ⟨0, Nat.zero_le _, rfl, Below.refl _ _, rfl, HO0.out, fun j r hj => by omega⟩
  case round =>
  obtain ⟨k, hk, rfl, hb, rfl, ho, her⟩ := hrel
  have HBk := Lib.hid hb
  have HOk := Lib.hid ho
  have HER := Lib.hid her
  obtain ⟨hsr0, hsr1⟩ := HSR.out k
  have hwl := HWL.out k
  clear hb ho her
  by_cases hlt : k < cs.length
  case neg =>
    obtain rfl : k = cs.length := by omega
    have hke : KA1 = (ksum rs cs.length, kwh rs cs.length, 0) := by
      rw [← HKE.out, kall_ok (fun j r hj => HER.out j r (by have := (List.getElem?_eq_some_iff.1 hj).1; rw [HRL.out] at this; exact this) hj), HRL.out]
    have HE := Lib.hid hke
    clear hke
    go_wp2
    go_ret3
    rw [HE.out]
    exact ⟨_, rfl, HOk.out, HBk.out⟩
  case pos =>
  have hfit := HF.out wr HBk.out
  obtain ⟨c, hc⟩ := get_some cs k hlt
  obtain ⟨o, hoo⟩ := get_some os k (by rw [HOL.out]; exact hlt)
  obtain ⟨a, ha⟩ := get_some ks k (by rw [HKL.out]; exact hlt)
  have hrk := HRG.out k c o a hc hoo ha
  have hof := hfit.og o (List.mem_of_getElem? hoo)
  have haf := hfit.kw a (List.mem_of_getElem? ha)
  have hkr := kone_range c n (cs.length : Int) i o a.l need
  have hoix := hof.ix
  have hov := hof.v
  unfold i64ok at hoix hov
  obtain ⟨bO, oO, hOe, o0, o1, o2, o3⟩ := og_cells hfit.o hoo
  have ol_ := lt_of_cell o0
  have HCC : Hid (∀ W, Below w.heap.size w W → ∃ b off, CA = some ⟨b, off, none⟩ ∧ W.cell? ⟨b, off + k * 2, none⟩ = some (.string c.1) ∧ W.cell? ⟨b, off + k * 2 + 1, none⟩ = some (.string c.2) ∧ b < W.heap.size) := Lib.hid (fun W hW => by
    obtain ⟨b, off, he, c0, c1⟩ := cm_cells (HF.out W hW).c hc
    exact ⟨b, off, he, c0, c1, lt_of_cell c0⟩)
  have HKW : Hid (∀ W, Below w.heap.size w W → ∃ b off, KA = some ⟨b, off, none⟩ ∧ W.cell? ⟨b, off + k, none⟩ = some (.slice a.A a.l.length a.c) ∧ b < W.heap.size) := Lib.hid (fun W hW => by
    obtain ⟨b, off, he, c0⟩ := kw_cells (HF.out W hW).k ha
    exact ⟨b, off, he, c0, lt_of_cell c0⟩)
  obtain ⟨bC, oC, hCe, -, -, -⟩ := HCC.out w (Below.refl _ _)
  obtain ⟨bK, oK, hKe, -, -⟩ := HKW.out w (Below.refl _ _)
  have HRK := Lib.hid hrk
  have HOF : Hid (∀ W, Below w.heap.size w W → OgFit W o) := Lib.hid (fun W hW => (HF.out W hW).og o (List.mem_of_getElem? hoo))
  have HAF : Hid (∀ W, Below w.heap.size w W → KwFit W a) := Lib.hid (fun W hW => (HF.out W hW).kw a (List.mem_of_getElem? ha))
  subst hOe hCe hKe
  clear hfit hc hoo ha hrk hof haf
  obtain ⟨wa, hwa⟩ : ∃ wa, wr.alloc (.cells #[.int .i64 o.ix, .int .i64 o.v, .string o.salt, .slice o.A o.p.length o.c] 32) = wa := ⟨_, rfl⟩
  have HBa : Hid (Below w.heap.size w wa) := Lib.hid (by rw [← hwa]; exact below_alloc HBk.out _)
  have HOa := Lib.hid (HOk.out.alloc (.cells #[.int .i64 o.ix, .int .i64 o.v, .string o.salt, .slice o.A o.p.length o.c] 32))
  rw [hwa] at HOa
  have HOC : Hid (∀ W, Below wa.heap.size wa W → W.cell? ⟨wr.heap.size, 0, none⟩ = some (.int .i64 o.ix) ∧ W.cell? ⟨wr.heap.size, 1, none⟩ = some (.int .i64 o.v) ∧ W.cell? ⟨wr.heap.size, 2, none⟩ = some (.string o.salt) ∧ W.cell? ⟨wr.heap.size, 3, none⟩ = some (.slice o.A o.p.length o.c) ∧ wr.heap.size < W.heap.size) := Lib.hid (fun W hW => by
    have h1 : Blk wa wr.heap.size 32 #[.int .i64 o.ix, .int .i64 o.v, .string o.salt, .slice o.A o.p.length o.c] := by rw [← hwa]; exact Blk.new _ _ _ _ rfl
    have h0 := kept_cell hW (h1.of_cell (i := 0) rfl)
    exact ⟨h0, kept_cell hW (h1.of_cell (i := 1) rfl), kept_cell hW (h1.of_cell (i := 2) rfl), kept_cell hW (h1.of_cell (i := 3) rfl), lt_of_cell h0⟩)
  have HCK : Hid (∀ W, Below wa.heap.size wa W → Calls Tryz.prog 27 #[.agg #[.string c.1, .string c.2], .int .i64 n, .agg #[.int .i64 o.ix, .int .i64 o.v, .string o.salt, .slice o.A o.p.length o.c]] W fun e w' => e = .returned (.bool (ckB c.1 n o.ix o.v o.salt o.p)) ∧ Below wa.heap.size wa w') := Lib.hid (fun W hW => by
    have hW2 := below_trans HBa.out hW
    exact (kcheck_any c n o W (HOF.out W hW2) ⟨by omega, by omega⟩ (HT.out W hW2)).mono fun _ _ ⟨he, hb⟩ => ⟨he, below_trans hW hb⟩)
  have HJN : Hid (∀ W, Below w.heap.size w W → Calls Tryz.prog 62 #[.agg #[.string c.1, .string c.2], .int .i64 n, .int .i64 cs.length, .int .i64 i, .slice a.A a.l.length a.c, .int .i64 need] W fun e w' => e = .returned (.tuple #[.int .i64 (kjn c.2 n (cs.length : Int) i a.l need).1, .int .i64 (kjn c.2 n (cs.length : Int) i a.l need).2]) ∧ Below W.heap.size W w') := Lib.hid (fun W hW => kjoin_any c n cs.length i a need W (HAF.out W hW) hn6 (by omega) hin ⟨by omega, by omega⟩ (HT.out W hW))
  have HWA := Lib.hid hwa
  clear hwa
  obtain ⟨ck, hck⟩ : ∃ b, ckB c.1 n o.ix o.v o.salt o.p = b := ⟨_, rfl⟩
  rw [hck] at HCK
  have HKO1 : Hid (o.ix = (i : Int) → ck = true → kone c n (cs.length : Int) i o a.l need = (o.v, 0, false)) := Lib.hid (fun h1 h2 => by unfold kone; rw [if_pos ⟨h1, by rw [hck]; exact h2⟩])
  have HKO2 : Hid (¬ (o.ix = (i : Int) ∧ ck = true) → kone c n (cs.length : Int) i o a.l need = ((kjn c.2 n (cs.length : Int) i a.l need).1, (kjn c.2 n (cs.length : Int) i a.l need).2, true)) := Lib.hid (fun h => by unfold kone; rw [if_neg (by rw [hck]; exact h)])
  clear hck
  generalize kone c n (cs.length : Int) i o a.l need = KO at *
  generalize kjn c.2 n (cs.length : Int) i a.l need = KN at *
  go_wp2_with fail
  have hwa := HWA.out
  rw [hwa]
  clear hwa o0 o1 o2 o3 ol_
  by_cases c1 : o.ix = (i : Int)
  case neg =>
    have c1' : ¬ o.ix = (i : Int) := c1
    have d1 : (o.ix == (i : Int)) = false := by simpa using c1
    have d2 : (o.ix != (i : Int)) = true := by simpa using c1
    clear c1
    refine wp_region_belowC (by kernel_rfl) (by kernel_rfl) (fun WQ HQS HQN => ?_)
    refine HQS.go (fun K hK => ?_)
    go_simp
    apply Exists.intro
    refine ⟨fun W hW => ?_, hK _ ?_⟩
    · (try go_simp)
      exact rfl
    clear hK K
    refine HQS.go (fun K hK => ?_)
    go_simp
    apply Exists.intro
    refine ⟨fun W hW => ?_, hK _ ?_⟩
    · obtain ⟨z0, z1, z2, z3, zl⟩ := HOC.out W hW
      go_simp
      exact rfl
    clear hK K
    refine HQS.go (fun K hK => ?_)
    go_simp
    apply Exists.intro
    refine ⟨fun W hW => ?_, hK _ ?_⟩
    · (try go_simp)
      exact rfl
    clear hK K
    refine HQS.go (fun K hK => ?_)
    go_simp
    apply Exists.intro
    refine ⟨fun W hW => ?_, hK _ ?_⟩
    · (try go_simp)
      exact rfl
    clear hK K
    refine HQS.go (fun K hK => ?_)
    go_simp
    apply Exists.intro
    refine ⟨fun W hW => ?_, hK _ ?_⟩
    · (try go_simp)
      exact rfl
    clear hK K
    refine HQS.go (fun K hK => ?_)
    go_simp
    refine hK _ ?_
    clear hK K
    refine HQS.go (fun K hK => ?_)
    go_simp
    refine hK _ ?_
    clear hK K
    refine HQS.go (fun K hK => ?_)
    go_simp
    refine hK _ ?_
    clear hK K
    refine HQS.go (fun K hK => ?_)
    go_simp
    refine hK _ ?_
    clear hK K
    refine HQS.go (fun K hK => ?_)
    go_simp
    refine hK _ ?_
    clear hK K
    refine HQS.go (fun K hK => ?_)
    go_simp
    refine hK _ ?_
    clear hK K
    refine HQS.go (fun K hK => ?_)
    go_simp
    refine hK _ ?_
    clear hK K
    refine HQS.go (fun K hK => ?_)
    go_simp
    refine hK _ ?_
    clear hK K
    refine HQS.go (fun K hK => ?_)
    go_simp
    apply Exists.intro
    refine ⟨fun W hW => ?_, hK _ ?_⟩
    · (try go_simp)
      exact rfl
    clear hK K
    refine HQN.go ?_
    intro wb hb
    have HBb := Lib.hid (below_trans HBa.out hb)
    have HOb := Lib.hid (row_below HOa.out hb)
    clear hb
    have hk2 := HKO2.out (by first | exact fun h => absurd h.1 c1' | exact fun h => absurd h.2 (by simp))
    have HK2 := Lib.hid hk2
    clear hk2
    go_wp2_with fail
    refine wp_region_belowC (by kernel_rfl) (by kernel_rfl) (fun WQ HQS HQN => ?_)
    refine HQS.go (fun K hK => ?_)
    go_simp
    apply Exists.intro
    refine ⟨fun W hW => ?_, hK _ ?_⟩
    · (try go_simp)
      exact rfl
    clear hK K
    refine HQS.go (fun K hK => ?_)
    go_simp
    apply Exists.intro
    refine ⟨fun W hW => ?_, hK _ ?_⟩
    · (try go_simp)
      exact rfl
    clear hK K
    refine HQS.go (fun K hK => ?_)
    go_simp
    apply Exists.intro
    refine ⟨fun W hW => ?_, hK _ ?_⟩
    · (try go_simp)
      exact rfl
    clear hK K
    refine HQS.go (fun K hK => ?_)
    go_simp
    apply Exists.intro
    refine ⟨fun W hW => ?_, hK _ ?_⟩
    · obtain ⟨b_, f_, he_, y0, y1, yl⟩ := HCC.out W (below_trans HBb.out hW)
      cases he_
      go_simp
      exact rfl
    clear hK K
    refine HQS.go (fun K hK => ?_)
    go_simp
    apply Exists.intro
    refine ⟨fun W hW => ?_, hK _ ?_⟩
    · (try go_simp)
      exact rfl
    clear hK K
    refine HQS.go (fun K hK => ?_)
    go_simp
    apply Exists.intro
    refine ⟨fun W hW => ?_, hK _ ?_⟩
    · (try go_simp)
      exact rfl
    clear hK K
    refine HQS.go (fun K hK => ?_)
    go_simp
    apply Exists.intro
    refine ⟨fun W hW => ?_, hK _ ?_⟩
    · (try go_simp)
      exact rfl
    clear hK K
    refine HQS.go (fun K hK => ?_)
    go_simp
    apply Exists.intro
    refine ⟨fun W hW => ?_, hK _ ?_⟩
    · (try go_simp)
      exact rfl
    clear hK K
    refine HQS.go (fun K hK => ?_)
    go_simp
    apply Exists.intro
    refine ⟨fun W hW => ?_, hK _ ?_⟩
    · (try go_simp)
      exact rfl
    clear hK K
    refine HQS.go (fun K hK => ?_)
    go_simp
    apply Exists.intro
    refine ⟨fun W hW => ?_, hK _ ?_⟩
    · (try go_simp)
      exact rfl
    clear hK K
    refine HQS.go (fun K hK => ?_)
    go_simp
    apply Exists.intro
    refine ⟨fun W hW => ?_, hK _ ?_⟩
    · (try go_simp)
      exact rfl
    clear hK K
    refine HQS.go (fun K hK => ?_)
    go_simp
    apply Exists.intro
    refine ⟨fun W hW => ?_, hK _ ?_⟩
    · obtain ⟨b_, f_, he_, y0, yl⟩ := HKW.out W (below_trans HBb.out hW)
      cases he_
      go_simp
      exact rfl
    clear hK K
    refine HQS.go (fun K hK => ?_)
    go_simp
    apply Exists.intro
    refine ⟨fun W hW => ?_, hK _ ?_⟩
    · (try go_simp)
      exact rfl
    clear hK K
    refine HQS.go (fun K hK => ?_)
    go_simp
    apply Exists.intro
    refine ⟨fun W hW => ?_, hK _ ?_⟩
    · exact (HJN.out W (below_trans HBb.out hW)).mono fun _ _ ⟨he, hb⟩ => ⟨he, below_trans hW hb⟩
    clear hK K
    refine HQS.go (fun K hK => ?_)
    go_simp
    apply Exists.intro
    refine ⟨fun W hW => ?_, hK _ ?_⟩
    · (try go_simp)
      exact rfl
    clear hK K
    refine HQS.go (fun K hK => ?_)
    go_simp
    apply Exists.intro
    refine ⟨fun W hW => ?_, hK _ ?_⟩
    · (try go_simp)
      exact rfl
    clear hK K
    refine HQS.go (fun K hK => ?_)
    go_simp
    apply Exists.intro
    refine ⟨fun W hW => ?_, hK _ ?_⟩
    · (try go_simp)
      exact rfl
    clear hK K
    refine HQS.go (fun K hK => ?_)
    go_simp
    apply Exists.intro
    refine ⟨fun W hW => ?_, hK _ ?_⟩
    · (try go_simp)
      exact rfl
    clear hK K
    refine HQS.go (fun K hK => ?_)
    go_simp
    apply Exists.intro
    refine ⟨fun W hW => ?_, hK _ ?_⟩
    · (try go_simp)
      exact rfl
    clear hK K
    refine HQN.go ?_
    intro wc hb
    have HBc := Lib.hid (below_trans HBb.out hb)
    have HOc := Lib.hid (row_below HOb.out hb)
    clear hb
    obtain ⟨x, er⟩ := KN
    simp only at HK2
    have hr2 := HRK.out
    rw [HK2.out] at hr2 hkr
    have HR2 := Lib.hid hr2
    obtain ⟨hx0, hx1⟩ := hkr
    simp only at hx0 hx1
    clear hr2
    by_cases he0 : er = 0
    case neg =>
      have hke : KA1 = (0, [], er) := by rw [← HKE.out]; exact kall_err HER.out HR2.out he0
      have HE := Lib.hid hke
      have hb3 : (er == 0) = false := by simpa using he0
      have hb4 : (er != 0) = true := by simpa using he0
      clear hke
      go_wp2
      go_ret3
      rw [HE.out]
      exact ⟨_, rfl, World.ownsRow_nil _ _ _ _, HBc.out⟩
    case pos =>
    subst he0
    have hks := ksum_succ HR2.out
    have hkw := kwh_succ HR2.out
    rw [if_pos rfl] at hkw
    have HKS := Lib.hid hks
    have HKW2 := Lib.hid hkw
    have hsz := HBc.out.size
    clear hks hkw
    generalize ksum rs k = sk at *
    generalize hwk : kwh rs k = wk at *
    go_wp2_with (at_builtin; refine wpList_app _ rfl (.tmp 101) (.tmp 103) 23 23 rfl w.heap.size 3 3 i0 _ 1 8 Tryz.underlying23 Tryz.underlying23 HI.out.1 HI.out.2.1 HI.out.2.2.1 HI.out.2.2.2 rfl (by omega) _ wk.length _ rfl (HOc.out.alloc _) _ 1 1 [.int .i64 k] rfl (Rd_new wc #[.int .i64 k] _ 1 1 _ rfl rfl) (by simp [Value.oneCell']) (by simp only [maxLen]; omega) (by omega) (by simp; omega) ?_)
    intro v1 wd hownd hgd
    have e5 : wk.map (Value.int .i64) ++ [.int .i64 (k : Int)] = (kwh rs (k + 1)).map (Value.int .i64) := by rw [HKW2.out, List.map_append]; rfl
    have e6 : wk.length + 1 = (kwh rs (k + 1)).length := by rw [HKW2.out]; simp
    rw [e5, e6] at hownd
    have HBd : Hid (Below w.heap.size w wd) := Lib.hid ((below_alloc HBc.out _).grown hgd (by simp; omega) (fun j hj => (HOc.out.lt j hj).1))
    have HOd := Lib.hid hownd
    clear hownd hgd e5 e6 hwk
    go_wp2
    go_roundw
    case rel =>
      refine ⟨k + 1, by omega, by go_num, HBd.out, by rw [HKS.out], HOd.out, fun j r hj hr => ?_⟩
      by_cases hjk : j < k
      · exact HER.out j r hjk hr
      · obtain rfl : j = k := by omega
        rw [HR2.out] at hr
        rw [← Option.some.inj hr]
    case measure => simp [intOf]; omega
  case pos =>
  have d1 : (o.ix == (i : Int)) = true := by simpa using c1
  have d2 : (o.ix != (i : Int)) = false := by simpa using c1
  have HC1 := Lib.hid c1
  clear c1
  refine wp_region_belowC (by kernel_rfl) (by kernel_rfl) (fun WQ HQS HQN => ?_)
  refine HQS.go (fun K hK => ?_)
  go_simp
  apply Exists.intro
  refine ⟨fun W hW => ?_, hK _ ?_⟩
  · (try go_simp)
    exact rfl
  clear hK K
  refine HQS.go (fun K hK => ?_)
  go_simp
  apply Exists.intro
  refine ⟨fun W hW => ?_, hK _ ?_⟩
  · obtain ⟨z0, z1, z2, z3, zl⟩ := HOC.out W hW
    go_simp
    exact rfl
  clear hK K
  refine HQS.go (fun K hK => ?_)
  go_simp
  apply Exists.intro
  refine ⟨fun W hW => ?_, hK _ ?_⟩
  · (try go_simp)
    exact rfl
  clear hK K
  refine HQS.go (fun K hK => ?_)
  go_simp
  apply Exists.intro
  refine ⟨fun W hW => ?_, hK _ ?_⟩
  · (try go_simp)
    exact rfl
  clear hK K
  refine HQS.go (fun K hK => ?_)
  go_simp
  apply Exists.intro
  refine ⟨fun W hW => ?_, hK _ ?_⟩
  · (try go_simp)
    exact rfl
  clear hK K
  refine HQS.go (fun K hK => ?_)
  go_simp
  apply Exists.intro
  refine ⟨fun W hW => ?_, hK _ ?_⟩
  · (try go_simp)
    exact rfl
  clear hK K
  refine HQS.go (fun K hK => ?_)
  go_simp
  apply Exists.intro
  refine ⟨fun W hW => ?_, hK _ ?_⟩
  · (try go_simp)
    exact rfl
  clear hK K
  refine HQS.go (fun K hK => ?_)
  go_simp
  apply Exists.intro
  refine ⟨fun W hW => ?_, hK _ ?_⟩
  · (try go_simp)
    exact rfl
  clear hK K
  refine HQS.go (fun K hK => ?_)
  go_simp
  apply Exists.intro
  refine ⟨fun W hW => ?_, hK _ ?_⟩
  · obtain ⟨b_, f_, he_, y0, y1, yl⟩ := HCC.out W (below_trans HBa.out hW)
    cases he_
    go_simp
    exact rfl
  clear hK K
  refine HQS.go (fun K hK => ?_)
  go_simp
  apply Exists.intro
  refine ⟨fun W hW => ?_, hK _ ?_⟩
  · (try go_simp)
    exact rfl
  clear hK K
  refine HQS.go (fun K hK => ?_)
  go_simp
  apply Exists.intro
  refine ⟨fun W hW => ?_, hK _ ?_⟩
  · obtain ⟨z0, z1, z2, z3, zl⟩ := HOC.out W hW
    go_simp
    exact rfl
  clear hK K
  refine HQS.go (fun K hK => ?_)
  go_simp
  apply Exists.intro
  refine ⟨fun W hW => ?_, hK _ ?_⟩
  · exact HCK.out W hW
  clear hK K
  refine HQS.go (fun K hK => ?_)
  go_simp
  apply Exists.intro
  refine ⟨fun W hW => ?_, hK _ ?_⟩
  · (try go_simp)
    exact rfl
  clear hK K
  refine HQS.go (fun K hK => ?_)
  go_simp
  apply Exists.intro
  refine ⟨fun W hW => ?_, hK _ ?_⟩
  · (try go_simp)
    exact rfl
  clear hK K
  refine HQN.go ?_
  intro wb hb
  have HBb := Lib.hid (below_trans HBa.out hb)
  have HOb := Lib.hid (row_below HOa.out hb)
  clear hb
  cases ck
  case false =>
    have hk2 := HKO2.out (by first | exact fun h => absurd h.1 c1' | exact fun h => absurd h.2 (by simp))
    have HK2 := Lib.hid hk2
    clear hk2
    go_wp2_with fail
    refine wp_region_belowC (by kernel_rfl) (by kernel_rfl) (fun WQ HQS HQN => ?_)
    refine HQS.go (fun K hK => ?_)
    go_simp
    apply Exists.intro
    refine ⟨fun W hW => ?_, hK _ ?_⟩
    · (try go_simp)
      exact rfl
    clear hK K
    refine HQS.go (fun K hK => ?_)
    go_simp
    apply Exists.intro
    refine ⟨fun W hW => ?_, hK _ ?_⟩
    · (try go_simp)
      exact rfl
    clear hK K
    refine HQS.go (fun K hK => ?_)
    go_simp
    apply Exists.intro
    refine ⟨fun W hW => ?_, hK _ ?_⟩
    · (try go_simp)
      exact rfl
    clear hK K
    refine HQS.go (fun K hK => ?_)
    go_simp
    apply Exists.intro
    refine ⟨fun W hW => ?_, hK _ ?_⟩
    · obtain ⟨b_, f_, he_, y0, y1, yl⟩ := HCC.out W (below_trans HBb.out hW)
      cases he_
      go_simp
      exact rfl
    clear hK K
    refine HQS.go (fun K hK => ?_)
    go_simp
    apply Exists.intro
    refine ⟨fun W hW => ?_, hK _ ?_⟩
    · (try go_simp)
      exact rfl
    clear hK K
    refine HQS.go (fun K hK => ?_)
    go_simp
    apply Exists.intro
    refine ⟨fun W hW => ?_, hK _ ?_⟩
    · (try go_simp)
      exact rfl
    clear hK K
    refine HQS.go (fun K hK => ?_)
    go_simp
    apply Exists.intro
    refine ⟨fun W hW => ?_, hK _ ?_⟩
    · (try go_simp)
      exact rfl
    clear hK K
    refine HQS.go (fun K hK => ?_)
    go_simp
    apply Exists.intro
    refine ⟨fun W hW => ?_, hK _ ?_⟩
    · (try go_simp)
      exact rfl
    clear hK K
    refine HQS.go (fun K hK => ?_)
    go_simp
    apply Exists.intro
    refine ⟨fun W hW => ?_, hK _ ?_⟩
    · (try go_simp)
      exact rfl
    clear hK K
    refine HQS.go (fun K hK => ?_)
    go_simp
    apply Exists.intro
    refine ⟨fun W hW => ?_, hK _ ?_⟩
    · (try go_simp)
      exact rfl
    clear hK K
    refine HQS.go (fun K hK => ?_)
    go_simp
    apply Exists.intro
    refine ⟨fun W hW => ?_, hK _ ?_⟩
    · (try go_simp)
      exact rfl
    clear hK K
    refine HQS.go (fun K hK => ?_)
    go_simp
    apply Exists.intro
    refine ⟨fun W hW => ?_, hK _ ?_⟩
    · obtain ⟨b_, f_, he_, y0, yl⟩ := HKW.out W (below_trans HBb.out hW)
      cases he_
      go_simp
      exact rfl
    clear hK K
    refine HQS.go (fun K hK => ?_)
    go_simp
    apply Exists.intro
    refine ⟨fun W hW => ?_, hK _ ?_⟩
    · (try go_simp)
      exact rfl
    clear hK K
    refine HQS.go (fun K hK => ?_)
    go_simp
    apply Exists.intro
    refine ⟨fun W hW => ?_, hK _ ?_⟩
    · exact (HJN.out W (below_trans HBb.out hW)).mono fun _ _ ⟨he, hb⟩ => ⟨he, below_trans hW hb⟩
    clear hK K
    refine HQS.go (fun K hK => ?_)
    go_simp
    apply Exists.intro
    refine ⟨fun W hW => ?_, hK _ ?_⟩
    · (try go_simp)
      exact rfl
    clear hK K
    refine HQS.go (fun K hK => ?_)
    go_simp
    apply Exists.intro
    refine ⟨fun W hW => ?_, hK _ ?_⟩
    · (try go_simp)
      exact rfl
    clear hK K
    refine HQS.go (fun K hK => ?_)
    go_simp
    apply Exists.intro
    refine ⟨fun W hW => ?_, hK _ ?_⟩
    · (try go_simp)
      exact rfl
    clear hK K
    refine HQS.go (fun K hK => ?_)
    go_simp
    apply Exists.intro
    refine ⟨fun W hW => ?_, hK _ ?_⟩
    · (try go_simp)
      exact rfl
    clear hK K
    refine HQS.go (fun K hK => ?_)
    go_simp
    apply Exists.intro
    refine ⟨fun W hW => ?_, hK _ ?_⟩
    · (try go_simp)
      exact rfl
    clear hK K
    refine HQN.go ?_
    intro wc hb
    have HBc := Lib.hid (below_trans HBb.out hb)
    have HOc := Lib.hid (row_below HOb.out hb)
    clear hb
    obtain ⟨x, er⟩ := KN
    simp only at HK2
    have hr2 := HRK.out
    rw [HK2.out] at hr2 hkr
    have HR2 := Lib.hid hr2
    obtain ⟨hx0, hx1⟩ := hkr
    simp only at hx0 hx1
    clear hr2
    by_cases he0 : er = 0
    case neg =>
      have hke : KA1 = (0, [], er) := by rw [← HKE.out]; exact kall_err HER.out HR2.out he0
      have HE := Lib.hid hke
      have hb3 : (er == 0) = false := by simpa using he0
      have hb4 : (er != 0) = true := by simpa using he0
      clear hke
      go_wp2
      go_ret3
      rw [HE.out]
      exact ⟨_, rfl, World.ownsRow_nil _ _ _ _, HBc.out⟩
    case pos =>
    subst he0
    have hks := ksum_succ HR2.out
    have hkw := kwh_succ HR2.out
    rw [if_pos rfl] at hkw
    have HKS := Lib.hid hks
    have HKW2 := Lib.hid hkw
    have hsz := HBc.out.size
    clear hks hkw
    generalize ksum rs k = sk at *
    generalize hwk : kwh rs k = wk at *
    go_wp2_with (at_builtin; refine wpList_app _ rfl (.tmp 101) (.tmp 103) 23 23 rfl w.heap.size 3 3 i0 _ 1 8 Tryz.underlying23 Tryz.underlying23 HI.out.1 HI.out.2.1 HI.out.2.2.1 HI.out.2.2.2 rfl (by omega) _ wk.length _ rfl (HOc.out.alloc _) _ 1 1 [.int .i64 k] rfl (Rd_new wc #[.int .i64 k] _ 1 1 _ rfl rfl) (by simp [Value.oneCell']) (by simp only [maxLen]; omega) (by omega) (by simp; omega) ?_)
    intro v1 wd hownd hgd
    have e5 : wk.map (Value.int .i64) ++ [.int .i64 (k : Int)] = (kwh rs (k + 1)).map (Value.int .i64) := by rw [HKW2.out, List.map_append]; rfl
    have e6 : wk.length + 1 = (kwh rs (k + 1)).length := by rw [HKW2.out]; simp
    rw [e5, e6] at hownd
    have HBd : Hid (Below w.heap.size w wd) := Lib.hid ((below_alloc HBc.out _).grown hgd (by simp; omega) (fun j hj => (HOc.out.lt j hj).1))
    have HOd := Lib.hid hownd
    clear hownd hgd e5 e6 hwk
    go_wp2
    go_roundw
    case rel =>
      refine ⟨k + 1, by omega, by go_num, HBd.out, by rw [HKS.out], HOd.out, fun j r hj hr => ?_⟩
      by_cases hjk : j < k
      · exact HER.out j r hjk hr
      · obtain rfl : j = k := by omega
        rw [HR2.out] at hr
        rw [← Option.some.inj hr]
    case measure => simp [intOf]; omega
  case true =>
  have hk1 := HKO1.out HC1.out rfl
  have hr2 := HRK.out
  rw [hk1] at hr2 hkr
  have HR2 := Lib.hid hr2
  obtain ⟨hx0, hx1⟩ := hkr
  simp only at hx0 hx1
  have hks := ksum_succ HR2.out
  have hkw := kwh_succ HR2.out
  rw [if_neg (by simp), List.append_nil] at hkw
  have HKS := Lib.hid hks
  have HKW2 := Lib.hid hkw
  clear hks hkw hr2 hk1
  generalize ksum rs k = sk at *
  generalize kwh rs k = wk at *
  go_wp2
  go_roundw
  case rel =>
    refine ⟨k + 1, by omega, by go_num, HBb.out, by rw [HKS.out], by rw [HKW2.out]; exact HOb.out, fun j r hj hr => ?_⟩
    by_cases hjk : j < k
    · exact HER.out j r hjk hr
    · obtain rfl : j = k := by omega
      rw [HR2.out] at hr
      rw [← Option.some.inj hr]
  case measure => simp [intOf]; omega
end

section
open Go.RowKit

theorem below_drewN {B : Nat} {w0 w : World} (h : Below B w0 w) (n : Nat) : Below B w0 (w.drewN n) := ⟨h.os, h.tape, h.output, h.size, h.block⟩

set_option maxRecDepth 100000 in
set_option maxHeartbeats 4000000 in
theorem kequal_any (A B : Option Addr) (c d : Nat) (l m : List Int) (w : World) (hA : Ints w A l) (hB : Ints w B m) (hl : l.length ≤ 1000000) (hm : m.length ≤ 1000000) :
    Calls Tryz.prog 29 #[.slice A l.length c, .slice B m.length d] w fun e w' => e = .returned (.bool (decide (l = m))) ∧ Below w.heap.size w w' := by
  have HA := Lib.hid hA; clear hA
  have HB := Lib.hid hB; clear hB
  by_cases hlen : l.length = m.length
  case neg =>
    have h1 : (((l.length : Int)) == (m.length : Int)) = false := by simp; omega
    have h2 : (((l.length : Int)) != (m.length : Int)) = true := by simp; omega
    have hne : decide (l = m) = false := by
      rw [decide_eq_false_iff_not]
      intro e
      exact hlen (by rw [e])
    have HNE := Lib.hid hne; clear hne hlen
    go_enter Tryz.func29, Tryz.ntmps29
    go_wp2
    go_ret
    rw [HNE.out]
    exact ⟨rfl, Below.refl _ _⟩
  case pos =>
  have h1 : (((l.length : Int)) == (m.length : Int)) = true := by simp [hlen]
  have h2 : (((l.length : Int)) != (m.length : Int)) = false := by simp [hlen]
  have HL := Lib.hid hlen; clear hlen
  go_enter Tryz.func29, Tryz.ntmps29
  go_wp2_with fail
  go_loopw [5] (fun u5 wr => ∃ (k q : Nat), k ≤ l.length ∧ u5 = .int .i64 k ∧ wr = w.drewN q ∧ l.take k = m.take k) (fun u5 _ => l.length - (intOf u5).toNat)
  case atStart => exact ⟨0, 0, Nat.zero_le _, rfl, rfl, rfl⟩
  case round =>
  obtain ⟨k, q, hk, rfl, rfl, hkm⟩ := hrel
  have HKM := Lib.hid hkm; clear hkm
  by_cases hlt : k < l.length
  case neg =>
    have he : decide (l = m) = true := by
      have := HKM.out
      have hl := HL.out
      rw [List.take_of_length_le (by omega), List.take_of_length_le (by omega)] at this
      simpa using this
    have HE := Lib.hid he; clear he
    go_wp2
    go_ret
    rw [HE.out]
    exact ⟨rfl, below_drewN (Below.refl _ _) _⟩
  case pos =>
  obtain ⟨s, hs⟩ := get_some l k hlt
  obtain ⟨t, ht⟩ := get_some m k (by rw [← HL.out]; exact hlt)
  have hmk : k < m.length := (List.getElem?_eq_some_iff.1 ht).1
  obtain ⟨b, off, rfl, hc1⟩ := HA.out.at_ hs
  obtain ⟨b', off', rfl, hd1⟩ := HB.out.at_ ht
  have HS := Lib.hid hs
  have HT := Lib.hid ht
  clear hs ht
  by_cases hst : s = t
  case pos =>
    have e1 : (s == t) = true := by simp [hst]
    have e2 : (s != t) = false := by simp [hst]
    have HST := Lib.hid hst; clear hst
    go_wp2
    go_quiet (fail)
    go_wp2
    go_roundw
    case rel => exact ⟨k + 1, _, by omega, by go_num, rfl, by rw [take_snoc l k s HS.out, take_snoc m k t HT.out, HKM.out, HST.out]⟩
    case measure => simp [intOf]; omega
  case neg =>
    have hne : decide (l = m) = false := by
      rw [decide_eq_false_iff_not]
      intro e
      have h1 := HS.out
      have h2 := HT.out
      rw [e, h2] at h1
      exact hst (Option.some.inj h1).symm
    have HNE := Lib.hid hne; clear hne
    have e1 : (s == t) = false := by simp [hst]
    have e2 : (s != t) = true := by simp [hst]
    clear hst
    go_wp2
    go_quiet (fail)
    go_wp2
    go_ret
    rw [HNE.out]
    exact ⟨rfl, below_drewN (below_drewN (Below.refl _ _) _) _⟩
def fw30 (l : List Int) (salt : ByteArray) (random : List Int) : Bool := decide (l.length ≤ 6 ∧ (salt.size ≤ 60 ∨ 400 < salt.size ∧ salt.size ≤ 500) ∧ random.length ≤ 40)
set_option maxHeartbeats 2000000 in
theorem rfew30_any (A : Option Addr) (c : Nat) (l : List Int) (salt : ByteArray) (B : Option Addr) (d : Nat) (random : List Int) (w : World) :
    Calls Tryz.prog 11 #[.slice A l.length c, .string salt, .slice B random.length d] w fun e w' => e = .returned (.bool (fw30 l salt random)) ∧ w = w' := by
  by_cases h1 : l.length ≤ 6
  case neg =>
    go_enter Tryz.func11, Tryz.ntmps11
    go_wp2
    go_ret
    exact ⟨ret_bool (by rw [Bool.eq_iff_iff]; simp [fw30]; omega), rfl⟩
  case pos =>
  by_cases h2 : salt.size ≤ 60
  case pos =>
    by_cases h3 : random.length ≤ 40
    all_goals
      go_enter Tryz.func11, Tryz.ntmps11
      go_wp2
      go_ret
      exact ⟨ret_bool (by rw [Bool.eq_iff_iff]; simp [fw30]; omega), rfl⟩
  case neg =>
  by_cases h4 : 400 < salt.size
  case neg =>
    go_enter Tryz.func11, Tryz.ntmps11
    go_wp2
    go_ret
    exact ⟨ret_bool (by rw [Bool.eq_iff_iff]; simp [fw30]; omega), rfl⟩
  case pos =>
  by_cases h5 : salt.size ≤ 500
  case neg =>
    go_enter Tryz.func11, Tryz.ntmps11
    go_wp2
    go_ret
    exact ⟨ret_bool (by rw [Bool.eq_iff_iff]; simp [fw30]; omega), rfl⟩
  case pos =>
  by_cases h3 : random.length ≤ 40
  all_goals
    go_enter Tryz.func11, Tryz.ntmps11
    go_wp2
    go_ret
    exact ⟨ret_bool (by rw [Bool.eq_iff_iff]; simp [fw30]; omega), rfl⟩

def fwK (l : List Kr) (kr : Kr) : Bool := fw30 kr.seeds kr.salt kr.random && decide (kr.seeds.length = ((l[0]?.map (·.seeds.length)).getD 0))
def fewK (l : List Kr) : Bool := decide (1 ≤ l.length ∧ l.length ≤ 4) && l.all (fwK l)
theorem kr_cells {w : World} {A : Option Addr} {l : List Kr} (h : RowOf krC 3 w A l) {j : Nat} {o : Kr} (hj : l[j]? = some o) : ∃ b off, A = some ⟨b, off, none⟩ ∧ w.cell? ⟨b, off + j * 3, none⟩ = some (.slice o.SA o.seeds.length o.sc) ∧ w.cell? ⟨b, off + j * 3 + 1, none⟩ = some (.string o.salt) ∧ w.cell? ⟨b, off + j * 3 + 2, none⟩ = some (.slice o.RA o.random.length o.rc) := by
  obtain ⟨b, off, he, hc⟩ := h.at_ krC_len hj
  exact ⟨b, off, he, by have := hc 0 _ rfl; simpa using this, hc 1 _ rfl, hc 2 _ rfl⟩

set_option maxRecDepth 100000 in
set_option maxHeartbeats 8000000 in
theorem kfew_any (A : Option Addr) (c : Nat) (l : List Kr) (w : World) (hA : RowOf krC 3 w A l) (hl : l.length ≤ 9223372036854775807) :
    Calls Tryz.prog 33 #[.slice A l.length c] w fun e w' => e = .returned (.bool (fewK l)) ∧ Below w.heap.size w w' := by
  have HA : Hid (∀ W, Below w.heap.size w W → RowOf krC 3 W A l) := Lib.hid (fun W hW => hA.below hW)
  have HAT : Hid (∀ (k : Nat) (x : Kr), l[k]? = some x → fwK l x = false → fewK l = false) := Lib.hid (fun k x hx h => by unfold fewK; rw [all_false_of (fwK l) l k x hx h, Bool.and_false])
  have HBG : Hid (¬ (1 ≤ l.length ∧ l.length ≤ 4) → fewK l = false) := Lib.hid (fun h => by unfold fewK; rw [decide_eq_false h]; rfl)
  have HOK : Hid (1 ≤ l.length → l.length ≤ 4 → l.all (fwK l) = true → fewK l = true) := Lib.hid (fun h1 h2 h3 => by unfold fewK; rw [h3, decide_eq_true ⟨h1, h2⟩]; rfl)
  have HFW : Hid (∀ x : Kr, fwK l x = (fw30 x.seeds x.salt x.random && decide (x.seeds.length = ((l[0]?.map (·.seeds.length)).getD 0)))) := Lib.hid (fun x => rfl)
  obtain ⟨r, hr⟩ : ∃ r, fewK l = r := ⟨_, rfl⟩
  rw [hr] at HAT HBG HOK ⊢
  clear hA hr
  go_enter Tryz.func33, Tryz.ntmps33
  go_wp2_with fail
  go_loopw [3] (fun u3 wr => ∃ k : Nat, k ≤ l.length ∧ k ≤ 9 ∧ u3 = .int .i64 k ∧ Below w.heap.size w wr ∧ (l.take k).all (fwK l) = true) (fun u3 _ => 10 - (intOf u3).toNat)
  case atStart => exact ⟨0, Nat.zero_le _, by omega, rfl, Below.refl _ _, rfl⟩
  case round =>
  obtain ⟨k, hk, hk9, rfl, hb, hall⟩ := hrel
  have HBk := Lib.hid hb
  have HAL := Lib.hid hall
  clear hb hall
  by_cases hlt : k < l.length
  case neg =>
    obtain rfl : k = l.length := by omega
    have hal := HAL.out
    rw [List.take_of_length_le (Nat.le_refl _)] at hal
    by_cases h1 : 1 ≤ l.length
    · by_cases h4 : l.length ≤ 4
      · have hrt := HOK.out h1 h4 hal
        subst hrt
        clear hal
        go_wp2
        go_ret
        exact ⟨ret_bool (by first | rfl | (simp; done) | (simp; omega)), HBk.out⟩
      · have hrt := HBG.out (fun h => h4 h.2)
        subst hrt
        clear hal
        go_wp2
        go_ret
        exact ⟨ret_bool (by first | rfl | (simp; done) | (simp; omega)), HBk.out⟩
    · have hrt := HBG.out (fun h => h1 h.1)
      subst hrt
      clear hal
      go_wp2
      go_ret
      exact ⟨ret_bool (by first | rfl | (simp; done) | (simp; omega)), HBk.out⟩
  case pos =>
  by_cases h9 : k < 9
  case neg =>
    have hrt := HBG.out (fun h => by omega)
    subst hrt
    go_wp2
    go_ret
    exact ⟨ret_bool (by first | rfl | (simp; done) | (simp; omega)), HBk.out⟩
  case pos =>
  obtain ⟨x, hx⟩ := get_some l k hlt
  obtain ⟨x0, hx0⟩ := get_some l 0 (by omega)
  have HC : Hid (∀ W, Below w.heap.size w W → ∃ b off, A = some ⟨b, off, none⟩ ∧ W.cell? ⟨b, off + k * 3, none⟩ = some (.slice x.SA x.seeds.length x.sc) ∧ W.cell? ⟨b, off + k * 3 + 1, none⟩ = some (.string x.salt) ∧ W.cell? ⟨b, off + k * 3 + 2, none⟩ = some (.slice x.RA x.random.length x.rc) ∧ W.cell? ⟨b, off, none⟩ = some (.slice x0.SA x0.seeds.length x0.sc) ∧ b < W.heap.size) := Lib.hid (fun W hW => by
    obtain ⟨b, off, he, c0, c1, c2⟩ := kr_cells (HA.out W hW) hx
    obtain ⟨b', off', he', d0, _, _⟩ := kr_cells (HA.out W hW) hx0
    rw [he] at he'
    injection he' with he'
    injection he' with e1 e2
    subst e1 e2
    exact ⟨b, off, he, c0, c1, c2, by simpa using d0, lt_of_cell c0⟩)
  obtain ⟨bA, oA, hAe, -, -, -, -, -⟩ := HC.out w (Below.refl _ _)
  subst hAe
  have HX := Lib.hid hx
  have hfw := HFW.out x
  rw [hx0] at hfw
  have h0l : 0 < l.length := by omega
  have h0i : (0 : Int) < (l.length : Int) := by omega
  have hki : (k : Int) < (l.length : Int) := by omega
  have hk9i : (k : Int) < 9 := by omega
  obtain ⟨bf, hbf⟩ : ∃ b, fw30 x.seeds x.salt x.random = b := ⟨_, rfl⟩
  have HF : Hid (∀ W, Calls Tryz.prog 11 #[.slice x.SA x.seeds.length x.sc, .string x.salt, .slice x.RA x.random.length x.rc] W fun e w' => e = .returned (.bool bf) ∧ W = w') := Lib.hid (fun W => by
    have := rfew30_any x.SA x.sc x.seeds x.salt x.RA x.rc x.random W
    rw [hbf] at this
    exact this)
  rw [hbf] at hfw
  clear hx hx0 hbf
  have hfw' : fwK l x = (bf && decide (x.seeds.length = x0.seeds.length)) := hfw
  have HFX := Lib.hid hfw'
  clear hfw hfw'
  cases bf
  case false =>
    have hrt := HAT.out k x HX.out (by rw [HFX.out]; rfl)
    subst hrt
    go_wp2_with fail
    refine wp_region_belowC (by kernel_rfl) (by kernel_rfl) (fun WQ HQS HQN => ?_)
    refine HQS.go (fun K hK => ?_)
    go_simp
    apply Exists.intro
    refine ⟨fun W hW => ?_, hK _ ?_⟩
    · (try go_simp)
      exact rfl
    clear hK K
    refine HQS.go (fun K hK => ?_)
    go_simp
    apply Exists.intro
    refine ⟨fun W hW => ?_, hK _ ?_⟩
    · (try go_simp)
      exact rfl
    clear hK K
    refine HQS.go (fun K hK => ?_)
    go_simp
    apply Exists.intro
    refine ⟨fun W hW => ?_, hK _ ?_⟩
    · (try go_simp)
      exact rfl
    clear hK K
    refine HQS.go (fun K hK => ?_)
    go_simp
    apply Exists.intro
    refine ⟨fun W hW => ?_, hK _ ?_⟩
    · (try go_simp)
      exact rfl
    clear hK K
    refine HQS.go (fun K hK => ?_)
    go_simp
    apply Exists.intro
    refine ⟨fun W hW => ?_, hK _ ?_⟩
    · obtain ⟨b_, f_, he_, c0, c1, c2, d0, cl⟩ := HC.out W (below_trans HBk.out hW)
      cases he_
      go_simp
      exact rfl
    clear hK K
    refine HQS.go (fun K hK => ?_)
    go_simp
    apply Exists.intro
    refine ⟨fun W hW => ?_, hK _ ?_⟩
    · (try go_simp)
      exact rfl
    clear hK K
    refine HQS.go (fun K hK => ?_)
    go_simp
    apply Exists.intro
    refine ⟨fun W hW => ?_, hK _ ?_⟩
    · (try go_simp)
      exact rfl
    clear hK K
    refine HQS.go (fun K hK => ?_)
    go_simp
    apply Exists.intro
    refine ⟨fun W hW => ?_, hK _ ?_⟩
    · (try go_simp)
      exact rfl
    clear hK K
    refine HQS.go (fun K hK => ?_)
    go_simp
    apply Exists.intro
    refine ⟨fun W hW => ?_, hK _ ?_⟩
    · (try go_simp)
      exact rfl
    clear hK K
    refine HQS.go (fun K hK => ?_)
    go_simp
    apply Exists.intro
    refine ⟨fun W hW => ?_, hK _ ?_⟩
    · obtain ⟨b_, f_, he_, c0, c1, c2, d0, cl⟩ := HC.out W (below_trans HBk.out hW)
      cases he_
      go_simp
      exact rfl
    clear hK K
    refine HQS.go (fun K hK => ?_)
    go_simp
    apply Exists.intro
    refine ⟨fun W hW => ?_, hK _ ?_⟩
    · (try go_simp)
      exact rfl
    clear hK K
    refine HQS.go (fun K hK => ?_)
    go_simp
    apply Exists.intro
    refine ⟨fun W hW => ?_, hK _ ?_⟩
    · (try go_simp)
      exact rfl
    clear hK K
    refine HQS.go (fun K hK => ?_)
    go_simp
    apply Exists.intro
    refine ⟨fun W hW => ?_, hK _ ?_⟩
    · (try go_simp)
      exact rfl
    clear hK K
    refine HQS.go (fun K hK => ?_)
    go_simp
    apply Exists.intro
    refine ⟨fun W hW => ?_, hK _ ?_⟩
    · (try go_simp)
      exact rfl
    clear hK K
    refine HQS.go (fun K hK => ?_)
    go_simp
    apply Exists.intro
    refine ⟨fun W hW => ?_, hK _ ?_⟩
    · obtain ⟨b_, f_, he_, c0, c1, c2, d0, cl⟩ := HC.out W (below_trans HBk.out hW)
      cases he_
      go_simp
      exact rfl
    clear hK K
    refine HQS.go (fun K hK => ?_)
    go_simp
    apply Exists.intro
    refine ⟨fun W hW => ?_, hK _ ?_⟩
    · exact (HF.out W).mono fun _ _ ⟨he, hw⟩ => ⟨he, hw ▸ hW⟩
    clear hK K
    refine HQS.go (fun K hK => ?_)
    go_simp
    apply Exists.intro
    refine ⟨fun W hW => ?_, hK _ ?_⟩
    · (try go_simp)
      exact rfl
    clear hK K
    refine HQS.go (fun K hK => ?_)
    go_simp
    apply Exists.intro
    refine ⟨fun W hW => ?_, hK _ ?_⟩
    · (try go_simp)
      exact rfl
    clear hK K
    refine HQS.go (fun K hK => ?_)
    go_simp
    refine hK _ ?_
    clear hK K
    refine HQS.go (fun K hK => ?_)
    go_simp
    refine hK _ ?_
    clear hK K
    refine HQS.go (fun K hK => ?_)
    go_simp
    refine hK _ ?_
    clear hK K
    refine HQS.go (fun K hK => ?_)
    go_simp
    refine hK _ ?_
    clear hK K
    refine HQS.go (fun K hK => ?_)
    go_simp
    refine hK _ ?_
    clear hK K
    refine HQS.go (fun K hK => ?_)
    go_simp
    refine hK _ ?_
    clear hK K
    refine HQS.go (fun K hK => ?_)
    go_simp
    refine hK _ ?_
    clear hK K
    refine HQS.go (fun K hK => ?_)
    go_simp
    refine hK _ ?_
    clear hK K
    refine HQS.go (fun K hK => ?_)
    go_simp
    refine hK _ ?_
    clear hK K
    refine HQS.go (fun K hK => ?_)
    go_simp
    refine hK _ ?_
    clear hK K
    refine HQS.go (fun K hK => ?_)
    go_simp
    refine hK _ ?_
    clear hK K
    refine HQS.go (fun K hK => ?_)
    go_simp
    refine hK _ ?_
    clear hK K
    refine HQS.go (fun K hK => ?_)
    go_simp
    apply Exists.intro
    refine ⟨fun W hW => ?_, hK _ ?_⟩
    · (try go_simp)
      exact rfl
    clear hK K
    refine HQN.go ?_
    intro w1 hW
    have HB1 := Lib.hid (below_trans HBk.out hW)
    clear hW
    go_wp2
    go_ret
    exact ⟨rfl, HB1.out⟩
  case true =>
    by_cases hse : x.seeds.length = x0.seeds.length
    case neg =>
      have hrt := HAT.out k x HX.out (by rw [HFX.out, decide_eq_false hse]; rfl)
      subst hrt
      have d1 : ((x.seeds.length : Int) == (x0.seeds.length : Int)) = false := by simp; omega
      have d2 : ((x.seeds.length : Int) != (x0.seeds.length : Int)) = true := by simp; omega
      clear hse
      go_wp2_with fail
      refine wp_region_belowC (by kernel_rfl) (by kernel_rfl) (fun WQ HQS HQN => ?_)
      refine HQS.go (fun K hK => ?_)
      go_simp
      apply Exists.intro
      refine ⟨fun W hW => ?_, hK _ ?_⟩
      · (try go_simp)
        exact rfl
      clear hK K
      refine HQS.go (fun K hK => ?_)
      go_simp
      apply Exists.intro
      refine ⟨fun W hW => ?_, hK _ ?_⟩
      · (try go_simp)
        exact rfl
      clear hK K
      refine HQS.go (fun K hK => ?_)
      go_simp
      apply Exists.intro
      refine ⟨fun W hW => ?_, hK _ ?_⟩
      · (try go_simp)
        exact rfl
      clear hK K
      refine HQS.go (fun K hK => ?_)
      go_simp
      apply Exists.intro
      refine ⟨fun W hW => ?_, hK _ ?_⟩
      · (try go_simp)
        exact rfl
      clear hK K
      refine HQS.go (fun K hK => ?_)
      go_simp
      apply Exists.intro
      refine ⟨fun W hW => ?_, hK _ ?_⟩
      · obtain ⟨b_, f_, he_, c0, c1, c2, d0, cl⟩ := HC.out W (below_trans HBk.out hW)
        cases he_
        go_simp
        exact rfl
      clear hK K
      refine HQS.go (fun K hK => ?_)
      go_simp
      apply Exists.intro
      refine ⟨fun W hW => ?_, hK _ ?_⟩
      · (try go_simp)
        exact rfl
      clear hK K
      refine HQS.go (fun K hK => ?_)
      go_simp
      apply Exists.intro
      refine ⟨fun W hW => ?_, hK _ ?_⟩
      · (try go_simp)
        exact rfl
      clear hK K
      refine HQS.go (fun K hK => ?_)
      go_simp
      apply Exists.intro
      refine ⟨fun W hW => ?_, hK _ ?_⟩
      · (try go_simp)
        exact rfl
      clear hK K
      refine HQS.go (fun K hK => ?_)
      go_simp
      apply Exists.intro
      refine ⟨fun W hW => ?_, hK _ ?_⟩
      · (try go_simp)
        exact rfl
      clear hK K
      refine HQS.go (fun K hK => ?_)
      go_simp
      apply Exists.intro
      refine ⟨fun W hW => ?_, hK _ ?_⟩
      · obtain ⟨b_, f_, he_, c0, c1, c2, d0, cl⟩ := HC.out W (below_trans HBk.out hW)
        cases he_
        go_simp
        exact rfl
      clear hK K
      refine HQS.go (fun K hK => ?_)
      go_simp
      apply Exists.intro
      refine ⟨fun W hW => ?_, hK _ ?_⟩
      · (try go_simp)
        exact rfl
      clear hK K
      refine HQS.go (fun K hK => ?_)
      go_simp
      apply Exists.intro
      refine ⟨fun W hW => ?_, hK _ ?_⟩
      · (try go_simp)
        exact rfl
      clear hK K
      refine HQS.go (fun K hK => ?_)
      go_simp
      apply Exists.intro
      refine ⟨fun W hW => ?_, hK _ ?_⟩
      · (try go_simp)
        exact rfl
      clear hK K
      refine HQS.go (fun K hK => ?_)
      go_simp
      apply Exists.intro
      refine ⟨fun W hW => ?_, hK _ ?_⟩
      · (try go_simp)
        exact rfl
      clear hK K
      refine HQS.go (fun K hK => ?_)
      go_simp
      apply Exists.intro
      refine ⟨fun W hW => ?_, hK _ ?_⟩
      · obtain ⟨b_, f_, he_, c0, c1, c2, d0, cl⟩ := HC.out W (below_trans HBk.out hW)
        cases he_
        go_simp
        exact rfl
      clear hK K
      refine HQS.go (fun K hK => ?_)
      go_simp
      apply Exists.intro
      refine ⟨fun W hW => ?_, hK _ ?_⟩
      · exact (HF.out W).mono fun _ _ ⟨he, hw⟩ => ⟨he, hw ▸ hW⟩
      clear hK K
      refine HQS.go (fun K hK => ?_)
      go_simp
      apply Exists.intro
      refine ⟨fun W hW => ?_, hK _ ?_⟩
      · (try go_simp)
        exact rfl
      clear hK K
      refine HQS.go (fun K hK => ?_)
      go_simp
      apply Exists.intro
      refine ⟨fun W hW => ?_, hK _ ?_⟩
      · (try go_simp)
        exact rfl
      clear hK K
      refine HQS.go (fun K hK => ?_)
      go_simp
      apply Exists.intro
      refine ⟨fun W hW => ?_, hK _ ?_⟩
      · (try go_simp)
        exact rfl
      clear hK K
      refine HQS.go (fun K hK => ?_)
      go_simp
      apply Exists.intro
      refine ⟨fun W hW => ?_, hK _ ?_⟩
      · (try go_simp)
        exact rfl
      clear hK K
      refine HQS.go (fun K hK => ?_)
      go_simp
      apply Exists.intro
      refine ⟨fun W hW => ?_, hK _ ?_⟩
      · (try go_simp)
        exact rfl
      clear hK K
      refine HQS.go (fun K hK => ?_)
      go_simp
      apply Exists.intro
      refine ⟨fun W hW => ?_, hK _ ?_⟩
      · (try go_simp)
        exact rfl
      clear hK K
      refine HQS.go (fun K hK => ?_)
      go_simp
      apply Exists.intro
      refine ⟨fun W hW => ?_, hK _ ?_⟩
      · obtain ⟨b_, f_, he_, c0, c1, c2, d0, cl⟩ := HC.out W (below_trans HBk.out hW)
        cases he_
        go_simp
        exact rfl
      clear hK K
      refine HQS.go (fun K hK => ?_)
      go_simp
      apply Exists.intro
      refine ⟨fun W hW => ?_, hK _ ?_⟩
      · (try go_simp)
        exact rfl
      clear hK K
      refine HQS.go (fun K hK => ?_)
      go_simp
      apply Exists.intro
      refine ⟨fun W hW => ?_, hK _ ?_⟩
      · (try go_simp)
        exact rfl
      clear hK K
      refine HQS.go (fun K hK => ?_)
      go_simp
      apply Exists.intro
      refine ⟨fun W hW => ?_, hK _ ?_⟩
      · (try go_simp)
        exact rfl
      clear hK K
      refine HQS.go (fun K hK => ?_)
      go_simp
      apply Exists.intro
      refine ⟨fun W hW => ?_, hK _ ?_⟩
      · (try go_simp)
        exact rfl
      clear hK K
      refine HQS.go (fun K hK => ?_)
      go_simp
      apply Exists.intro
      refine ⟨fun W hW => ?_, hK _ ?_⟩
      · obtain ⟨b_, f_, he_, c0, c1, c2, d0, cl⟩ := HC.out W (below_trans HBk.out hW)
        cases he_
        go_simp
        exact rfl
      clear hK K
      refine HQS.go (fun K hK => ?_)
      go_simp
      apply Exists.intro
      refine ⟨fun W hW => ?_, hK _ ?_⟩
      · (try go_simp)
        exact rfl
      clear hK K
      refine HQS.go (fun K hK => ?_)
      go_simp
      apply Exists.intro
      refine ⟨fun W hW => ?_, hK _ ?_⟩
      · (try go_simp)
        exact rfl
      clear hK K
      refine HQS.go (fun K hK => ?_)
      go_simp
      apply Exists.intro
      refine ⟨fun W hW => ?_, hK _ ?_⟩
      · (try go_simp)
        exact rfl
      clear hK K
      refine HQN.go ?_
      intro w1 hW
      have HB1 := Lib.hid (below_trans HBk.out hW)
      clear hW
      go_wp2
      go_ret
      exact ⟨rfl, HB1.out⟩
    case pos =>
      have hgo : (l.take (k + 1)).all (fwK l) = true := by rw [all_take_succ (fwK l) l k x HX.out, HAL.out, HFX.out, decide_eq_true hse]; rfl
      have HGO := Lib.hid hgo
      have d1 : ((x.seeds.length : Int) == (x0.seeds.length : Int)) = true := by simp; omega
      have d2 : ((x.seeds.length : Int) != (x0.seeds.length : Int)) = false := by simp; omega
      clear hse hgo
      go_wp2_with fail
      refine wp_region_belowC (by kernel_rfl) (by kernel_rfl) (fun WQ HQS HQN => ?_)
      refine HQS.go (fun K hK => ?_)
      go_simp
      apply Exists.intro
      refine ⟨fun W hW => ?_, hK _ ?_⟩
      · (try go_simp)
        exact rfl
      clear hK K
      refine HQS.go (fun K hK => ?_)
      go_simp
      apply Exists.intro
      refine ⟨fun W hW => ?_, hK _ ?_⟩
      · (try go_simp)
        exact rfl
      clear hK K
      refine HQS.go (fun K hK => ?_)
      go_simp
      apply Exists.intro
      refine ⟨fun W hW => ?_, hK _ ?_⟩
      · (try go_simp)
        exact rfl
      clear hK K
      refine HQS.go (fun K hK => ?_)
      go_simp
      apply Exists.intro
      refine ⟨fun W hW => ?_, hK _ ?_⟩
      · (try go_simp)
        exact rfl
      clear hK K
      refine HQS.go (fun K hK => ?_)
      go_simp
      apply Exists.intro
      refine ⟨fun W hW => ?_, hK _ ?_⟩
      · obtain ⟨b_, f_, he_, c0, c1, c2, d0, cl⟩ := HC.out W (below_trans HBk.out hW)
        cases he_
        go_simp
        exact rfl
      clear hK K
      refine HQS.go (fun K hK => ?_)
      go_simp
      apply Exists.intro
      refine ⟨fun W hW => ?_, hK _ ?_⟩
      · (try go_simp)
        exact rfl
      clear hK K
      refine HQS.go (fun K hK => ?_)
      go_simp
      apply Exists.intro
      refine ⟨fun W hW => ?_, hK _ ?_⟩
      · (try go_simp)
        exact rfl
      clear hK K
      refine HQS.go (fun K hK => ?_)
      go_simp
      apply Exists.intro
      refine ⟨fun W hW => ?_, hK _ ?_⟩
      · (try go_simp)
        exact rfl
      clear hK K
      refine HQS.go (fun K hK => ?_)
      go_simp
      apply Exists.intro
      refine ⟨fun W hW => ?_, hK _ ?_⟩
      · (try go_simp)
        exact rfl
      clear hK K
      refine HQS.go (fun K hK => ?_)
      go_simp
      apply Exists.intro
      refine ⟨fun W hW => ?_, hK _ ?_⟩
      · obtain ⟨b_, f_, he_, c0, c1, c2, d0, cl⟩ := HC.out W (below_trans HBk.out hW)
        cases he_
        go_simp
        exact rfl
      clear hK K
      refine HQS.go (fun K hK => ?_)
      go_simp
      apply Exists.intro
      refine ⟨fun W hW => ?_, hK _ ?_⟩
      · (try go_simp)
        exact rfl
      clear hK K
      refine HQS.go (fun K hK => ?_)
      go_simp
      apply Exists.intro
      refine ⟨fun W hW => ?_, hK _ ?_⟩
      · (try go_simp)
        exact rfl
      clear hK K
      refine HQS.go (fun K hK => ?_)
      go_simp
      apply Exists.intro
      refine ⟨fun W hW => ?_, hK _ ?_⟩
      · (try go_simp)
        exact rfl
      clear hK K
      refine HQS.go (fun K hK => ?_)
      go_simp
      apply Exists.intro
      refine ⟨fun W hW => ?_, hK _ ?_⟩
      · (try go_simp)
        exact rfl
      clear hK K
      refine HQS.go (fun K hK => ?_)
      go_simp
      apply Exists.intro
      refine ⟨fun W hW => ?_, hK _ ?_⟩
      · obtain ⟨b_, f_, he_, c0, c1, c2, d0, cl⟩ := HC.out W (below_trans HBk.out hW)
        cases he_
        go_simp
        exact rfl
      clear hK K
      refine HQS.go (fun K hK => ?_)
      go_simp
      apply Exists.intro
      refine ⟨fun W hW => ?_, hK _ ?_⟩
      · exact (HF.out W).mono fun _ _ ⟨he, hw⟩ => ⟨he, hw ▸ hW⟩
      clear hK K
      refine HQS.go (fun K hK => ?_)
      go_simp
      apply Exists.intro
      refine ⟨fun W hW => ?_, hK _ ?_⟩
      · (try go_simp)
        exact rfl
      clear hK K
      refine HQS.go (fun K hK => ?_)
      go_simp
      apply Exists.intro
      refine ⟨fun W hW => ?_, hK _ ?_⟩
      · (try go_simp)
        exact rfl
      clear hK K
      refine HQS.go (fun K hK => ?_)
      go_simp
      apply Exists.intro
      refine ⟨fun W hW => ?_, hK _ ?_⟩
      · (try go_simp)
        exact rfl
      clear hK K
      refine HQS.go (fun K hK => ?_)
      go_simp
      apply Exists.intro
      refine ⟨fun W hW => ?_, hK _ ?_⟩
      · (try go_simp)
        exact rfl
      clear hK K
      refine HQS.go (fun K hK => ?_)
      go_simp
      apply Exists.intro
      refine ⟨fun W hW => ?_, hK _ ?_⟩
      · (try go_simp)
        exact rfl
      clear hK K
      refine HQS.go (fun K hK => ?_)
      go_simp
      apply Exists.intro
      refine ⟨fun W hW => ?_, hK _ ?_⟩
      · (try go_simp)
        exact rfl
      clear hK K
      refine HQS.go (fun K hK => ?_)
      go_simp
      apply Exists.intro
      refine ⟨fun W hW => ?_, hK _ ?_⟩
      · obtain ⟨b_, f_, he_, c0, c1, c2, d0, cl⟩ := HC.out W (below_trans HBk.out hW)
        cases he_
        go_simp
        exact rfl
      clear hK K
      refine HQS.go (fun K hK => ?_)
      go_simp
      apply Exists.intro
      refine ⟨fun W hW => ?_, hK _ ?_⟩
      · (try go_simp)
        exact rfl
      clear hK K
      refine HQS.go (fun K hK => ?_)
      go_simp
      apply Exists.intro
      refine ⟨fun W hW => ?_, hK _ ?_⟩
      · (try go_simp)
        exact rfl
      clear hK K
      refine HQS.go (fun K hK => ?_)
      go_simp
      apply Exists.intro
      refine ⟨fun W hW => ?_, hK _ ?_⟩
      · (try go_simp)
        exact rfl
      clear hK K
      refine HQS.go (fun K hK => ?_)
      go_simp
      apply Exists.intro
      refine ⟨fun W hW => ?_, hK _ ?_⟩
      · (try go_simp)
        exact rfl
      clear hK K
      refine HQS.go (fun K hK => ?_)
      go_simp
      apply Exists.intro
      refine ⟨fun W hW => ?_, hK _ ?_⟩
      · obtain ⟨b_, f_, he_, c0, c1, c2, d0, cl⟩ := HC.out W (below_trans HBk.out hW)
        cases he_
        go_simp
        exact rfl
      clear hK K
      refine HQS.go (fun K hK => ?_)
      go_simp
      apply Exists.intro
      refine ⟨fun W hW => ?_, hK _ ?_⟩
      · (try go_simp)
        exact rfl
      clear hK K
      refine HQS.go (fun K hK => ?_)
      go_simp
      apply Exists.intro
      refine ⟨fun W hW => ?_, hK _ ?_⟩
      · (try go_simp)
        exact rfl
      clear hK K
      refine HQS.go (fun K hK => ?_)
      go_simp
      apply Exists.intro
      refine ⟨fun W hW => ?_, hK _ ?_⟩
      · (try go_simp)
        exact rfl
      clear hK K
      refine HQN.go ?_
      intro w1 hW
      have HB1 := Lib.hid (below_trans HBk.out hW)
      clear hW
      go_wp2
      go_roundw
      case rel => exact ⟨k + 1, by omega, by omega, by go_num, HB1.out, HGO.out⟩
      case measure => simp [intOf]; omega
end

section
open Go.RowKit

/-! ### plain: what a keeper opens and what is kept of it -/
def ogOf (kr : Kr) (i : Nat) (A : Option Addr) (c : Nat) : Og := ⟨i, kr.seeds[i]?.getD 0, kslt kr.salt i, A, c, pt (ksL kr.seeds kr.salt) i⟩
def kpOf (kr : Kr) (n m i j : Nat) (A : Option Addr) (c : Nat) : Kp := ⟨i, ((j : Int) + 1, evp (kpoly kr.seeds n kr.random i) ((j : Int) + 1)), A, c, pt (khP kr.seeds n m kr.random kr.seeds.length) (i * m + j)⟩
def okK (m : Nat) (need i : Int) (kr : Kr) : Bool := dvB kr.seeds kr.salt need m kr.random && wiB i 0 ((kr.seeds.length : Int) - 1)
def cmK (m : Nat) (need : Int) (kr : Kr) : ByteArray × ByteArray := cmR kr.seeds kr.salt need m kr.random
/-- Kept shares of a keeper's seed, the first j. -/
def KpsOk (kr : Kr) (n m i j : Nat) (l : List Kp) : Prop := l.length = j ∧ ∀ q, q < j → ∃ A c, l[q]? = some (kpOf kr n m i q A c)
structure NightOk (l : List Kr) (n i k : Nat) (os : List Og) (ks : List Kw) : Prop where
  ol : os.length = k
  kl : ks.length = k
  o : ∀ (j : Nat) (kr : Kr), j < k → l[j]? = some kr → ∃ A c, os[j]? = some (ogOf kr i A c)
  k : ∀ (j : Nat) (kr : Kr), j < k → l[j]? = some kr → ∃ a, ks[j]? = some a ∧ KpsOk kr n l.length i l.length a.l

/-! ### memory -/
theorem info_cm : (Tryz.prog.info? 29).map (fun i => (i.zero, i.size, i.bytes)) = some (some (.agg #[.string ByteArray.empty, .string ByteArray.empty]), 2, 32) := by kernel_rfl
theorem info_og : (Tryz.prog.info? 32).map (fun i => (i.zero, i.size, i.bytes)) = some (some (.agg #[.int .i64 0, .int .i64 0, .string ByteArray.empty, .slice none 0 0]), 4, 56) := by kernel_rfl
theorem info_kp : (Tryz.prog.info? 50).map (fun i => (i.zero, i.size, i.bytes)) = some (some (.agg #[.int .i64 0, .int .i64 0, .int .i64 0, .slice none 0 0]), 4, 48) := by kernel_rfl
theorem info_kw : (Tryz.prog.info? 33).map (fun i => (i.zero, i.size, i.bytes)) = some (some (.slice none 0 0), 1, 24) := by kernel_rfl

/-- A row of kept shares in a block of kept shares; each path in a block of strings. -/
def KwT (w : World) (a : Kw) : Prop := RowOf kpC 4 w a.A a.l ∧ (∀ x : Addr, a.A = some x → ∃ cs : Array Value, w.heap[x.block]? = some (.cells cs 50 (0, 0))) ∧ ∀ k, k ∈ a.l → PathIn w k.A k.p
theorem KwT.keep {w w' : World} {a : Kw} (h : KwT w a) (hs : ∀ (b : Nat) (cs : Array Value), w.heap[b]? = some (.cells cs 9 (0, 0)) → w'.heap[b]? = w.heap[b]?) (hk : ∀ (b : Nat) (cs : Array Value), w.heap[b]? = some (.cells cs 50 (0, 0)) → w'.heap[b]? = w.heap[b]?) : KwT w' a := by
  obtain ⟨h1, h2, h3⟩ := h
  refine ⟨⟨h1.1, fun hn => ?_⟩, fun x hx => ?_, fun k hm => (h3 k hm).keep fun y cs _ hcs => hs _ cs hcs⟩
  · obtain ⟨b, off, e, hc⟩ := h1.2 hn
    obtain ⟨cs, hcs⟩ := h2 _ e
    have hbb : w'.heap[b]? = w.heap[b]? := hk b cs hcs
    exact ⟨b, off, e, fun j u hu => (World.cell?_of_block (w := w) (w' := w') (a := ⟨b, off + j, none⟩) hbb).trans (hc j u hu)⟩
  · obtain ⟨cs, hcs⟩ := h2 x hx
    exact ⟨cs, (hk _ cs hcs).trans hcs⟩
theorem grown_typed {w w' : World} {base e size n : Nat} {v : Value} {xs : List Value} (h : w.ownsRow base e size v n xs) (hg : w.grownBy w' v.ownBlock) {T : Nat} (hT : e ≠ T) : ∀ (b : Nat) (cs : Array Value), w.heap[b]? = some (.cells cs T (0, 0)) → w'.heap[b]? = w.heap[b]? := fun b cs hcs =>
  hg.block b (Array.getElem?_eq_some_iff.1 hcs).1 (fun he => by
    have hb : v.ownBlock = some b := he.symm
    rcases h.2 with ⟨rfl, _⟩ | ⟨g, cap, cur, rfl, _, hh, _⟩
    · simp [Value.ownBlock] at hb
    · have : g = b := by simpa [Value.ownBlock] using hb
      subst this
      rw [hh] at hcs
      injection hcs with hcs
      injection hcs with _ ht
      exact hT ht)
theorem PathIn.setBlk {w : World} {A : Option Addr} {l : List ByteArray} (h : PathIn w A l) {g T : Nat} {cs : Array Value} (hb : Blk w g T cs) (hT : T ≠ 9) (i : Nat) (v : Value) : PathIn (w.setCell ⟨g, i, none⟩ v) A l :=
  h.keep fun a cs' _ hcs => Below.heap_setCell w ⟨g, i, none⟩ v _ (by
    intro e
    have e' : a.block = g := e
    rw [e'] at hcs
    unfold Blk at hb
    rw [hb] at hcs
    injection hcs with hcs
    injection hcs with _ ht
    exact hT ht)
theorem set_typed {w : World} {g T : Nat} {cs : Array Value} (hb : Blk w g T cs) {T' : Nat} (hT : T ≠ T') (i : Nat) (v : Value) : ∀ (b : Nat) (cs' : Array Value), w.heap[b]? = some (.cells cs' T' (0, 0)) → (w.setCell ⟨g, i, none⟩ v).heap[b]? = w.heap[b]? := fun b cs' hcs =>
  Below.heap_setCell w ⟨g, i, none⟩ v _ (by
    intro e
    have e' : b = g := e
    subst e'
    unfold Blk at hb
    rw [hb] at hcs
    injection hcs with hcs
    injection hcs with _ ht
    exact hT ht)
theorem own_typed {w : World} {base e size n : Nat} {A : Option Addr} {c : Nat} {xs : List Value} (h : w.ownsRow base e size (.slice A n c) n xs) : ∀ x : Addr, A = some x → ∃ cs : Array Value, w.heap[x.block]? = some (.cells cs e (0, 0)) := fun x hx => by
  rcases h.2 with ⟨h0, _⟩ | ⟨g, cap, cur, hv, _, hh, _⟩
  · injection h0 with h0; rw [h0] at hx; cases hx
  · injection hv with hv
    rw [hv] at hx
    cases hx
    exact ⟨cur, hh⟩
/-- Open at all arguments: an opening that reads. -/
theorem kopen_gen (kr : Kr) (i : Int) (w : World) (h : KrIn w kr) (hT : Tabs w) :
    Calls Tryz.prog 19 #[.slice kr.SA kr.seeds.length kr.sc, .string kr.salt, .int .i64 i] w fun e w' => ∃ o : Og, e = .returned (.tuple #[.agg #[.int .i64 o.ix, .int .i64 o.v, .string o.salt, .slice o.A o.p.length o.c], .int .i64 (if sdOk kr.seeds kr.salt && wiB i 0 ((kr.seeds.length : Int) - 1) then 0 else 1)]) ∧
      ((sdOk kr.seeds kr.salt && wiB i 0 ((kr.seeds.length : Int) - 1)) = true → ∃ A c, o = ogOf kr i.toNat A c) ∧ PathIn w' o.A o.p ∧ o.p.length ≤ o.c ∧ Below w.heap.size w w' := by
  cases hb : (sdOk kr.seeds kr.salt && wiB i 0 ((kr.seeds.length : Int) - 1)) with
  | false =>
    refine (kopen_bad kr.SA kr.sc kr.seeds kr.salt i w h.s h.sl h.salt (by rw [Bool.and_eq_false_iff] at hb; exact hb)).mono ?_
    rintro e w' ⟨rfl, hbl⟩
    exact ⟨⟨0, 0, ⟨#[]⟩, none, 0, []⟩, rfl, fun h => (by cases h), ⟨⟨rfl, fun h => (by simp at h)⟩, fun a ha => (by cases ha)⟩, Nat.le_refl _, hbl⟩
  | true =>
    simp only [Bool.and_eq_true] at hb
    have hi := of_decide_eq_true hb.2
    obtain ⟨v, hv⟩ := get_some kr.seeds i.toNat (by omega)
    have := kopen_ok kr.SA kr.sc kr.seeds kr.salt i.toNat v w h.s h.salt hb.1 hv hT
    rw [show ((i.toNat : Nat) : Int) = i by omega] at this
    refine this.mono ?_
    rintro e w' ⟨A', c', rfl, hc, hp, hbl⟩
    refine ⟨⟨i, v, kslt kr.salt i.toNat, A', c', pt (ksL kr.seeds kr.salt) i.toNat⟩, rfl, fun _ => ⟨A', c', ?_⟩, hp, hc, hbl⟩
    unfold ogOf
    rw [hv, show ((i.toNat : Nat) : Int) = i by omega]; rfl

def NightMem (w : World) (os : List Og) (ks : List Kw) : Prop := (∀ o, o ∈ os → PathIn w o.A o.p ∧ o.p.length ≤ o.c) ∧ ∀ a, a ∈ ks → KwT w a
theorem NightMem.keep {w w' : World} {os : List Og} {ks : List Kw} (h : NightMem w os ks) (hs : ∀ (b : Nat) (cs : Array Value), w.heap[b]? = some (.cells cs 9 (0, 0)) → w'.heap[b]? = w.heap[b]?) (hk : ∀ (b : Nat) (cs : Array Value), w.heap[b]? = some (.cells cs 50 (0, 0)) → w'.heap[b]? = w.heap[b]?) : NightMem w' os ks :=
  ⟨fun o ho => ⟨(h.1 o ho).1.keep fun a cs _ hcs => hs _ cs hcs, (h.1 o ho).2⟩, fun a ha => (h.2 a ha).keep hs hk⟩
theorem NightMem.below {w w' : World} {os : List Og} {ks : List Kw} (h : NightMem w os ks) (hb : Below w.heap.size w w') : NightMem w' os ks := h.keep (fun b cs hcs => hb.block b (Array.getElem?_eq_some_iff.1 hcs).1) (fun b cs hcs => hb.block b (Array.getElem?_eq_some_iff.1 hcs).1)

structure NightRes (l : List Kr) (need i : Int) (w : World) (CA : Option Addr) (cc : Nat) (OA : Option Addr) (oc : Nat) (KA : Option Addr) (kc : Nat) (os : List Og) (ks : List Kw) : Prop where
  c : RowOf cmC 2 w CA (l.map (cmK l.length need))
  o : RowOf ogC 4 w OA os
  k : RowOf kwC 1 w KA ks
  ok : NightOk l need.toNat i.toNat l.length os ks
  mem : NightMem w os ks
  cc : l.length ≤ cc
  oc : l.length ≤ oc
  kc : l.length ≤ kc
def OpenPost (l : List Kr) (need i : Int) (w : World) (e : Ending) (w' : World) : Prop := Below w.heap.size w w' ∧
  ((l.all (okK l.length need i) = false ∧ ∃ CA k cc OA oc KA kc, e = .returned (.tuple #[.agg #[.slice CA k cc, .slice OA k oc, .slice KA k kc], .bool false])) ∨
   (l.all (okK l.length need i) = true ∧ ∃ CA cc OA oc KA kc os ks, e = .returned (.tuple #[.agg #[.slice CA l.length cc, .slice OA l.length oc, .slice KA l.length kc], .bool true]) ∧ NightRes l need i w' CA cc OA oc KA kc os ks))
structure NightInv (l : List Kr) (need i : Int) (w w0 wr : World) (k : Nat) (uc uo uk : Value) (os : List Og) (ks : List Kw) : Prop where
  b : Below w.heap.size w wr
  r : Blk wr w.heap.size 69 #[.slice none 0 0, .slice none 0 0, .slice none 0 0]
  n : Blk wr (w.heap.size + 1) 69 #[uc, uo, uk]
  rc : wr.ownsRow w0.heap.size 29 2 uc k (((l.take k).map (cmK l.length need)).flatMap cmC)
  ro : wr.ownsRow w0.heap.size 32 4 uo k (os.flatMap ogC)
  rk : wr.ownsRow w0.heap.size 33 1 uk k (ks.flatMap kwC)
  ok : NightOk l need.toNat i.toNat k os ks
  mem : NightMem wr os ks
  all : (l.take k).all (okK l.length need i) = true
theorem NightInv.below {l : List Kr} {need i : Int} {w w0 wr w' : World} {k : Nat} {uc uo uk : Value} {os : List Og} {ks : List Kw} (h : NightInv l need i w w0 wr k uc uo uk os ks) (hb : Below wr.heap.size wr w') : NightInv l need i w w0 w' k uc uo uk os ks :=
  ⟨below_trans h.b hb, (hb.block _ h.r.lt).trans h.r, (hb.block _ h.n.lt).trans h.n, row_below h.rc hb, row_below h.ro hb, row_below h.rk hb, h.ok, h.mem.below hb, h.all⟩
theorem size_nt : (Tryz.prog.info? 69).map (·.size) = some 3 := by kernel_rfl
theorem own_typed_keep {w w' : World} {B e size n : Nat} {v : Value} {xs : List Value} (h : w.ownsRow B e size v n xs) (hk : ∀ (b : Nat) (cs : Array Value), w.heap[b]? = some (.cells cs e (0, 0)) → w'.heap[b]? = w.heap[b]?) : w'.ownsRow B e size v n xs := by
  refine ⟨h.1, ?_⟩
  rcases h.2 with hn | ⟨g, cap, cur, rfl, hg, hgg, rest⟩
  · exact .inl hn
  · exact .inr ⟨g, cap, cur, rfl, hg, (hk g cur hgg).trans hgg, rest⟩
theorem own_setCell {w : World} {B e size n g : Nat} {v : Value} {xs : List Value} (h : w.ownsRow B e size v n xs) (hg : g < B) (i : Nat) (u : Value) : (w.setCell ⟨g, i, none⟩ u).ownsRow B e size v n xs := by
  refine ⟨h.1, ?_⟩
  rcases h.2 with hn | ⟨g', cap, cur, rfl, hg', hgg, rest⟩
  · exact .inl hn
  · exact .inr ⟨g', cap, cur, rfl, hg', (Below.heap_setCell w ⟨g, i, none⟩ u g' (by intro e; have e' : g' = g := e; omega)).trans hgg, rest⟩
theorem step_typed {W w' : World} {B e size n gN : Nat} {u : Value} {xs : List Value} {cs0 : Array Value} (hrow : W.ownsRow B e size u n xs) (hg : W.grownBy w' u.ownBlock) (hn : Blk w' gN 69 cs0) {T : Nat} (hTe : e ≠ T) (hTn : 69 ≠ T) (i : Nat) (v : Value) :
    ∀ (b : Nat) (cs : Array Value), W.heap[b]? = some (.cells cs T (0, 0)) → (w'.setCell ⟨gN, i, none⟩ v).heap[b]? = W.heap[b]? := fun b cs h =>
  have h1 := grown_typed hrow hg hTe b cs h
  (set_typed hn hTn i v b cs (h1.trans h)).trans h1
theorem row_typed {w : World} {g T : Nat} {old : Array Value} (hb : Blk w g T old) {T' : Nat} (hT : T ≠ T') (cs : Array Value) : ∀ (b : Nat) (cs' : Array Value), w.heap[b]? = some (.cells cs' T' (0, 0)) → (w.setRow g cs).heap[b]? = w.heap[b]? := fun b cs' hcs =>
  setRow_other w g b cs (by
    intro e
    subst e
    unfold Blk at hb
    rw [hb] at hcs
    injection hcs with hcs
    injection hcs with _ ht
    exact hT ht)
/-- Between a keeper's shares and the next keeper. -/
structure Mid (w w0 W : World) (uc uo uk : Value) (kc ko kk : Nat) (Lc Lo Lk : List Value) (os : List Og) (ks : List Kw) (o : Og) (a : Kw) : Prop where
  b : Below w.heap.size w W
  r : Blk W w.heap.size 69 #[.slice none 0 0, .slice none 0 0, .slice none 0 0]
  n : Blk W (w.heap.size + 1) 69 #[uc, uo, uk]
  rc : W.ownsRow w0.heap.size 29 2 uc kc Lc
  ro : W.ownsRow w0.heap.size 32 4 uo ko Lo
  rk : W.ownsRow w0.heap.size 33 1 uk kk Lk
  mem : NightMem W os ks
  po : PathIn W o.A o.p
  ka : KwT W a
theorem Mid.below {w w0 W W' : World} {uc uo uk : Value} {kc ko kk : Nat} {Lc Lo Lk : List Value} {os : List Og} {ks : List Kw} {o : Og} {a : Kw} (h : Mid w w0 W uc uo uk kc ko kk Lc Lo Lk os ks o a) (hb : Below W.heap.size W W') : Mid w w0 W' uc uo uk kc ko kk Lc Lo Lk os ks o a :=
  ⟨below_trans h.b hb, (hb.block _ h.r.lt).trans h.r, (hb.block _ h.n.lt).trans h.n, row_below h.rc hb, row_below h.ro hb, row_below h.rk hb, h.mem.below hb, h.po.below hb, h.ka.keep (fun b cs hcs => hb.block b (Array.getElem?_eq_some_iff.1 hcs).1) (fun b cs hcs => hb.block b (Array.getElem?_eq_some_iff.1 hcs).1)⟩
theorem Mid.stepC {w w0 W w' : World} {uc uo uk v : Value} {kc ko kk kc' : Nat} {Lc Lo Lk Lc' : List Value} {os : List Og} {ks : List Kw} {o : Og} {a : Kw} (h : Mid w w0 W uc uo uk kc ko kk Lc Lo Lk os ks o a) (hz : w0.heap.size = w.heap.size + 2)
    (hown : w'.ownsRow w0.heap.size 29 2 v kc' Lc') (hg : W.grownBy w' uc.ownBlock) : Mid w w0 (w'.setCell ⟨w.heap.size + 1, 0, none⟩ v) v uo uk kc' ko kk Lc' Lo Lk os ks o a := by
  have hn : Blk w' (w.heap.size + 1) 69 #[uc, uo, uk] := h.n.grown hg (fun e => by have := (h.rc.lt _ e.symm).1; omega)
  have hr : Blk w' w.heap.size 69 _ := h.r.grown hg (fun e => by have := (h.rc.lt _ e.symm).1; omega)
  have ks_ := step_typed h.rc hg hn (T := 9) (by decide) (by decide) 0 v
  have kk_ := step_typed h.rc hg hn (T := 50) (by decide) (by decide) 0 v
  exact ⟨(h.b.grown hg h.b.size (fun j hj => by have := (h.rc.lt j hj).1; omega)).setCell (by simp) _, hr.far (by simp) _, hn.set 0 v, own_setCell hown (by omega) _ _,
    own_typed_keep h.ro (step_typed h.rc hg hn (by decide) (by decide) 0 v), own_typed_keep h.rk (step_typed h.rc hg hn (by decide) (by decide) 0 v), h.mem.keep ks_ kk_, h.po.keep (fun a cs _ hcs => ks_ _ cs hcs), h.ka.keep ks_ kk_⟩
theorem Mid.stepO {w w0 W w' : World} {uc uo uk v : Value} {kc ko kk ko' : Nat} {Lc Lo Lk Lo' : List Value} {os : List Og} {ks : List Kw} {o : Og} {a : Kw} (h : Mid w w0 W uc uo uk kc ko kk Lc Lo Lk os ks o a) (hz : w0.heap.size = w.heap.size + 2)
    (hown : w'.ownsRow w0.heap.size 32 4 v ko' Lo') (hg : W.grownBy w' uo.ownBlock) : Mid w w0 (w'.setCell ⟨w.heap.size + 1, 1, none⟩ v) uc v uk kc ko' kk Lc Lo' Lk os ks o a := by
  have hn : Blk w' (w.heap.size + 1) 69 #[uc, uo, uk] := h.n.grown hg (fun e => by have := (h.ro.lt _ e.symm).1; omega)
  have hr : Blk w' w.heap.size 69 _ := h.r.grown hg (fun e => by have := (h.ro.lt _ e.symm).1; omega)
  have ks_ := step_typed h.ro hg hn (T := 9) (by decide) (by decide) 1 v
  have kk_ := step_typed h.ro hg hn (T := 50) (by decide) (by decide) 1 v
  exact ⟨(h.b.grown hg h.b.size (fun j hj => by have := (h.ro.lt j hj).1; omega)).setCell (by simp) _, hr.far (by simp) _, hn.set 1 v,
    own_typed_keep h.rc (step_typed h.ro hg hn (by decide) (by decide) 1 v), own_setCell hown (by omega) _ _, own_typed_keep h.rk (step_typed h.ro hg hn (by decide) (by decide) 1 v), h.mem.keep ks_ kk_, h.po.keep (fun a cs _ hcs => ks_ _ cs hcs), h.ka.keep ks_ kk_⟩
theorem Mid.stepK {w w0 W w' : World} {uc uo uk v : Value} {kc ko kk kk' : Nat} {Lc Lo Lk Lk' : List Value} {os : List Og} {ks : List Kw} {o : Og} {a : Kw} (h : Mid w w0 W uc uo uk kc ko kk Lc Lo Lk os ks o a) (hz : w0.heap.size = w.heap.size + 2)
    (hown : w'.ownsRow w0.heap.size 33 1 v kk' Lk') (hg : W.grownBy w' uk.ownBlock) : Mid w w0 (w'.setCell ⟨w.heap.size + 1, 2, none⟩ v) uc uo v kc ko kk' Lc Lo Lk' os ks o a := by
  have hn : Blk w' (w.heap.size + 1) 69 #[uc, uo, uk] := h.n.grown hg (fun e => by have := (h.rk.lt _ e.symm).1; omega)
  have hr : Blk w' w.heap.size 69 _ := h.r.grown hg (fun e => by have := (h.rk.lt _ e.symm).1; omega)
  have ks_ := step_typed h.rk hg hn (T := 9) (by decide) (by decide) 2 v
  have kk_ := step_typed h.rk hg hn (T := 50) (by decide) (by decide) 2 v
  exact ⟨(h.b.grown hg h.b.size (fun j hj => by have := (h.rk.lt j hj).1; omega)).setCell (by simp) _, hr.far (by simp) _, hn.set 2 v,
    own_typed_keep h.rc (step_typed h.rk hg hn (by decide) (by decide) 2 v), own_typed_keep h.ro (step_typed h.rk hg hn (by decide) (by decide) 2 v), own_setCell hown (by omega) _ _, h.mem.keep ks_ kk_, h.po.keep (fun a cs _ hcs => ks_ _ cs hcs), h.ka.keep ks_ kk_⟩
theorem dvB_nosalt {l : List Int} {salt : ByteArray} {need total : Int} {random : List Int} (h : dvB l salt need total random = true) : dvB l ⟨#[]⟩ need total random = true := by
  simp only [dvB, sdOk, Bool.and_eq_true, decide_eq_true_eq] at h ⊢
  exact ⟨⟨h.1.1, h.1.2.1, h.1.2.2.1, Nat.zero_le _⟩, h.2⟩
theorem KpsOk.snoc {kr : Kr} {n m i j : Nat} {l : List Kp} (h : KpsOk kr n m i j l) {q : Kp} (hq : ∃ A c, q = kpOf kr n m i j A c) : KpsOk kr n m i (j + 1) (l ++ [q]) := by
  refine ⟨by simp [h.1], fun p hp => ?_⟩
  by_cases h' : p < j
  · rw [List.getElem?_append_left (by rw [h.1]; exact h')]
    exact h.2 p h'
  · obtain rfl : p = j := by omega
    obtain ⟨A, c, rfl⟩ := hq
    exact ⟨A, c, by rw [List.getElem?_append_right (by rw [h.1]; exact Nat.le_refl _)]; simp [h.1]⟩
theorem NightInv.res {l : List Kr} {need i : Int} {w w0 wr : World} {CA OA KA : Option Addr} {cc oc kc : Nat} {os : List Og} {ks : List Kw} (h : NightInv l need i w w0 wr l.length (.slice CA l.length cc) (.slice OA l.length oc) (.slice KA l.length kc) os ks) (cs : Array Value) :
    NightRes l need i (wr.setRow w.heap.size cs) CA cc OA oc KA kc os ks := by
  obtain ⟨CA', cc', e1, h1, -, r1⟩ := Rd.of_own (own_typed_keep h.rc (row_typed h.r (by decide) cs))
  obtain ⟨OA', oc', e2, h2, -, r2⟩ := Rd.of_own (own_typed_keep h.ro (row_typed h.r (by decide) cs))
  obtain ⟨KA', kc', e3, h3, -, r3⟩ := Rd.of_own (own_typed_keep h.rk (row_typed h.r (by decide) cs))
  injection e1 with a1 a2 a3
  injection e2 with b1 b2 b3
  injection e3 with c1 c2 c3
  subst a1 a3 b1 b3 c1 c3
  rw [List.take_of_length_le (Nat.le_refl _)] at r1
  exact ⟨by unfold RowOf; rw [List.length_map]; exact r1, by unfold RowOf; rw [h.ok.ol]; exact r2, by unfold RowOf; rw [h.ok.kl]; exact r3, h.ok, h.mem.keep (row_typed h.r (by decide) cs) (row_typed h.r (by decide) cs), h1, h2, h3⟩
theorem Mid.blkC {w w0 W w' : World} {uc uo uk : Value} {kc ko kk : Nat} {Lc Lo Lk : List Value} {os : List Og} {ks : List Kw} {o : Og} {a : Kw} (h : Mid w w0 W uc uo uk kc ko kk Lc Lo Lk os ks o a) (hz : w0.heap.size = w.heap.size + 2) (hg : W.grownBy w' uc.ownBlock) : Blk w' (w.heap.size + 1) 69 #[uc, uo, uk] :=
  h.n.grown hg (fun e => by have := (h.rc.lt _ e.symm).1; omega)
theorem Mid.blkO {w w0 W w' : World} {uc uo uk : Value} {kc ko kk : Nat} {Lc Lo Lk : List Value} {os : List Og} {ks : List Kw} {o : Og} {a : Kw} (h : Mid w w0 W uc uo uk kc ko kk Lc Lo Lk os ks o a) (hz : w0.heap.size = w.heap.size + 2) (hg : W.grownBy w' uo.ownBlock) : Blk w' (w.heap.size + 1) 69 #[uc, uo, uk] :=
  h.n.grown hg (fun e => by have := (h.ro.lt _ e.symm).1; omega)
theorem Mid.blkK {w w0 W w' : World} {uc uo uk : Value} {kc ko kk : Nat} {Lc Lo Lk : List Value} {os : List Og} {ks : List Kw} {o : Og} {a : Kw} (h : Mid w w0 W uc uo uk kc ko kk Lc Lo Lk os ks o a) (hz : w0.heap.size = w.heap.size + 2) (hg : W.grownBy w' uk.ownBlock) : Blk w' (w.heap.size + 1) 69 #[uc, uo, uk] :=
  h.n.grown hg (fun e => by have := (h.rk.lt _ e.symm).1; omega)
theorem NightOk.snoc {l : List Kr} {n i k : Nat} {os : List Og} {ks : List Kw} (h : NightOk l n i k os ks) {x : Kr} {o : Og} {a : Kw} (hx : l[k]? = some x) (ho : ∃ A c, o = ogOf x i A c) (hk : KpsOk x n l.length i l.length a.l) : NightOk l n i (k + 1) (os ++ [o]) (ks ++ [a]) := by
  refine ⟨by simp [h.ol], by simp [h.kl], fun j kr hj hkr => ?_, fun j kr hj hkr => ?_⟩
  · by_cases h' : j < k
    · rw [List.getElem?_append_left (by rw [h.ol]; exact h')]
      exact h.o j kr h' hkr
    · obtain rfl : j = k := by omega
      rw [hx] at hkr
      cases hkr
      obtain ⟨A, c, rfl⟩ := ho
      exact ⟨A, c, by rw [List.getElem?_append_right (by rw [h.ol]; exact Nat.le_refl _)]; simp [h.ol]⟩
  · by_cases h' : j < k
    · rw [List.getElem?_append_left (by rw [h.kl]; exact h')]
      exact h.k j kr h' hkr
    · obtain rfl : j = k := by omega
      rw [hx] at hkr
      cases hkr
      exact ⟨a, by rw [List.getElem?_append_right (by rw [h.kl]; exact Nat.le_refl _)]; simp [h.kl], hk⟩
theorem NightInv.next {l : List Kr} {need i : Int} {w w0 wr W : World} {k : Nat} {uc uo uk v1 v2 v3 : Value} {os : List Og} {ks : List Kw} {o : Og} {a : Kw} {x : Kr} (h : NightInv l need i w w0 wr k uc uo uk os ks)
    (hm : Mid w w0 W v1 v2 v3 (k + 1) (k + 1) (k + 1) (((l.take k).map (cmK l.length need)).flatMap cmC ++ [.string (cmK l.length need x).1, .string (cmK l.length need x).2]) (os.flatMap ogC ++ [.int .i64 o.ix, .int .i64 o.v, .string o.salt, .slice o.A o.p.length o.c]) (ks.flatMap kwC ++ [.slice a.A a.l.length a.c]) os ks o a)
    (hx : l[k]? = some x) (ho : ∃ A c, o = ogOf x i.toNat A c) (hk : KpsOk x need.toNat l.length i.toNat l.length a.l) (hok : okK l.length need i x = true) (hoc : o.p.length ≤ o.c) : NightInv l need i w w0 W (k + 1) v1 v2 v3 (os ++ [o]) (ks ++ [a]) := by
  have ht : l.take (k + 1) = l.take k ++ [x] := by rw [List.take_add_one, hx]; rfl
  refine ⟨hm.b, hm.r, hm.n, ?_, ?_, ?_, h.ok.snoc hx ho hk, ⟨fun o' ho' => ?_, fun a' ha' => ?_⟩, ?_⟩
  · rw [ht, List.map_append, List.flatMap_append]; exact hm.rc
  · rw [List.flatMap_append]; exact hm.ro
  · rw [List.flatMap_append]; exact hm.rk
  · rcases List.mem_append.1 ho' with h' | h'
    · exact hm.mem.1 o' h'
    · rw [List.mem_singleton.1 h']; exact ⟨hm.po, hoc⟩
  · rcases List.mem_append.1 ha' with h' | h'
    · exact hm.mem.2 a' h'
    · rw [List.mem_singleton.1 h']; exact hm.ka
  · rw [ht, List.all_append, h.all, Bool.true_and, List.all_cons, hok]; rfl
end

section
open Go.RowKit

theorem okK_dv {m : Nat} {need i : Int} {kr : Kr} (h : okK m need i kr = true) : dvB kr.seeds kr.salt need m kr.random = true := by
  unfold okK at h
  rw [Bool.and_eq_true] at h
  exact h.1
theorem okK_seed {m : Nat} {need i : Int} {kr : Kr} (h : okK m need i kr = true) : ∃ v, kr.seeds[i.toNat]? = some v ∧ 0 ≤ v ∧ v ≤ 719 ∧ ((i.toNat : Nat) : Int) = i ∧ i.toNat < kr.seeds.length ∧ kr.seeds.length ≤ 600 := by
  obtain ⟨n', m', -, -, hok⟩ := DivOk.of (okK_dv h)
  unfold okK at h
  rw [Bool.and_eq_true] at h
  have hi := of_decide_eq_true h.2
  obtain ⟨v, hv⟩ := get_some kr.seeds i.toNat (by omega)
  have hr := sdV_at hok.sd hv
  exact ⟨v, hv, hr.1, hr.2, by omega, by omega, hok.few⟩
theorem okK_num {m : Nat} {need i : Int} {kr : Kr} (h : okK m need i kr = true) : ∃ n : Nat, need = n ∧ DivOk kr.seeds n m kr.random := by
  obtain ⟨n', m', hn, hm, hok⟩ := DivOk.of (okK_dv h)
  obtain rfl : m = m' := by omega
  exact ⟨n', hn, hok⟩
theorem cmK_eq {m : Nat} {need i : Int} {kr : Kr} (h : okK m need i kr = true) : cmK m need kr = (rt (ksL kr.seeds kr.salt), rt (khP kr.seeds need.toNat m kr.random kr.seeds.length)) := by
  unfold cmK cmR
  rw [if_pos (okK_dv h), Int.toNat_natCast]
/-- An own opening counts. -/
theorem kone_own {m : Nat} {need i : Int} {kr : Kr} (h : okK m need i kr = true) (A : Option Addr) (c : Nat) (kp : Int) (l : List Kp) (nd : Int) :
    kone (cmK m need kr) (kr.seeds.length : Int) kp i (ogOf kr i.toNat A c) l nd = (kr.seeds[i.toNat]?.getD 0, 0, false) := by
  obtain ⟨v, hv, h0, h1, hi, -, -⟩ := okK_seed h
  have hdv := okK_dv h
  unfold dvB at hdv
  rw [Bool.and_eq_true] at hdv
  have hck := ck_own hdv.1 hv
  unfold kone
  rw [cmK_eq h]
  refine if_pos ⟨hi, ?_⟩
  simp only [ogOf, hv, Option.getD_some]
  exact hck
/-- An own share counts. -/
theorem kgood_own {m : Nat} {need i : Int} {kr : Kr} (h : okK m need i kr = true) (j : Nat) (hj : j < m) (A : Option Addr) (c : Nat) :
    kgood (cmK m need kr).2 (kr.seeds.length : Int) (m : Int) i (kpOf kr need.toNat m i.toNat j A c) = true := by
  obtain ⟨v, hv, -, -, hi, hil, h6⟩ := okK_seed h
  obtain ⟨n, rfl, hok⟩ := okK_num h
  have hkv := kv_own kr.seeds n m kr.random i.toNat j h6 (Nat.le_trans hok.m7 (by omega)) hil hj
  rw [cmK_eq h]
  rw [hi] at hkv
  have her := evp_range (kpoly kr.seeds n kr.random i.toNat) ((j : Int) + 1)
  simp only [kgood, kpOf, Int.toNat_natCast]
  rw [Bool.and_eq_true, Bool.and_eq_true, Bool.and_eq_true]
  exact ⟨⟨⟨decide_eq_true hi, decide_eq_true ⟨by omega, by omega⟩⟩, (elemB_iff _).2 her⟩, by rw [← hi] at hkv ⊢; exact hkv⟩
theorem jfold_all {root : ByteArray} {n kp i : Int} (l : List Kp) (S : List (Int × Int)) (hg : ∀ k, k ∈ l → kgood root n kp i k = true) (hd : (S.map (·.1) ++ l.map (·.s.1)).Nodup) : l.foldl (jst root n kp i) S = S ++ l.map (·.s) := by
  induction l generalizing S with
  | nil => simp
  | cons k l ih =>
    have hk := hg k List.mem_cons_self
    have hn : (S.map (·.1)).contains k.s.1 = false := by
      rw [List.nodup_append] at hd
      simp only [List.contains_eq_mem, decide_eq_false_iff_not]
      intro hm
      exact hd.2.2 k.s.1 hm k.s.1 (by simp) rfl
    have hs : jst root n kp i S k = S ++ [k.s] := by unfold jst; rw [hk, hn]; rfl
    rw [List.foldl_cons, hs, ih _ (fun q hq => hg q (List.mem_cons_of_mem _ hq)) (by simpa using hd)]
    simp
theorem jfd_all {root : ByteArray} {n kp i : Int} {l : List Kp} (hg : ∀ k, k ∈ l → kgood root n kp i k = true) (hd : (l.map (·.s.1)).Nodup) : jfd root n kp i l = l.map (·.s) := by
  unfold jfd
  rw [jfold_all l [] hg (by simpa using hd)]
  rfl
/-- Some own shares, each once: joined they say the seed, if there are enough. -/
theorem kjn_own {m : Nat} {need i : Int} {kr : Kr} (h : okK m need i kr = true) {l : List Kp} (hl : ∀ k, k ∈ l → ∃ j A c, j < m ∧ k = kpOf kr need.toNat m i.toNat j A c) (hd : (l.map (·.s.1)).Nodup) :
    kjn (cmK m need kr).2 (kr.seeds.length : Int) (m : Int) i l need = if (l.length : Int) < need then (0, 25) else (kr.seeds[i.toNat]?.getD 0, 0) := by
  have hg : ∀ k, k ∈ l → kgood (cmK m need kr).2 (kr.seeds.length : Int) (m : Int) i k = true := fun k hk => by
    obtain ⟨j, A, c, hj, rfl⟩ := hl k hk
    exact kgood_own h j hj A c
  have hj := jfd_all hg hd
  have hlen : (jfd (cmK m need kr).2 (kr.seeds.length : Int) (m : Int) i l).length = l.length := by rw [hj, List.length_map]
  obtain ⟨v, hv, hv0, hv1, hi, hil, h6⟩ := okK_seed h
  obtain ⟨n, rfl, hok⟩ := okK_num h
  by_cases hlt : (l.length : Int) < (n : Int)
  · rw [if_pos hlt]
    exact kjn_few (by rw [hlen]; exact hlt)
  · rw [if_neg hlt]
    have hon : On (kpoly kr.seeds n kr.random i.toNat) (jfd (cmK m (n : Int) kr).2 (kr.seeds.length : Int) (m : Int) i l) := jfd_on (by have := hok.m7; omega) (fun k hk _ => by
      obtain ⟨j, A, c, _, rfl⟩ := hl k hk
      simp only [kpOf, Int.toNat_natCast])
    have hp0 : evp (kpoly kr.seeds n kr.random i.toNat) 0 = v := by
      unfold kpoly
      rw [hv]
      simp only [Option.getD_some, evp]
      omega
    have hpl : (kpoly kr.seeds n kr.random i.toNat).length ≤ n := by
      unfold kpoly
      have := hok.one
      simp only [List.length_cons, List.length_take]
      omega
    have := kjn_ok (n := (kr.seeds.length : Int)) (kp := (m : Int)) (i := i) (l := l) (root := (cmK m (n : Int) kr).2) (need := n) hon hok.one (by have := hok.le; have := hok.m7; omega) hpl (by rw [hlen]; omega) (by rw [hp0]; exact hv1)
    rw [this, hp0, hv]
    rfl
/-- A keeper whose opening does not count. -/
theorem kone_held {m : Nat} {need i : Int} {kr : Kr} (h : okK m need i kr = true) {o : Og} (ho : o.ix = i → ckB (cmK m need kr).1 (kr.seeds.length : Int) o.ix o.v o.salt o.p = false) {l : List Kp} (hl : ∀ k, k ∈ l → ∃ j A c, j < m ∧ k = kpOf kr need.toNat m i.toNat j A c) (hd : (l.map (·.s.1)).Nodup) :
    kone (cmK m need kr) (kr.seeds.length : Int) (m : Int) i o l need = if (l.length : Int) < need then (0, 25, true) else (kr.seeds[i.toNat]?.getD 0, 0, true) := by
  unfold kone
  rw [if_neg (fun hc => by rw [ho hc.1] at hc; exact absurd hc.2 (by simp)), kjn_own h hl hd]
  split <;> rfl
theorem ck_empty (root : ByteArray) (n : Int) (ix v : Int) (p : List ByteArray) : ckB root n ix v ⟨#[]⟩ p = false := by
  have : isD (⟨#[]⟩ : ByteArray) = false := by decide
  simp only [ckB, this, Bool.and_false, Bool.false_and]
/-- The kept shares of a night: each once. -/
theorem KpsOk.nodup {kr : Kr} {n m i j : Nat} {l : List Kp} (h : KpsOk kr n m i j l) : (l.map (·.s.1)).Nodup := by
  have e : l.map (·.s.1) = (List.range j).map (fun q : Nat => ((q : Int) + 1)) := by
    apply List.ext_getElem?
    intro q
    by_cases hq : q < j
    · obtain ⟨A, c, hk⟩ := h.2 q hq
      rw [List.getElem?_map, hk, List.getElem?_map, List.getElem?_range hq]
      rfl
    · rw [List.getElem?_eq_none (by rw [List.length_map, h.1]; omega), List.getElem?_eq_none (by rw [List.length_map, List.length_range]; omega)]
  rw [e]
  rw [List.nodup_iff_pairwise_ne, List.pairwise_map]
  exact List.Pairwise.imp (fun {a b} hab => by omega) (List.nodup_iff_pairwise_ne.1 List.nodup_range)
theorem KpsOk.each {kr : Kr} {n m i j : Nat} {l : List Kp} (h : KpsOk kr n m i j l) {k : Kp} (hk : k ∈ l) : ∃ q A c, q < j ∧ k = kpOf kr n m i q A c := by
  obtain ⟨q, hq⟩ := List.getElem?_of_mem hk
  have hql : q < l.length := (List.getElem?_eq_some_iff.1 hq).1
  obtain ⟨A, c, he⟩ := h.2 q (by rw [← h.1]; exact hql)
  rw [hq] at he
  cases he
  exact ⟨q, A, c, by rw [← h.1]; exact hql, rfl⟩
end

section
open Go.RowKit

theorem og_fit {m : Nat} {need i : Int} {kr : Kr} (h : okK m need i kr = true) {w : World} {A : Option Addr} {c : Nat} (hp : PathIn w A (pt (ksL kr.seeds kr.salt) i.toNat)) : OgFit w (ogOf kr i.toNat A c) := by
  obtain ⟨v, hv, h0, h1, hi, hil, h6⟩ := okK_seed h
  have hpl : (pt (ksL kr.seeds kr.salt) i.toNat).length ≤ 600 := by
    rw [pt_len, ksL_length]
    have := plen_lt_n kr.seeds.length i.toNat (by omega)
    omega
  have hsm := allD_sm' (allD_pt (ksL kr.seeds kr.salt) i.toNat (ksL_D _ _))
  refine ⟨hp.1, by show (pt (ksL kr.seeds kr.salt) i.toNat).length ≤ _; omega, fun s hs => by have := hsm s hs; omega, by show (dg _).size ≤ _; rw [dg_size]; omega, ⟨?_, ?_⟩, ⟨?_, ?_⟩⟩
  · show _ ≤ ((i.toNat : Nat) : Int); omega
  · show ((i.toNat : Nat) : Int) ≤ _; omega
  · show _ ≤ kr.seeds[i.toNat]?.getD 0; rw [hv]; show _ ≤ v; omega
  · show kr.seeds[i.toNat]?.getD 0 ≤ _; rw [hv]; show v ≤ _; omega
theorem kp_fit {m : Nat} {need i : Int} {kr : Kr} (h : okK m need i kr = true) {w : World} {A : Option Addr} {c j : Nat} (hj : j < m) (hp : PathIn w A (kpOf kr need.toNat m i.toNat j A c).p) : KpFit w (kpOf kr need.toNat m i.toNat j A c) := by
  obtain ⟨v, hv, h0, h1, hi, hil, h6⟩ := okK_seed h
  obtain ⟨n, rfl, hok⟩ := okK_num h
  have hm7 := hok.m7
  have hlm : kr.seeds.length * m ≤ 4200 := Nat.le_trans (Nat.mul_le_mul h6 hm7) (by omega)
  have him : i.toNat * m + j < kr.seeds.length * m := by
    have : (i.toNat + 1) * m ≤ kr.seeds.length * m := Nat.mul_le_mul_right m hil
    rw [Nat.add_mul, Nat.one_mul] at this
    omega
  have hpl : (kpOf kr (n : Int).toNat m i.toNat j A c).p.length ≤ 4200 := by
    show (pt (khP _ _ _ _ _) _).length ≤ _
    rw [pt_len, khP_length]
    have := plen_lt_n (kr.seeds.length * m) (i.toNat * m + j) (by omega)
    omega
  have hsm := allD_sm' (allD_pt (khP kr.seeds (n : Int).toNat m kr.random kr.seeds.length) (i.toNat * m + j) (khP_D _ _ _ _ _))
  have her := evp_range (kpoly kr.seeds (n : Int).toNat kr.random i.toNat) ((j : Int) + 1)
  refine ⟨hp.1, by omega, fun s hs => by have := hsm s hs; omega, ⟨?_, ?_⟩, ⟨?_, ?_⟩, ⟨?_, ?_⟩⟩
  · show _ ≤ ((i.toNat : Nat) : Int); omega
  · show ((i.toNat : Nat) : Int) ≤ _; omega
  · show _ ≤ (j : Int) + 1; omega
  · show (j : Int) + 1 ≤ _; omega
  · show _ ≤ evp (kpoly kr.seeds (n : Int).toNat kr.random i.toNat) ((j : Int) + 1); omega
  · show evp (kpoly kr.seeds (n : Int).toNat kr.random i.toNat) ((j : Int) + 1) ≤ _; omega
/-- What open answers fits a draw. -/
theorem NightRes.fit {l : List Kr} {need i : Int} {w : World} {CA OA KA : Option Addr} {cc oc kc : Nat} {os : List Og} {ks : List Kw} (h : NightRes l need i w CA cc OA oc KA kc os ks) (ha : l.all (okK l.length need i) = true) (hl : l.length ≤ 7) :
    DrFit w CA (l.map (cmK l.length need)) OA os KA ks := by
  have hok := List.all_eq_true.1 ha
  refine ⟨h.c, h.o, h.k, fun o ho => ?_, fun a hk => ?_, by rw [List.length_map]; omega, by rw [h.ok.ol]; omega, by rw [h.ok.kl]; omega⟩
  · have hp := (h.mem.1 o ho).1
    obtain ⟨j, hj⟩ := List.getElem?_of_mem ho
    have hjl : j < l.length := by have := (List.getElem?_eq_some_iff.1 hj).1; rw [h.ok.ol] at this; exact this
    obtain ⟨kr, hkr⟩ := get_some l j hjl
    obtain ⟨A, c, he⟩ := h.ok.o j kr hjl hkr
    rw [hj] at he
    cases he
    exact og_fit (hok kr (List.mem_of_getElem? hkr)) hp
  · obtain ⟨hr, -, hp⟩ := h.mem.2 a hk
    obtain ⟨j, hj⟩ := List.getElem?_of_mem hk
    have hjl : j < l.length := by have := (List.getElem?_eq_some_iff.1 hj).1; rw [h.ok.kl] at this; exact this
    obtain ⟨kr, hkr⟩ := get_some l j hjl
    obtain ⟨a', he, hks⟩ := h.ok.k j kr hjl hkr
    rw [hj] at he
    cases he
    refine ⟨hr, fun k hkm => ?_, by rw [hks.1]; omega⟩
    have hpk := hp k hkm
    obtain ⟨q, A, c, hq, rfl⟩ := hks.each hkm
    exact kp_fit (hok kr (List.mem_of_getElem? hkr)) hq hpk
end

section
open Go.RowKit

def Arw (w : World) (e size g n : Nat) (xs : List Value) : Prop := xs.length = n * size ∧ ∃ cur : Array Value, Blk w g e cur ∧ n * size ≤ cur.size ∧ cur.toList.take (n * size) = xs
theorem Arw.of_own {w : World} {base e size n : Nat} {v : Value} {xs : List Value} (h : w.ownsRow base e size v n xs) (hn : 0 < n) : ∃ g cap, v = .slice (some ⟨g, 0, none⟩) n cap ∧ base ≤ g ∧ n ≤ cap ∧ cap ≤ maxLen ∧ Arw w e size g n xs := by
  obtain ⟨h1, h2⟩ := h
  rcases h2 with ⟨-, h0⟩ | ⟨g, cap, cur, rfl, hb, hg, hc, hm, hs, ht⟩
  · omega
  · exact ⟨g, cap, rfl, hb, hc, hm, h1, cur, hg, by rw [hs]; exact Nat.mul_le_mul_right size hc, ht⟩
theorem Arw.get {w : World} {e size g n : Nat} {xs : List Value} (h : Arw w e size g n xs) {j : Nat} {u : Value} (hj : xs[j]? = some u) : w.cell? ⟨g, j, none⟩ = some u := by
  obtain ⟨h1, cur, hb, hs, ht⟩ := h
  rw [hb.cell]
  rw [← ht, List.getElem?_take] at hj
  split at hj
  · simpa using hj
  · cases hj
theorem Arw.frozen {w : World} {e size g n : Nat} {xs : List Value} (h : Arw w e size g n xs) (j : Nat) : w.frozen? ⟨g, j, none⟩ = false := by
  obtain ⟨h1, cur, hb, hs, ht⟩ := h
  exact hb.frozen j
theorem Arw.lt {w : World} {e size g n : Nat} {xs : List Value} (h : Arw w e size g n xs) : g < w.heap.size := by
  obtain ⟨h1, cur, hb, hs, ht⟩ := h
  exact hb.lt
theorem Arw.blk {w : World} {e size g n : Nat} {xs : List Value} (h : Arw w e size g n xs) : ∃ cs, Blk w g e cs := by
  obtain ⟨h1, cur, hb, hs, ht⟩ := h
  exact ⟨cur, hb⟩
theorem Arw.kept {w w' : World} {e size g n : Nat} {xs : List Value} (h : Arw w e size g n xs) (hk : w'.heap[g]? = w.heap[g]?) : Arw w' e size g n xs := by
  obtain ⟨h1, cur, hb, hs, ht⟩ := h
  exact ⟨h1, cur, hk.trans hb, hs, ht⟩
theorem Arw.below {w w' : World} {e size g n : Nat} {xs : List Value} (h : Arw w e size g n xs) (hb : Below w.heap.size w w') : Arw w' e size g n xs := h.kept (hb.block g h.lt)
theorem Arw.set {w : World} {e size g n : Nat} {xs : List Value} (h : Arw w e size g n xs) (j : Nat) (u : Value) : Arw (w.setCell ⟨g, j, none⟩ u) e size g n (xs.set j u) := by
  obtain ⟨h1, cur, hb, hs, ht⟩ := h
  refine ⟨by rw [List.length_set]; exact h1, cur.setIfInBounds j u, hb.set j u, by simpa using hs, ?_⟩
  rw [Array.toList_setIfInBounds, List.take_set, ht]
theorem Arw.far {w : World} {e size g n : Nat} {xs : List Value} (h : Arw w e size g n xs) {p : Addr} (hp : g ≠ p.block) (u : Value) : Arw (w.setCell p u) e size g n xs := h.kept (Below.heap_setCell w p u g hp)
theorem Arw.rd {w : World} {e size g n : Nat} {xs : List Value} (h : Arw w e size g n xs) : Rd w size (some ⟨g, 0, none⟩) n xs :=
  ⟨h.1, fun _ => ⟨g, 0, rfl, fun j u hu => by rw [Nat.zero_add]; exact h.get hu⟩⟩
theorem Arw.ne {w : World} {e size g n e' size' g' n' : Nat} {xs ys : List Value} (h : Arw w e size g n xs) (h' : Arw w e' size' g' n' ys) (he : e ≠ e') : g ≠ g' := by
  obtain ⟨c, hc⟩ := h.blk
  obtain ⟨d, hd⟩ := h'.blk
  exact hc.ne_ hd he
theorem Arw.drew {w : World} {e size g n : Nat} {xs : List Value} (h : Arw w e size g n xs) (q : Nat) : Arw (w.drewN q) e size g n xs := h

/-- One cell of one element is set. -/
theorem flatM_set {α : Type} (f : α → List Value) (m : Nat) (hf : ∀ a, (f a).length = m) (l : List α) (k : Nat) (x y : α) (hx : l[k]? = some x) (r : Nat) (hr : r < m) (u : Value) (hy : f y = (f x).set r u) : (l.flatMap f).set (k * m + r) u = (l.set k y).flatMap f := by
  induction l generalizing k with
  | nil => simp at hx
  | cons b l ih =>
    rw [List.flatMap_cons]
    cases k with
    | zero =>
      obtain rfl : b = x := by simpa using hx
      rw [Nat.zero_mul, Nat.zero_add, List.set_append_left _ _ (by rw [hf]; exact hr), List.set_cons_zero, List.flatMap_cons, hy]
    | succ k =>
      have := ih k (by simpa using hx)
      rw [List.set_append_right _ _ (by rw [hf, Nat.add_mul]; omega), hf, List.set_cons_succ, List.flatMap_cons, ← this]
      congr 2
      rw [Nat.add_mul]; omega
theorem Ints.set {w : World} {g n : Nat} {l : List Int} (h : Arw w 3 1 g n (l.map (Value.int .i64))) (j : Nat) (x : Int) : Arw (w.setCell ⟨g, j, none⟩ (.int .i64 x)) 3 1 g n ((l.set j x).map (Value.int .i64)) := by
  rw [List.map_set]
  exact h.set j _
theorem info_kr : (Tryz.prog.info? 27).map (fun i => (i.zero, i.size, i.bytes)) = some (some (.agg #[.slice none 0 0, .string ByteArray.empty, .slice none 0 0]), 3, 64) := by kernel_rfl
theorem info_in : (Tryz.prog.info? 3).map (fun i => (i.zero, i.size, i.bytes)) = some (some (.int .i64 0), 1, 8) := by kernel_rfl
theorem own_zero (w : World) (T size : Nat) : (w.alloc (.cells #[] T)).ownsRow w.heap.size T size (.slice (some ⟨w.heap.size, 0, none⟩) 0 0) 0 [] :=
  ⟨by simp, .inr ⟨w.heap.size, 0, #[], rfl, Nat.le_refl _, Blk.new w _ _ _ rfl, Nat.le_refl _, by simp [maxLen], by simp, by simp⟩⟩
theorem own_lit (w : World) (cs : Array Value) (T size n : Nat) (h : cs.size = n * size) (hn : n ≤ maxLen) : (w.alloc (.cells cs T)).ownsRow w.heap.size T size (.slice (some ⟨w.heap.size, 0, none⟩) n n) n cs.toList :=
  ⟨by simpa using h, .inr ⟨w.heap.size, n, cs, rfl, Nat.le_refl _, Blk.new w _ _ _ rfl, Nat.le_refl _, hn, h, by rw [← h]; exact List.take_of_length_le (by simp)⟩⟩
theorem below_zero {w w' : World} {T : Nat} (hg : (w.alloc (.cells #[] T)).grownBy w' (some w.heap.size)) : Below w.heap.size w w' :=
  (below_alloc (Below.refl _ _) _).grown hg (by have := (below_alloc (Below.refl w.heap.size w) (.cells #[] T)).size; exact this) (fun j hj => by cases hj; exact Nat.le_refl _)
theorem one_kr (l : List Kr) : ∀ u, u ∈ l.flatMap krC → u.oneCell' = true := fun u hu => by
  obtain ⟨a, -, h⟩ := List.mem_flatMap.1 hu
  simp only [krC, List.mem_cons, List.not_mem_nil, or_false] at h
  rcases h with rfl | rfl | rfl <;> rfl
theorem one_og (l : List Og) : ∀ u, u ∈ l.flatMap ogC → u.oneCell' = true := fun u hu => by
  obtain ⟨a, -, h⟩ := List.mem_flatMap.1 hu
  simp only [ogC, List.mem_cons, List.not_mem_nil, or_false] at h
  rcases h with rfl | rfl | rfl | rfl <;> rfl
theorem one_kp (l : List Kp) : ∀ u, u ∈ l.flatMap kpC → u.oneCell' = true := fun u hu => by
  obtain ⟨a, -, h⟩ := List.mem_flatMap.1 hu
  simp only [kpC, List.mem_cons, List.not_mem_nil, or_false] at h
  rcases h with rfl | rfl | rfl | rfl <;> rfl
theorem one_kw (l : List Kw) : ∀ u, u ∈ l.flatMap kwC → u.oneCell' = true := fun u hu => by
  obtain ⟨a, -, h⟩ := List.mem_flatMap.1 hu
  simp only [kwC, List.mem_cons, List.not_mem_nil, or_false] at h
  rw [h]; rfl
theorem one_in (l : List Int) : ∀ u, u ∈ l.map (Value.int .i64) → u.oneCell' = true := fun u hu => by
  obtain ⟨a, -, rfl⟩ := List.mem_map.1 hu
  rfl

/-! ### a whole element is set -/
def lset : List Value → Nat → List Value → List Value
  | xs, _, [] => xs
  | xs, o, v :: r => lset (xs.set o v) (o + 1) r
theorem lset_right (a : List Value) : ∀ (vs b : List Value) (o : Nat), lset (a ++ b) (a.length + o) vs = a ++ lset b o vs
  | [], _, _ => rfl
  | v :: r, b, o => by
    rw [lset, lset, List.set_append_right _ _ (by omega), show a.length + o - a.length = o by omega]
    exact lset_right a r _ (o + 1)
theorem lset_left (b : List Value) : ∀ (vs a : List Value) (o : Nat), o + vs.length ≤ a.length → lset (a ++ b) o vs = lset a o vs ++ b
  | [], _, _, _ => rfl
  | v :: r, a, o, h => by
    rw [List.length_cons] at h
    rw [lset, lset, List.set_append_left _ _ (by omega)]
    exact lset_left b r _ (o + 1) (by rw [List.length_set]; omega)
theorem lset_all : ∀ (vs a c : List Value), c.length = vs.length → lset (a ++ c) a.length vs = a ++ vs
  | [], a, c, h => by
    obtain rfl : c = [] := List.length_eq_zero_iff.1 h
    rfl
  | v :: r, a, [], h => by simp at h
  | v :: r, a, x :: c, h => by
    have ih := lset_all r (a ++ [v]) c (by simpa using h)
    rw [List.length_append, List.length_singleton, List.append_assoc, List.append_assoc] at ih
    rw [lset, List.set_append_right _ _ (Nat.le_refl _), Nat.sub_self, List.set_cons_zero]
    exact ih
theorem flatM_setAll {α : Type} (f : α → List Value) (m : Nat) (hf : ∀ a, (f a).length = m) (l : List α) (k : Nat) (y : α) (hk : k < l.length) : lset (l.flatMap f) (k * m) (f y) = (l.set k y).flatMap f := by
  induction l generalizing k with
  | nil => simp at hk
  | cons b l ih =>
    rw [List.flatMap_cons]
    cases k with
    | zero =>
      rw [Nat.zero_mul, lset_left _ _ _ _ (by rw [hf, hf]; omega), List.set_cons_zero, List.flatMap_cons]
      have := lset_all (f y) [] (f b) (by rw [hf, hf])
      rw [show lset (f b) 0 (f y) = f y from this]
    | succ k =>
      have e : (k + 1) * m = (f b).length + k * m := by rw [hf, Nat.add_mul]; omega
      rw [e, lset_right, ih k (by simpa using hk), List.set_cons_succ, List.flatMap_cons]
theorem Arw.setCells {e size g n : Nat} : ∀ (vs : List Value) (o : Nat) {w : World} {xs : List Value}, Arw w e size g n xs → Arw (w.setCells g o vs) e size g n (lset xs o vs)
  | [], _, _, _, h => h
  | v :: r, o, w, _, h => Arw.setCells r (o + 1) (h.set o v)
theorem Arw.there {w : World} {e size g n : Nat} {xs : List Value} (h : Arw w e size g n xs) (o k : Nat) (hk : o + k ≤ xs.length) : w.there g o k := fun j hj => by
  obtain ⟨u, hu⟩ := get_some xs (o + j) (by omega)
  exact ⟨by rw [h.get hu]; rfl, h.frozen _⟩
theorem setCs_far (b : Nat) : ∀ (vs : List Value) (o : Nat) (w : World) (g : Nat), g ≠ b → (w.setCells b o vs).heap[g]? = w.heap[g]?
  | [], _, _, _, _ => rfl
  | v :: r, o, w, g, h => (setCs_far b r (o + 1) (w.setCell ⟨b, o, none⟩ v) g h).trans (Below.heap_setCell w ⟨b, o, none⟩ v g h)
theorem setCs_typed {w : World} {g T : Nat} {cs : Array Value} (hb : Blk w g T cs) {T' : Nat} (hT : T ≠ T') (o : Nat) (vs : List Value) : ∀ (b : Nat) (cs' : Array Value), w.heap[b]? = some (.cells cs' T' (0, 0)) → (w.setCells g o vs).heap[b]? = w.heap[b]? := fun b cs' hcs =>
  setCs_far g vs o w b (by
    intro e
    subst e
    unfold Blk at hb
    rw [hb] at hcs
    injection hcs with hcs
    injection hcs with _ ht
    exact hT ht)
theorem below_setCsK {B : Nat} {a w : World} (h : Below B a w) (b : Nat) (hb : B ≤ b) (vs : List Value) (o : Nat) : Below B a (w.setCells b o vs) := by
  induction vs generalizing o w with
  | nil => exact h
  | cons v r ih => exact ih (h.setCell (p := ⟨b, o, none⟩) hb v) (o + 1)
end

section
open Go.RowKit

def IArr (w : World) (B T : Nat) (l : List Int) : Prop := w.heap[B]? = some (.cells (l.map (Value.int .i64)).toArray T (0, 0))

theorem IArr.lt {w : World} {B T : Nat} {l : List Int} (h : IArr w B T l) : B < w.heap.size := (Array.getElem?_eq_some_iff.1 h).1
theorem IArr.cell {w : World} {B T : Nat} {l : List Int} (h : IArr w B T l) (j : Nat) (x : Int) (hx : l[j]? = some x) : w.cell? ⟨B, j, none⟩ = some (.int .i64 x) := by
  rw [cell_of_row w B j _ T (0, 0) h]; simp [hx]
theorem IArr.frozen {w : World} {B T : Nat} {l : List Int} (h : IArr w B T l) (j : Nat) : w.frozen? ⟨B, j, none⟩ = false := frozen_of_row w B j _ T h
theorem IArr.kept {w w' : World} {B T : Nat} {l : List Int} (h : IArr w B T l) (hb : w'.heap[B]? = w.heap[B]?) : IArr w' B T l := hb.trans h
theorem IArr.below {w w' : World} {B T : Nat} {l : List Int} (h : IArr w B T l) (hb : Below w.heap.size w w') : IArr w' B T l := h.kept (hb.block B h.lt)
theorem IArr.set {w : World} {B T : Nat} {l : List Int} (h : IArr w B T l) (i : Nat) (v : Int) : IArr (w.setCell ⟨B, i, none⟩ (.int .i64 v)) B T (l.set i v) := by
  have := heap_setCell_same w B i _ T (.int .i64 v) h
  unfold IArr
  rw [this]
  congr 2
  rw [List.map_set]
  simp
theorem IArr.own {w : World} {B T base : Nat} {l : List Int} (h : IArr w B T l) (hb : base ≤ B) (hn : l.length ≤ maxLen) :
    w.ownsRow base T 1 (.slice (some ⟨B, 0, none⟩) l.length l.length) l.length (l.map (Value.int .i64)) :=
  ⟨by simp, .inr ⟨B, l.length, _, rfl, hb, h, Nat.le_refl _, hn, by simp, by simp only [Nat.mul_one]; exact List.take_of_length_le (by simp)⟩⟩
theorem IArr.of_made {w : World} {base T n g : Nat} (h : w.ownsRow base T 1 (.slice (some ⟨g, 0, none⟩) n n) n (madeCells #[.int .i64 0] n).toList) : IArr w g T (List.replicate n 0) := by
  obtain ⟨h1, h2⟩ := h
  rcases h2 with ⟨h2, _⟩ | ⟨g', cap, cur, hv, _, hg, hn, _, hs, ht⟩
  · simp at h2
  · simp only [Value.slice.injEq, Option.some.injEq, Addr.mk.injEq, and_true, true_and] at hv
    obtain ⟨rfl, rfl⟩ := hv
    rw [List.take_of_length_le (by simp [hs])] at ht
    have e : cur = madeCells #[.int .i64 0] n := Array.toList_inj.1 ht
    unfold IArr
    rw [hg, e]
    congr 2
    apply Array.ext_getElem?
    intro j
    by_cases hj : j < n
    · simp [madeCells, hj, List.getElem?_replicate, Nat.mod_one]
    · simp [madeCells, hj, List.getElem?_replicate]
theorem set_take_succ {l r : List Int} {i : Nat} {v : Int} (h : l.take i = r.take i) (hi : i < l.length) (hv : r[i]? = some v) : (l.set i v).take (i + 1) = r.take (i + 1) := by
  rw [take_snoc r i v hv, take_snoc (l.set i v) i v (by simp [hi]), ← h]
  congr 1
  rw [List.take_set_of_le (Nat.le_refl _)]
end

end Go.Proofs.YtjfondfjdhjooaaGreatDoor
