/- Chapter 30, plain: the nights of honest keepers. Chapter 30: the laws' example: two keepers. Chapter 30: a night's lists fit a draw; the example's keepers are right. Chapter 30, plain: the draw of a night in which all open. Chapter 30: the example's nights. Chapter 30, plain: the example's draws with a seed that is withheld. Chapter 30: the draw of a night in which all open, as a contract. Chapter 30: a draw of two keepers at slot 1, with any openings and shares. Chapter 30: the laws' head. A row that a call owns, by its block: what is read of it, and what a store changes. Chapter 30, plain: few keepers; another seed of one of them. Chapter 30, plain: a draw in which some keepers do not open. Chapter 30, the reference: the strings that are digested, the leaves. Chapter 30, the reference: the strings of seeds and of openings. Chapter 30, the reference: Short. -/
import Derived.Test.YtjfondfjdhjooaaGreatDoorCbI
import Derived.Deep.MidRow
namespace Go.Proofs.YtjfondfjdhjooaaGreatDoor
set_option linter.unusedVariables false
set_option linter.unusedSimpArgs false

section
open Go.RowKit

theorem okK_dv {m : Nat} {need i : Int} {kr : Kr} (h : okK m need i kr = true) : dvB kr.seeds kr.salt need m kr.random = true := by
  unfold okK at h
  rw [Bool.and_eq_true] at h
  exact h.1
theorem okK_seed {m : Nat} {need i : Int} {kr : Kr} (h : okK m need i kr = true) : ∃ v, kr.seeds[i.toNat]? = some v ∧ 0 ≤ v ∧ v ≤ 719 ∧ ((i.toNat : Nat) : Int) = i ∧ i.toNat < kr.seeds.length ∧ kr.seeds.length ≤ 600 := by
  obtain ⟨n', m', -, -, hok⟩ := DivOk.of (okK_dv h)
  unfold okK at h
  rw [Bool.and_eq_true] at h
  have hi := of_decide_eq_true h.2
  obtain ⟨v, hv⟩ := get_some kr.seeds i.toNat (by omega)
  have hr := sdV_at hok.sd hv
  exact ⟨v, hv, hr.1, hr.2, by omega, by omega, hok.few⟩
theorem okK_num {m : Nat} {need i : Int} {kr : Kr} (h : okK m need i kr = true) : ∃ n : Nat, need = n ∧ DivOk kr.seeds n m kr.random := by
  obtain ⟨n', m', hn, hm, hok⟩ := DivOk.of (okK_dv h)
  obtain rfl : m = m' := by omega
  exact ⟨n', hn, hok⟩
theorem cmK_eq {m : Nat} {need i : Int} {kr : Kr} (h : okK m need i kr = true) : cmK m need kr = (rt (ksL kr.seeds kr.salt), rt (khP kr.seeds need.toNat m kr.random kr.seeds.length)) := by
  unfold cmK cmR
  rw [if_pos (okK_dv h), Int.toNat_natCast]
/-- An own opening counts. -/
theorem kone_own {m : Nat} {need i : Int} {kr : Kr} (h : okK m need i kr = true) (A : Option Addr) (c : Nat) (kp : Int) (l : List Kp) (nd : Int) :
    kone (cmK m need kr) (kr.seeds.length : Int) kp i (ogOf kr i.toNat A c) l nd = (kr.seeds[i.toNat]?.getD 0, 0, false) := by
  obtain ⟨v, hv, h0, h1, hi, -, -⟩ := okK_seed h
  have hdv := okK_dv h
  unfold dvB at hdv
  rw [Bool.and_eq_true] at hdv
  have hck := ck_own hdv.1 hv
  unfold kone
  rw [cmK_eq h]
  refine if_pos ⟨hi, ?_⟩
  simp only [ogOf, hv, Option.getD_some]
  exact hck
/-- An own share counts. -/
theorem kgood_own {m : Nat} {need i : Int} {kr : Kr} (h : okK m need i kr = true) (j : Nat) (hj : j < m) (A : Option Addr) (c : Nat) :
    kgood (cmK m need kr).2 (kr.seeds.length : Int) (m : Int) i (kpOf kr need.toNat m i.toNat j A c) = true := by
  obtain ⟨v, hv, -, -, hi, hil, h6⟩ := okK_seed h
  obtain ⟨n, rfl, hok⟩ := okK_num h
  have hkv := kv_own kr.seeds n m kr.random i.toNat j h6 (Nat.le_trans hok.m7 (by omega)) hil hj
  rw [cmK_eq h]
  rw [hi] at hkv
  have her := evp_range (kpoly kr.seeds n kr.random i.toNat) ((j : Int) + 1)
  simp only [kgood, kpOf, Int.toNat_natCast]
  rw [Bool.and_eq_true, Bool.and_eq_true, Bool.and_eq_true]
  exact ⟨⟨⟨decide_eq_true hi, decide_eq_true ⟨by omega, by omega⟩⟩, (elemB_iff _).2 her⟩, by rw [← hi] at hkv ⊢; exact hkv⟩
theorem jfold_all {root : ByteArray} {n kp i : Int} (l : List Kp) (S : List (Int × Int)) (hg : ∀ k, k ∈ l → kgood root n kp i k = true) (hd : (S.map (·.1) ++ l.map (·.s.1)).Nodup) : l.foldl (jst root n kp i) S = S ++ l.map (·.s) := by
  induction l generalizing S with
  | nil => simp
  | cons k l ih =>
    have hk := hg k List.mem_cons_self
    have hn : (S.map (·.1)).contains k.s.1 = false := by
      rw [List.nodup_append] at hd
      simp only [List.contains_eq_mem, decide_eq_false_iff_not]
      intro hm
      exact hd.2.2 k.s.1 hm k.s.1 (by simp) rfl
    have hs : jst root n kp i S k = S ++ [k.s] := by unfold jst; rw [hk, hn]; rfl
    rw [List.foldl_cons, hs, ih _ (fun q hq => hg q (List.mem_cons_of_mem _ hq)) (by simpa using hd)]
    simp
theorem jfd_all {root : ByteArray} {n kp i : Int} {l : List Kp} (hg : ∀ k, k ∈ l → kgood root n kp i k = true) (hd : (l.map (·.s.1)).Nodup) : jfd root n kp i l = l.map (·.s) := by
  unfold jfd
  rw [jfold_all l [] hg (by simpa using hd)]
  rfl
/-- Some own shares, each once: joined they say the seed, if there are enough. -/
theorem kjn_own {m : Nat} {need i : Int} {kr : Kr} (h : okK m need i kr = true) {l : List Kp} (hl : ∀ k, k ∈ l → ∃ j A c, j < m ∧ k = kpOf kr need.toNat m i.toNat j A c) (hd : (l.map (·.s.1)).Nodup) :
    kjn (cmK m need kr).2 (kr.seeds.length : Int) (m : Int) i l need = if (l.length : Int) < need then (0, 25) else (kr.seeds[i.toNat]?.getD 0, 0) := by
  have hg : ∀ k, k ∈ l → kgood (cmK m need kr).2 (kr.seeds.length : Int) (m : Int) i k = true := fun k hk => by
    obtain ⟨j, A, c, hj, rfl⟩ := hl k hk
    exact kgood_own h j hj A c
  have hj := jfd_all hg hd
  have hlen : (jfd (cmK m need kr).2 (kr.seeds.length : Int) (m : Int) i l).length = l.length := by rw [hj, List.length_map]
  obtain ⟨v, hv, hv0, hv1, hi, hil, h6⟩ := okK_seed h
  obtain ⟨n, rfl, hok⟩ := okK_num h
  by_cases hlt : (l.length : Int) < (n : Int)
  · rw [if_pos hlt]
    exact kjn_few (by rw [hlen]; exact hlt)
  · rw [if_neg hlt]
    have hon : On (kpoly kr.seeds n kr.random i.toNat) (jfd (cmK m (n : Int) kr).2 (kr.seeds.length : Int) (m : Int) i l) := jfd_on (by have := hok.m7; omega) (fun k hk _ => by
      obtain ⟨j, A, c, _, rfl⟩ := hl k hk
      simp only [kpOf, Int.toNat_natCast])
    have hp0 : evp (kpoly kr.seeds n kr.random i.toNat) 0 = v := by
      unfold kpoly
      rw [hv]
      simp only [Option.getD_some, evp]
      omega
    have hpl : (kpoly kr.seeds n kr.random i.toNat).length ≤ n := by
      unfold kpoly
      have := hok.one
      simp only [List.length_cons, List.length_take]
      omega
    have := kjn_ok (n := (kr.seeds.length : Int)) (kp := (m : Int)) (i := i) (l := l) (root := (cmK m (n : Int) kr).2) (need := n) hon hok.one (by have := hok.le; have := hok.m7; omega) hpl (by rw [hlen]; omega) (by rw [hp0]; exact hv1)
    rw [this, hp0, hv]
    rfl
/-- A keeper whose opening does not count. -/
theorem kone_held {m : Nat} {need i : Int} {kr : Kr} (h : okK m need i kr = true) {o : Og} (ho : o.ix = i → ckB (cmK m need kr).1 (kr.seeds.length : Int) o.ix o.v o.salt o.p = false) {l : List Kp} (hl : ∀ k, k ∈ l → ∃ j A c, j < m ∧ k = kpOf kr need.toNat m i.toNat j A c) (hd : (l.map (·.s.1)).Nodup) :
    kone (cmK m need kr) (kr.seeds.length : Int) (m : Int) i o l need = if (l.length : Int) < need then (0, 25, true) else (kr.seeds[i.toNat]?.getD 0, 0, true) := by
  unfold kone
  rw [if_neg (fun hc => by rw [ho hc.1] at hc; exact absurd hc.2 (by simp)), kjn_own h hl hd]
  split <;> rfl
theorem ck_empty (root : ByteArray) (n : Int) (ix v : Int) (p : List ByteArray) : ckB root n ix v ⟨#[]⟩ p = false := by
  have : isD (⟨#[]⟩ : ByteArray) = false := by decide
  simp only [ckB, this, Bool.and_false, Bool.false_and]
/-- The kept shares of a night: each once. -/
theorem KpsOk.nodup {kr : Kr} {n m i j : Nat} {l : List Kp} (h : KpsOk kr n m i j l) : (l.map (·.s.1)).Nodup := by
  have e : l.map (·.s.1) = (List.range j).map (fun q : Nat => ((q : Int) + 1)) := by
    apply List.ext_getElem?
    intro q
    by_cases hq : q < j
    · obtain ⟨A, c, hk⟩ := h.2 q hq
      rw [List.getElem?_map, hk, List.getElem?_map, List.getElem?_range hq]
      rfl
    · rw [List.getElem?_eq_none (by rw [List.length_map, h.1]; omega), List.getElem?_eq_none (by rw [List.length_map, List.length_range]; omega)]
  rw [e]
  rw [List.nodup_iff_pairwise_ne, List.pairwise_map]
  exact List.Pairwise.imp (fun {a b} hab => by omega) (List.nodup_iff_pairwise_ne.1 List.nodup_range)
theorem KpsOk.each {kr : Kr} {n m i j : Nat} {l : List Kp} (h : KpsOk kr n m i j l) {k : Kp} (hk : k ∈ l) : ∃ q A c, q < j ∧ k = kpOf kr n m i q A c := by
  obtain ⟨q, hq⟩ := List.getElem?_of_mem hk
  have hql : q < l.length := (List.getElem?_eq_some_iff.1 hq).1
  obtain ⟨A, c, he⟩ := h.2 q (by rw [← h.1]; exact hql)
  rw [hq] at he
  cases he
  exact ⟨q, A, c, by rw [← h.1]; exact hql, rfl⟩
end

section
open Go.RowKit
theorem kex_zero : (Tryz.prog.info? 27).map (fun i => (i.zero, i.size)) = some (some (.agg #[.slice none 0 0, .string ByteArray.empty, .slice none 0 0]), 3) := by kernel_rfl
structure Ex (w : World) (A : Option Addr) (x y : Kr) : Prop where
  row : RowOf krC 3 w A [x, y]
  ix : KrIn w x
  iy : KrIn w y
  xs : x.seeds = [700, 5]
  xt : x.salt = ⟨#[97]⟩
  xr : x.random = [1, 2]
  ys : y.seeds = [50, 719]
  yt : y.salt = ⟨#[98]⟩
  yr : y.random = [3, 4]
theorem kints_new (w : World) (a b : Int) (g : Nat) (hg : g = w.heap.size) : Ints (w.alloc (.cells #[.int .i64 a, .int .i64 b] 3)) (some ⟨g, 0, none⟩) [a, b] :=
  Rd_new w #[.int .i64 a, .int .i64 b] 3 1 2 g rfl hg
set_option maxRecDepth 100000 in
set_option maxHeartbeats 8000000 in
theorem kex_any (w : World) : Calls Tryz.prog 41 #[] w fun e w' => ∃ A x y, e = .returned (.slice A 2 2) ∧ Ex w' A x y ∧ Below w.heap.size w w' := by
  go_enter Tryz.func41, Tryz.ntmps41
  go_wp2
  go_ret
  refine ⟨_, ⟨some ⟨w.heap.size, 0, none⟩, 2, [700, 5], ⟨#[97]⟩, some ⟨w.heap.size + 1, 0, none⟩, 2, [1, 2]⟩, ⟨some ⟨w.heap.size + 2, 0, none⟩, 2, [50, 719], ⟨#[98]⟩, some ⟨w.heap.size + 3, 0, none⟩, 2, [3, 4]⟩, rfl, ?_, ?_⟩
  · refine ⟨?_, ⟨?_, ?_, (show (2 : Nat) ≤ 9223372036854775807 by decide), (show (2 : Nat) ≤ 9223372036854775807 by decide), Nat.le_refl 2, Nat.le_refl 2, (show (1 : Nat) ≤ 9223372036854775807 by decide), (show (2 : Nat) ≤ 9223372036854775807 by decide), (show (2 : Nat) ≤ 9223372036854775807 by decide)⟩, ⟨?_, ?_, (show (2 : Nat) ≤ 9223372036854775807 by decide), (show (2 : Nat) ≤ 9223372036854775807 by decide), Nat.le_refl 2, Nat.le_refl 2, (show (1 : Nat) ≤ 9223372036854775807 by decide), (show (2 : Nat) ≤ 9223372036854775807 by decide), (show (2 : Nat) ≤ 9223372036854775807 by decide)⟩, rfl, rfl, rfl, rfl, rfl, rfl⟩
    · exact Rd_new _ #[.slice (some ⟨w.heap.size, 0, none⟩) 2 2, .string ⟨#[97]⟩, .slice (some ⟨w.heap.size + 1, 0, none⟩) 2 2, .slice (some ⟨w.heap.size + 2, 0, none⟩) 2 2, .string ⟨#[98]⟩, .slice (some ⟨w.heap.size + 3, 0, none⟩) 2 2] 27 3 2 _ rfl (by simp)
    · exact (kints_new w 700 5 _ rfl).below (below_alloc (below_alloc (below_alloc (below_alloc (Below.refl _ _) _) _) _) _)
    · exact (kints_new _ 1 2 _ (by simp)).below (below_alloc (below_alloc (below_alloc (Below.refl _ _) _) _) _)
    · exact (kints_new _ 50 719 _ (by simp)).below (below_alloc (below_alloc (Below.refl _ _) _) _)
    · exact (kints_new _ 3 4 _ (by simp)).below (below_alloc (Below.refl _ _) _)
  · exact below_alloc (below_alloc (below_alloc (below_alloc (below_alloc (Below.refl _ _) _) _) _) _) _
end

section
open Go.RowKit

theorem Ex.ok {w : World} {A : Option Addr} {x y : Kr} (h : Ex w A x y) : okK 2 2 0 x = true ∧ okK 2 2 0 y = true ∧ okK 2 2 1 x = true ∧ okK 2 2 1 y = true := by
  unfold okK
  rw [h.xs, h.xt, h.xr, h.ys, h.yt, h.yr]
  exact ⟨by decide, by decide, by decide, by decide⟩
theorem og_fit {m : Nat} {need i : Int} {kr : Kr} (h : okK m need i kr = true) {w : World} {A : Option Addr} {c : Nat} (hp : PathIn w A (pt (ksL kr.seeds kr.salt) i.toNat)) : OgFit w (ogOf kr i.toNat A c) := by
  obtain ⟨v, hv, h0, h1, hi, hil, h6⟩ := okK_seed h
  have hpl : (pt (ksL kr.seeds kr.salt) i.toNat).length ≤ 600 := by
    rw [pt_len, ksL_length]
    have := plen_lt_n kr.seeds.length i.toNat (by omega)
    omega
  have hsm := allD_sm' (allD_pt (ksL kr.seeds kr.salt) i.toNat (ksL_D _ _))
  refine ⟨hp.1, by show (pt (ksL kr.seeds kr.salt) i.toNat).length ≤ _; omega, fun s hs => by have := hsm s hs; omega, by show (dg _).size ≤ _; rw [dg_size]; omega, ⟨?_, ?_⟩, ⟨?_, ?_⟩⟩
  · show _ ≤ ((i.toNat : Nat) : Int); omega
  · show ((i.toNat : Nat) : Int) ≤ _; omega
  · show _ ≤ kr.seeds[i.toNat]?.getD 0; rw [hv]; show _ ≤ v; omega
  · show kr.seeds[i.toNat]?.getD 0 ≤ _; rw [hv]; show v ≤ _; omega
theorem kp_fit {m : Nat} {need i : Int} {kr : Kr} (h : okK m need i kr = true) {w : World} {A : Option Addr} {c j : Nat} (hj : j < m) (hp : PathIn w A (kpOf kr need.toNat m i.toNat j A c).p) : KpFit w (kpOf kr need.toNat m i.toNat j A c) := by
  obtain ⟨v, hv, h0, h1, hi, hil, h6⟩ := okK_seed h
  obtain ⟨n, rfl, hok⟩ := okK_num h
  have hm7 := hok.m7
  have hlm : kr.seeds.length * m ≤ 4200 := Nat.le_trans (Nat.mul_le_mul h6 hm7) (by omega)
  have him : i.toNat * m + j < kr.seeds.length * m := by
    have : (i.toNat + 1) * m ≤ kr.seeds.length * m := Nat.mul_le_mul_right m hil
    rw [Nat.add_mul, Nat.one_mul] at this
    omega
  have hpl : (kpOf kr (n : Int).toNat m i.toNat j A c).p.length ≤ 4200 := by
    show (pt (khP _ _ _ _ _) _).length ≤ _
    rw [pt_len, khP_length]
    have := plen_lt_n (kr.seeds.length * m) (i.toNat * m + j) (by omega)
    omega
  have hsm := allD_sm' (allD_pt (khP kr.seeds (n : Int).toNat m kr.random kr.seeds.length) (i.toNat * m + j) (khP_D _ _ _ _ _))
  have her := evp_range (kpoly kr.seeds (n : Int).toNat kr.random i.toNat) ((j : Int) + 1)
  refine ⟨hp.1, by omega, fun s hs => by have := hsm s hs; omega, ⟨?_, ?_⟩, ⟨?_, ?_⟩, ⟨?_, ?_⟩⟩
  · show _ ≤ ((i.toNat : Nat) : Int); omega
  · show ((i.toNat : Nat) : Int) ≤ _; omega
  · show _ ≤ (j : Int) + 1; omega
  · show (j : Int) + 1 ≤ _; omega
  · show _ ≤ evp (kpoly kr.seeds (n : Int).toNat kr.random i.toNat) ((j : Int) + 1); omega
  · show evp (kpoly kr.seeds (n : Int).toNat kr.random i.toNat) ((j : Int) + 1) ≤ _; omega
/-- What open answers fits a draw. -/
theorem NightRes.fit {l : List Kr} {need i : Int} {w : World} {CA OA KA : Option Addr} {cc oc kc : Nat} {os : List Og} {ks : List Kw} (h : NightRes l need i w CA cc OA oc KA kc os ks) (ha : l.all (okK l.length need i) = true) (hl : l.length ≤ 7) :
    DrFit w CA (l.map (cmK l.length need)) OA os KA ks := by
  have hok := List.all_eq_true.1 ha
  refine ⟨h.c, h.o, h.k, fun o ho => ?_, fun a hk => ?_, by rw [List.length_map]; omega, by rw [h.ok.ol]; omega, by rw [h.ok.kl]; omega⟩
  · have hp := (h.mem.1 o ho).1
    obtain ⟨j, hj⟩ := List.getElem?_of_mem ho
    have hjl : j < l.length := by have := (List.getElem?_eq_some_iff.1 hj).1; rw [h.ok.ol] at this; exact this
    obtain ⟨kr, hkr⟩ := get_some l j hjl
    obtain ⟨A, c, he⟩ := h.ok.o j kr hjl hkr
    rw [hj] at he
    cases he
    exact og_fit (hok kr (List.mem_of_getElem? hkr)) hp
  · obtain ⟨hr, -, hp⟩ := h.mem.2 a hk
    obtain ⟨j, hj⟩ := List.getElem?_of_mem hk
    have hjl : j < l.length := by have := (List.getElem?_eq_some_iff.1 hj).1; rw [h.ok.kl] at this; exact this
    obtain ⟨kr, hkr⟩ := get_some l j hjl
    obtain ⟨a', he, hks⟩ := h.ok.k j kr hjl hkr
    rw [hj] at he
    cases he
    refine ⟨hr, fun k hkm => ?_, by rw [hks.1]; omega⟩
    have hpk := hp k hkm
    obtain ⟨q, A, c, hq, rfl⟩ := hks.each hkm
    exact kp_fit (hok kr (List.mem_of_getElem? hkr)) hq hpk
end

section
open Go.RowKit

/-- The sum of the first keepers' seeds for a slot. -/
def sds (l : List Kr) (i : Nat) : Nat → Int
  | 0 => 0
  | k + 1 => sds l i k + ((l[k]?.bind fun kr => kr.seeds[i]?).getD 0)
theorem night_len {l : List Kr} {need i : Int} {w : World} {CA OA KA : Option Addr} {cc oc kc : Nat} {os : List Og} {ks : List Kw} (h : NightRes l need i w CA cc OA oc KA kc os ks) (n : Int) :
    (krs (l.map (cmK l.length need)) n i os (ks.map (·.l)) need).length = l.length := by
  unfold krs
  rw [List.length_map, List.length_zip, List.length_zip, List.length_map, List.length_map, h.ok.ol, h.ok.kl, Nat.min_self, Nat.min_self]
theorem night_krs {l : List Kr} {need i : Int} {w : World} {CA OA KA : Option Addr} {cc oc kc : Nat} {os : List Og} {ks : List Kw} (h : NightRes l need i w CA cc OA oc KA kc os ks) (ha : l.all (okK l.length need i) = true) (n : Nat) (hn : ∀ kr, kr ∈ l → kr.seeds.length = n) {k : Nat} {kr : Kr} (hk : l[k]? = some kr) :
    (krs (l.map (cmK l.length need)) (n : Int) i os (ks.map (·.l)) need)[k]? = some (kr.seeds[i.toNat]?.getD 0, 0, false) := by
  have hkl : k < l.length := (List.getElem?_eq_some_iff.1 hk).1
  have hm := List.mem_of_getElem? hk
  obtain ⟨A, c, ho⟩ := h.ok.o k kr hkl hk
  obtain ⟨a, ha', -⟩ := h.ok.k k kr hkl hk
  have h1 : (l.map (cmK l.length need))[k]? = some (cmK l.length need kr) := by rw [List.getElem?_map, hk]; rfl
  have h2 : (ks.map (·.l))[k]? = some a.l := by rw [List.getElem?_map, ha']; rfl
  rw [krs_get h1 ho h2, ← hn kr hm, kone_own (List.all_eq_true.1 ha kr hm)]
theorem night_draw {l : List Kr} {need i : Int} {w : World} {CA OA KA : Option Addr} {cc oc kc : Nat} {os : List Og} {ks : List Kw} (h : NightRes l need i w CA cc OA oc KA kc os ks) (ha : l.all (okK l.length need i) = true) (n : Nat) (hn : ∀ kr, kr ∈ l → kr.seeds.length = n) :
    kall (krs (l.map (cmK l.length need)) (n : Int) i os (ks.map (·.l)) need) = (sds l i.toNat l.length % 720, [], 0) := by
  have hlen := night_len h (n : Int)
  have hat := fun (k : Nat) (kr : Kr) (hk : l[k]? = some kr) => night_krs h ha n hn hk
  generalize krs (l.map (cmK l.length need)) (n : Int) i os (ks.map (·.l)) need = rs at *
  have h0 : ∀ (k : Nat) (r : Int × Int × Bool), rs[k]? = some r → r.2.1 = 0 := fun k r hr => by
    have hkl : k < l.length := by rw [← hlen]; exact (List.getElem?_eq_some_iff.1 hr).1
    obtain ⟨kr, hkr⟩ := get_some l k hkl
    rw [hat k kr hkr] at hr
    cases hr
    rfl
  have hs : ∀ k, k ≤ l.length → ksum rs k = sds l i.toNat k % 720 ∧ kwh rs k = [] := fun k => by
    induction k with
    | zero => intro _; exact ⟨rfl, rfl⟩
    | succ k ih =>
      intro hk
      obtain ⟨i1, i2⟩ := ih (by omega)
      obtain ⟨kr, hkr⟩ := get_some l k (by omega)
      refine ⟨?_, ?_⟩
      · simp only [ksum, sds, hat k kr hkr, hkr, i1, Option.map_some, Option.getD_some, Option.bind_some]
        omega
      · simp only [kwh, hat k kr hkr, i2, Option.map_some, Option.getD_some]
        rfl
  rw [kall_ok h0, hlen, (hs _ (Nat.le_refl _)).1, (hs _ (Nat.le_refl _)).2]
end

section
open Go.RowKit

theorem Ex.all {w : World} {A : Option Addr} {x y : Kr} (h : Ex w A x y) {i : Int} (hi : i = 0 ∨ i = 1) : ([x, y] : List Kr).all (okK ([x, y] : List Kr).length 2 i) = true := by
  obtain ⟨a, b, c, d⟩ := h.ok
  show ([x, y] : List Kr).all (okK 2 2 i) = true
  rcases hi with rfl | rfl
  · rw [List.all_cons, List.all_cons, a, b]; rfl
  · rw [List.all_cons, List.all_cons, c, d]; rfl
theorem Ex.len {w : World} {A : Option Addr} {x y : Kr} (h : Ex w A x y) : ∀ kr, kr ∈ ([x, y] : List Kr) → kr.seeds.length = 2 := fun kr hk => by
  rcases List.mem_cons.1 hk with rfl | hk
  · rw [h.xs]; rfl
  · rw [List.mem_singleton.1 hk, h.ys]; rfl
theorem Ex.sum {w : World} {A : Option Addr} {x y : Kr} (h : Ex w A x y) : sds [x, y] 0 2 % 720 = 30 ∧ sds [x, y] 1 2 % 720 = 4 := by
  constructor
  · simp [sds, h.xs, h.ys]
  · simp [sds, h.xs, h.ys]
theorem jfd_pair (root : ByteArray) (n kp i : Int) (k : Kp) : (jfd root n kp i [k, k]).length ≤ 1 := by
  unfold jfd
  rw [List.foldl_cons, List.foldl_cons, List.foldl_nil]
  cases hg : kgood root n kp i k with
  | false => simp [jst, hg]
  | true => simp [jst, hg]
theorem kopen_ex (i : Int) (hi : i = 0 ∨ i = 1) {w : World} {A : Option Addr} {x y : Kr} (h : Ex w A x y) (hT : Tabs w) :
    Calls Tryz.prog 34 #[.slice A 2 2, .int .i64 2, .int .i64 i] w fun e w' => ∃ CA cc OA oc KA kc os ks, e = .returned (.tuple #[.agg #[.slice CA 2 cc, .slice OA 2 oc, .slice KA 2 kc], .bool true]) ∧ NightRes [x, y] 2 i w' CA cc OA oc KA kc os ks ∧ Below w.heap.size w w' := by
  have ha := h.all hi
  refine (kopen_walk A 2 [x, y] 2 i w h.row (fun kr hk => ?_) (show 2 ≤ 7 by decide) hT).mono ?_
  · rcases List.mem_cons.1 hk with rfl | hk
    · exact h.ix
    · rw [List.mem_singleton.1 hk]; exact h.iy
  · rintro e w' ⟨hb, ⟨hf, -⟩ | ⟨-, CA, cc, OA, oc, KA, kc, os, ks, rfl, hres⟩⟩
    · rw [ha] at hf
      cases hf
    · exact ⟨CA, cc, OA, oc, KA, kc, os, ks, rfl, hres, hb⟩
end

section
open Go.RowKit

theorem ex_less {w : World} {A : Option Addr} {x y : Kr} (h : Ex w A x y) (A0 : Option Addr) (c0 : Nat) (z : Og) (hz : z.salt = ⟨#[]⟩) (l0 l1 : List Kp) :
    krs (([x, y] : List Kr).map (cmK 2 2)) 2 1 [ogOf x 1 A0 c0, z] [l0, l1] 2 = [(5, 0, false), ((kjn (cmK 2 2 y).2 2 2 1 l1 2).1, (kjn (cmK 2 2 y).2 2 2 1 l1 2).2, true)] := by
  have h1 := kone_own h.ok.2.2.1 A0 c0 2 l0 2
  rw [h.len x (by simp), h.xs] at h1
  have h2 : kone (cmK 2 2 y) 2 2 1 z l1 2 = ((kjn (cmK 2 2 y).2 2 2 1 l1 2).1, (kjn (cmK 2 2 y).2 2 2 1 l1 2).2, true) := by
    unfold kone
    rw [if_neg (fun hc => by rw [hz, ck_empty] at hc; exact absurd hc.2 (by simp))]
  show [kone (cmK 2 2 x) 2 2 1 (ogOf x 1 A0 c0) l0 2, kone (cmK 2 2 y) 2 2 1 z l1 2] = _
  rw [h2]
  exact congrArg (· :: _) h1
theorem ex_kall4 : kall [(5, 0, false), (719, 0, true)] = (4, [1], 0) := by decide
theorem ex_kall25 : kall [(5, 0, false), (0, 25, true)] = (0, [], 25) := by decide
theorem ex_held {w : World} {A : Option Addr} {x y : Kr} (h : Ex w A x y) (A0 : Option Addr) (c0 : Nat) (z : Og) (hz : z.salt = ⟨#[]⟩) (l0 l1 : List Kp) (hl : KpsOk y 2 2 1 2 l1) :
    kall (krs (([x, y] : List Kr).map (cmK 2 2)) 2 1 [ogOf x 1 A0 c0, z] [l0, l1] 2) = (4, [1], 0) := by
  have hj := kjn_own h.ok.2.2.2 (l := l1) (fun k hk => by obtain ⟨q, B, d, hq, he⟩ := hl.each hk; exact ⟨q, B, d, hq, he⟩) hl.nodup
  rw [h.len y (by simp), hl.1, h.ys, if_neg (by decide)] at hj
  have hj' : kjn (cmK 2 2 y).2 2 2 1 l1 2 = (719, 0) := hj
  rw [ex_less h A0 c0 z hz, hj']
  exact ex_kall4
theorem ex_one {w : World} {A : Option Addr} {x y : Kr} (h : Ex w A x y) (A0 : Option Addr) (c0 : Nat) (z : Og) (hz : z.salt = ⟨#[]⟩) (l0 : List Kp) (k : Kp) :
    kall (krs (([x, y] : List Kr).map (cmK 2 2)) 2 1 [ogOf x 1 A0 c0, z] [l0, [k]] 2) = (0, [], 25) := by
  have hj : kjn (cmK 2 2 y).2 2 2 1 [k] 2 = (0, 25) := kjn_few (by
    have : (jfd (cmK 2 2 y).2 2 2 1 [k]).length ≤ 1 := (jst_sub (cmK 2 2 y).2 2 2 1 [] k).1
    omega)
  rw [ex_less h A0 c0 z hz, hj]
  exact ex_kall25
theorem ex_twice {w : World} {A : Option Addr} {x y : Kr} (h : Ex w A x y) (A0 : Option Addr) (c0 : Nat) (z : Og) (hz : z.salt = ⟨#[]⟩) (l0 : List Kp) (k : Kp) :
    kall (krs (([x, y] : List Kr).map (cmK 2 2)) 2 1 [ogOf x 1 A0 c0, z] [l0, [k, k]] 2) = (0, [], 25) := by
  have hj : kjn (cmK 2 2 y).2 2 2 1 [k, k] 2 = (0, 25) := kjn_few (by
    have := jfd_pair (cmK 2 2 y).2 2 2 1 k
    omega)
  rw [ex_less h A0 c0 z hz, hj]
  exact ex_kall25
theorem ex_first {w : World} {A : Option Addr} {x y : Kr} (h : Ex w A x y) (B : Option Addr) (d : Nat) : (kpOf y 2 2 1 0 B d).ix = 1 ∧ (kpOf y 2 2 1 0 B d).s = (1, 723) := by
  refine ⟨rfl, ?_⟩
  show ((0 : Int) + 1, evp (kpoly y.seeds 2 y.random 1) ((0 : Int) + 1)) = (1, 723)
  rw [h.ys, h.yr]
  decide
end

section
open Go.RowKit

theorem kdraw_night {l : List Kr} {need i : Int} {w0 : World} {CA OA KA : Option Addr} {cc oc kc : Nat} {os : List Og} {ks : List Kw} (h : NightRes l need i w0 CA cc OA oc KA kc os ks) (ha : l.all (okK l.length need i) = true) (hl : l.length ≤ 7) (h1 : 1 ≤ l.length) (n : Nat) (hn : ∀ kr, kr ∈ l → kr.seeds.length = n)
    (w : World) (hf : DrFit w CA (l.map (cmK l.length need)) OA os KA ks) (hT : Tabs w) :
    Calls Tryz.prog 25 #[.slice CA l.length cc, .int .i64 n, .int .i64 i, .slice OA l.length oc, .slice KA l.length kc, .int .i64 need] w fun e w' => ∃ A c, e = .returned (.tuple #[.int .i64 (sds l i.toNat l.length % 720), .slice A 0 c, .int .i64 0]) ∧ Below w.heap.size w w' := by
  obtain ⟨kr, hkr⟩ := get_some l 0 (by omega)
  have hm := List.mem_of_getElem? hkr
  have hok := List.all_eq_true.1 ha kr hm
  obtain ⟨v, hv, -, -, hi, hil, h6⟩ := okK_seed hok
  rw [hn kr hm] at hil h6
  have hd := night_draw h ha n hn
  obtain ⟨nd, hnd, hdv⟩ := okK_num hok
  have := kdraw_ok CA cc (l.map (cmK l.length need)) n i.toNat OA oc os KA kc ks nd w hf (by rw [List.length_map]; exact h1) (by rw [List.length_map]; exact hl) h6 hil hdv.one (by rw [List.length_map]; exact hdv.le) (by rw [List.length_map]; exact h.ok.ol) (by rw [List.length_map]; exact h.ok.kl) hT
  rw [hi, ← hnd, hd, List.length_map, h.ok.ol, h.ok.kl] at this
  refine this.mono ?_
  rintro e w' ⟨v, rfl, hown, hb⟩
  obtain ⟨A, c, rfl, -, -, -⟩ := Rd.of_own hown
  exact ⟨A, c, rfl, hb⟩
end

section
open Go.RowKit

theorem kdraw_two {x y : Kr} {w : World} {CA OA KA : Option Addr} {cc oc kc : Nat} {o0 o1 : Og} {k0 k1 : Kw} (r : Int × List Int × Int) (hf : DrFit w CA (([x, y] : List Kr).map (cmK 2 2)) OA [o0, o1] KA [k0, k1])
    (hr : kall (krs (([x, y] : List Kr).map (cmK 2 2)) 2 1 [o0, o1] [k0.l, k1.l] 2) = r) (hT : Tabs w) :
    Calls Tryz.prog 25 #[.slice CA 2 cc, .int .i64 2, .int .i64 1, .slice OA 2 oc, .slice KA 2 kc, .int .i64 2] w fun e w' => ∃ v, e = .returned (.tuple #[.int .i64 r.1, v, .int .i64 r.2.2]) ∧ w'.ownsRow w.heap.size 3 1 v r.2.1.length (r.2.1.map (Value.int .i64)) ∧ Below w.heap.size w w' := by
  subst hr
  exact kdraw_ok CA cc (([x, y] : List Kr).map (cmK 2 2)) 2 1 OA oc [o0, o1] KA kc [k0, k1] 2 w hf (show 1 ≤ 2 by decide) (show 2 ≤ 7 by decide) (by decide) (by decide) (by decide) (show 2 ≤ 2 by decide) rfl rfl hT
end

section
open Go.RowKit
set_option maxRecDepth 100000 in
set_option maxHeartbeats 16000000 in
theorem khead_any (w : World) (hT : Tabs w) : Calls Tryz.prog 16 #[] w fun e w' => e = .returned (.bool true) ∧ Below w.heap.size w w' := by
  have HT : Hid (∀ W, Below w.heap.size w W → Tabs W) := Lib.hid (fun W hW => hT.below hW)
  clear hT
  go_enter Tryz.func16, Tryz.ntmps16
  go_wp2_with fail
  refine (kex_any w).mono ?_
  rintro e w1 ⟨A1, x1, y1, rfl, hx1, hb1⟩
  have HX1 := Lib.hid hx1
  have HB1 := Lib.hid hb1
  clear hx1 hb1
  go_wp2_with fail
  refine (kopen_ex 0 (.inl rfl) HX1.out (HT.out w1 HB1.out)).mono ?_
  rintro e w2 ⟨CA1, cc1, OA1, oc1, KA1, kc1, os1, ks1, rfl, hr1, hb2⟩
  have HR1 := Lib.hid hr1
  have HB2 := Lib.hid (below_trans HB1.out hb2)
  clear hr1 hb2
  obtain ⟨w3, hw3⟩ : ∃ w3, w2.alloc (.cells #[.slice CA1 2 cc1, .slice OA1 2 oc1, .slice KA1 2 kc1] 69) = w3 := ⟨_, rfl⟩
  have HB3 : Hid (Below w.heap.size w w3) := Lib.hid (by rw [← hw3]; exact below_alloc HB2.out _)
  have HN1 : Hid (Blk w3 w2.heap.size 69 #[.slice CA1 2 cc1, .slice OA1 2 oc1, .slice KA1 2 kc1]) := Lib.hid (by rw [← hw3]; exact Blk.new _ _ _ _ rfl)
  have HF1 : Hid (DrFit w3 CA1 (([x1, y1] : List Kr).map (cmK 2 2)) OA1 os1 KA1 ks1) := Lib.hid (by rw [← hw3]; exact (HR1.out.fit (HX1.out.all (.inl rfl)) (show 2 ≤ 7 by decide)).below (below_alloc (Below.refl _ _) _))
  go_wp2_with fail
  refine (kex_any w3).mono ?_
  rintro e w4 ⟨A2, x2, y2, rfl, hx2, hb4⟩
  have HX2 := Lib.hid hx2
  have HB4 := Lib.hid hb4
  clear hx2 hb4
  go_wp2_with fail
  refine (kopen_ex 1 (.inr rfl) HX2.out (HT.out w4 (below_trans HB3.out HB4.out))).mono ?_
  rintro e w5 ⟨CA2, cc2, OA2, oc2, KA2, kc2, os2, ks2, rfl, hr2, hb5⟩
  have HR2 := Lib.hid hr2
  have HB5 := Lib.hid (below_trans (below_trans HB3.out HB4.out) hb5)
  have HB35 := Lib.hid (below_trans HB4.out hb5)
  clear hr2 hb5
  obtain ⟨w6, hw6⟩ : ∃ w6, w5.alloc (.cells #[.slice CA2 2 cc2, .slice OA2 2 oc2, .slice KA2 2 kc2] 69) = w6 := ⟨_, rfl⟩
  have HB6 : Hid (Below w.heap.size w w6) := Lib.hid (by rw [← hw6]; exact below_alloc HB5.out _)
  have HB36 : Hid (Below w3.heap.size w3 w6) := Lib.hid (by rw [← hw6]; exact below_alloc HB35.out _)
  have HN2 : Hid (Blk w6 w5.heap.size 69 #[.slice CA2 2 cc2, .slice OA2 2 oc2, .slice KA2 2 kc2]) := Lib.hid (by rw [← hw6]; exact Blk.new _ _ _ _ rfl)
  have HF2 : Hid (DrFit w6 CA2 (([x2, y2] : List Kr).map (cmK 2 2)) OA2 os2 KA2 ks2) := Lib.hid (by rw [← hw6]; exact (HR2.out.fit (HX2.out.all (.inr rfl)) (show 2 ≤ 7 by decide)).below (below_alloc (Below.refl _ _) _))
  have HN6 : Hid (Blk w6 w2.heap.size 69 #[.slice CA1 2 cc1, .slice OA1 2 oc1, .slice KA1 2 kc1]) := Lib.hid ((HB36.out.block _ HN1.out.lt).trans HN1.out)
  have HF6 := Lib.hid (HF1.out.below HB36.out)
  have a0 := HN6.out.of_cell (i := 0) rfl
  have a1 := HN6.out.of_cell (i := 1) rfl
  have a2 := HN6.out.of_cell (i := 2) rfl
  have al := HN6.out.lt
  go_wp2_with fail
  refine (kdraw_night HR1.out (HX1.out.all (.inl rfl)) (show 2 ≤ 7 by decide) (show 1 ≤ 2 by decide) 2 HX1.out.len w6 HF6.out (HT.out w6 HB6.out)).mono ?_
  rintro e w7 ⟨WA1, wc1, rfl, hb7⟩
  have HS1 : Hid (sds [x1, y1] (0 : Int).toNat ([x1, y1] : List Kr).length % 720 = 30) := Lib.hid HX1.out.sum.1
  rw [HS1.out]
  have HN7 : Hid (Blk w7 w5.heap.size 69 #[.slice CA2 2 cc2, .slice OA2 2 oc2, .slice KA2 2 kc2]) := Lib.hid ((hb7.block _ HN2.out.lt).trans HN2.out)
  have HF7 := Lib.hid (HF2.out.below hb7)
  have HB7 := Lib.hid (below_trans HB6.out hb7)
  clear hb7 a0 a1 a2 al
  have a0 := HN7.out.of_cell (i := 0) rfl
  have a1 := HN7.out.of_cell (i := 1) rfl
  have a2 := HN7.out.of_cell (i := 2) rfl
  have al := HN7.out.lt
  go_wp2_with fail
  refine (kdraw_night HR2.out (HX2.out.all (.inr rfl)) (show 2 ≤ 7 by decide) (show 1 ≤ 2 by decide) 2 HX2.out.len w7 HF7.out (HT.out w7 HB7.out)).mono ?_
  rintro e w8 ⟨WA2, wc2, rfl, hb8⟩
  have HN8 : Hid (Blk w8 w5.heap.size 69 #[.slice CA2 2 cc2, .slice OA2 2 oc2, .slice KA2 2 kc2]) := Lib.hid ((hb8.block _ HN7.out.lt).trans HN7.out)
  have HF8 := Lib.hid (HF7.out.below hb8)
  have HB8 := Lib.hid (below_trans HB7.out hb8)
  have HS2 : Hid (sds [x2, y2] (1 : Int).toNat ([x2, y2] : List Kr).length % 720 = 4) := Lib.hid HX2.out.sum.2
  rw [HS2.out]
  clear hb8 a0 a1 a2 al
  obtain ⟨o0, o1, rfl⟩ : ∃ o0 o1, os2 = [o0, o1] := by
    have := HR2.out.ok.ol
    match os2, this with
    | [a, b], _ => exact ⟨a, b, rfl⟩
  obtain ⟨A0, c0, h0⟩ := HR2.out.ok.o 0 x2 (show 0 < 2 by decide) rfl
  obtain rfl : o0 = ogOf x2 1 A0 c0 := Option.some.inj h0
  obtain ⟨bo, oo, rfl, hoc⟩ := HF8.out.o.at_ ogC_len (k := 0) (a := ogOf x2 1 A0 c0) rfl
  have q0 := hoc 0 _ rfl
  have q1 := hoc 1 _ rfl
  have q2 := hoc 2 _ rfl
  have q3 := hoc 3 _ rfl
  have ql := lt_of_cell q0
  simp only [Nat.zero_mul, Nat.add_zero] at q0 q1 q2 q3
  have a0 := HN8.out.of_cell (i := 0) rfl
  have a1 := HN8.out.of_cell (i := 1) rfl
  have a2 := HN8.out.of_cell (i := 2) rfl
  have al := HN8.out.lt
  clear hoc h0
  go_wp2_with fail
  clear q0 q1 q2 q3 ql a0 a1 a2 al
  obtain ⟨k0, k1, rfl⟩ : ∃ k0 k1, ks2 = [k0, k1] := by
    have := HR2.out.ok.kl
    match ks2, this with
    | [a, b], _ => exact ⟨a, b, rfl⟩
  have hk1 : KpsOk y2 2 2 1 2 k1.l := by
    obtain ⟨a, he, h⟩ := HR2.out.ok.k 1 y2 (show 1 < 2 by decide) rfl
    obtain rfl : k1 = a := Option.some.inj he
    exact h
  have HK1 := Lib.hid hk1
  clear hk1
  have HZ : Hid (∀ W, OgFit W ⟨0, 0, ⟨#[]⟩, none, 0, []⟩) := Lib.hid (fun W => ⟨⟨rfl, fun h => absurd h (by decide)⟩, Nat.zero_le _, fun s hs => (by cases hs), Nat.zero_le _, ⟨by decide, by decide⟩, ⟨by decide, by decide⟩⟩)
  have HB9 : Hid (∀ o, Below w8.heap.size w8 (w8.alloc o)) := Lib.hid (fun o => below_alloc (Below.refl _ _) o)
  have HL9 : Hid (∀ (W : World), W = w8.alloc (.cells #[.int .i64 ((ogOf x2 1 A0 c0).ix), .int .i64 ((ogOf x2 1 A0 c0).v), .string ((ogOf x2 1 A0 c0).salt), .slice A0 (ogOf x2 1 A0 c0).p.length c0, .int .i64 0, .int .i64 0, .string ⟨#[]⟩, .slice none 0 0] 32) → DrFit W CA2 (([x2, y2] : List Kr).map (cmK 2 2)) (some ⟨w8.heap.size, 0, none⟩) [ogOf x2 1 A0 c0, ⟨0, 0, ⟨#[]⟩, none, 0, []⟩] KA2 [k0, k1]) := Lib.hid (fun W hW => by
    have hbW : Below w8.heap.size w8 W := by rw [hW]; exact HB9.out _
    have hf := HF8.out.below hbW
    refine ⟨hf.c, ?_, hf.k, fun o ho => ?_, hf.kw, hf.cl, hf.ol, hf.kl⟩
    · rw [hW]; exact Rd_new w8 _ _ 4 2 _ rfl rfl
    · rcases List.mem_cons.1 ho with rfl | ho
      · exact hf.og _ (by simp)
      · rw [List.mem_singleton.1 ho]; exact HZ.out _)
  refine (kdraw_two (4, [1], 0) (HL9.out _ rfl) (ex_held HX2.out A0 c0 ⟨0, 0, ⟨#[]⟩, none, 0, []⟩ rfl k0.l k1.l HK1.out) (HT.out _ (below_trans HB8.out (HB9.out _)))).mono ?_
  rintro e w10 ⟨v10, rfl, ho10, hb10⟩
  obtain ⟨A10, c10, rfl, -, -, hi10⟩ := Rd.of_own ho10
  have HI10 : Hid (Ints w10 A10 [1]) := Lib.hid hi10
  clear hi10
  have hb8a : Below w8.heap.size w8 w10 := below_trans (HB9.out _) hb10
  have HB10 := Lib.hid (below_trans HB8.out hb8a)
  have HN10 : Hid (Blk w10 w5.heap.size 69 #[.slice CA2 2 cc2, .slice (some ⟨bo, oo, none⟩) 2 oc2, .slice KA2 2 kc2]) := Lib.hid ((hb8a.block _ HN8.out.lt).trans HN8.out)
  have HF10 := Lib.hid (HF8.out.below hb8a)
  have HL10 := Lib.hid ((HL9.out _ rfl).below hb10)
  clear hb8a hb10 ho10
  obtain ⟨bk, ok_, rfl, hkc⟩ := HF10.out.k.at_ kwC_len (k := 1) (a := k1) rfl
  have r0 := hkc 0 _ rfl
  obtain ⟨s0, s1, hs⟩ : ∃ s0 s1, k1.l = [s0, s1] := by
    have := HK1.out.1
    match k1.l, this with
    | [a, b], _ => exact ⟨a, b, rfl⟩
  have hrow := (HF10.out.kw k1 (by simp)).row
  rw [hs] at hrow
  obtain ⟨b1, off1, hA1, hsc⟩ := hrow.at_ kpC_len (k := 0) (a := s0) rfl
  have p0 := hsc 0 _ rfl
  have p1 := hsc 1 _ rfl
  have p2 := hsc 2 _ rfl
  have p3 := hsc 3 _ rfl
  have pl := lt_of_cell p0
  have rl := lt_of_cell r0
  rw [hA1, hs] at r0
  simp only [Nat.zero_mul, Nat.add_zero] at p0 p1 p2 p3 r0
  have a0 := HN10.out.of_cell (i := 0) rfl
  have a1 := HN10.out.of_cell (i := 1) rfl
  have a2 := HN10.out.of_cell (i := 2) rfl
  have al := HN10.out.lt
  clear hkc hsc hrow
  go_wp2_with fail
  clear p0 p1 p2 p3 pl rl r0 a0 a1 a2 al
  have HS0 : Hid (∀ W, Below w10.heap.size w10 W → KpFit W s0) := Lib.hid (fun W hW => ((HF10.out.kw k1 (by simp)).each s0 (by rw [hs]; simp)).below hW)
  have HL11 : Hid (∀ (W : World), W = ((w10.alloc (.cells #[.int .i64 s0.ix, .int .i64 s0.s.1, .int .i64 s0.s.2, .slice s0.A s0.p.length s0.c] 50)).alloc (.cells #[.int .i64 s0.ix, .int .i64 s0.s.1, .int .i64 s0.s.2, .slice s0.A s0.p.length s0.c] 50)).alloc (.cells #[.slice none 0 0, .slice (some ⟨w10.heap.size + 1, 0, none⟩) 1 1] 33) → Below w10.heap.size w10 W ∧ DrFit W CA2 (([x2, y2] : List Kr).map (cmK 2 2)) (some ⟨w8.heap.size, 0, none⟩) [ogOf x2 1 A0 c0, ⟨0, 0, ⟨#[]⟩, none, 0, []⟩] (some ⟨w10.heap.size + 2, 0, none⟩) [⟨none, 0, []⟩, ⟨some ⟨w10.heap.size + 1, 0, none⟩, 1, [s0]⟩]) := Lib.hid (fun W hW => by
    have hbW : Below w10.heap.size w10 W := by rw [hW]; exact below_alloc (below_alloc (below_alloc (Below.refl _ _) _) _) _
    have hf := HL10.out.below hbW
    refine ⟨hbW, hf.c, hf.o, ?_, hf.og, fun k hk => ?_, hf.cl, hf.ol, (show 2 ≤ 9223372036854775807 by decide)⟩
    · rw [hW]; exact Rd_new _ #[.slice none 0 0, .slice (some ⟨w10.heap.size + 1, 0, none⟩) 1 1] _ 1 2 _ rfl (by simp)
    · rcases List.mem_cons.1 hk with rfl | hk
      · exact ⟨RowOf.nil _ _ _ _, fun q hq => (by cases hq), Nat.zero_le _⟩
      · rw [List.mem_singleton.1 hk]
        refine ⟨?_, fun q hq => ?_, (show 1 ≤ 1000 by decide)⟩
        · rw [hW]
          exact RowOf.below (l := [s0]) (f := kpC) (m := 4) (Rd_new (w10.alloc (.cells #[.int .i64 s0.ix, .int .i64 s0.s.1, .int .i64 s0.s.2, .slice s0.A s0.p.length s0.c] 50)) #[.int .i64 s0.ix, .int .i64 s0.s.1, .int .i64 s0.s.2, .slice s0.A s0.p.length s0.c] 50 4 1 (w10.heap.size + 1) rfl (by simp)) (below_alloc (Below.refl _ _) _)
        · rw [List.mem_singleton.1 hq]; exact HS0.out W hbW)
  refine (kdraw_two (0, [], 25) (HL11.out _ rfl).2 (ex_one HX2.out A0 c0 ⟨0, 0, ⟨#[]⟩, none, 0, []⟩ rfl [] s0) (HT.out _ (below_trans HB10.out (HL11.out _ rfl).1))).mono ?_
  rintro e w11 ⟨v11, rfl, ho11, hb11⟩
  have hbb := below_trans (HL11.out _ rfl).1 hb11
  have HB11 := Lib.hid (below_trans HB10.out hbb)
  have HL12 := Lib.hid (HL10.out.below hbb)
  have HF11 := Lib.hid (HF10.out.below hbb)
  have HN11 : Hid (Blk w11 w5.heap.size 69 #[.slice CA2 2 cc2, .slice (some ⟨bo, oo, none⟩) 2 oc2, .slice (some ⟨bk, ok_, none⟩) 2 kc2]) := Lib.hid ((hbb.block _ HN10.out.lt).trans HN10.out)
  have HBK11 : Hid (Blk w11 w10.heap.size 50 #[.int .i64 s0.ix, .int .i64 s0.s.1, .int .i64 s0.s.2, .slice s0.A s0.p.length s0.c]) := Lib.hid (by
    have h := ((Blk.new w10 50 #[.int .i64 s0.ix, .int .i64 s0.s.1, .int .i64 s0.s.2, .slice s0.A s0.p.length s0.c] _ rfl).alloc (.cells #[.int .i64 s0.ix, .int .i64 s0.s.1, .int .i64 s0.s.2, .slice s0.A s0.p.length s0.c] 50)).alloc (.cells #[.slice none 0 0, .slice (some ⟨w10.heap.size + 1, 0, none⟩) 1 1] 33)
    exact (hb11.block _ h.lt).trans h)
  have HI11 := Lib.hid (HI10.out.below hbb)
  have HS11 : Hid (∀ W, Below w11.heap.size w11 W → KpFit W s0) := Lib.hid (fun W hW => HS0.out W (below_trans hbb hW))
  have HG : Hid (s0.ix = 1 ∧ s0.s = (1, 723)) := Lib.hid (by
    obtain ⟨B, d, h⟩ := HK1.out.2 0 (by decide)
    rw [hs] at h
    obtain rfl : s0 = kpOf y2 2 2 1 0 B d := Option.some.inj h
    exact ex_first HX2.out B d)
  clear hb11
  have a0 := HN11.out.of_cell (i := 0) rfl
  have a1 := HN11.out.of_cell (i := 1) rfl
  have a2 := HN11.out.of_cell (i := 2) rfl
  have al := HN11.out.lt
  have p0 := HBK11.out.of_cell (i := 0) rfl
  have p1 := HBK11.out.of_cell (i := 1) rfl
  have p2 := HBK11.out.of_cell (i := 2) rfl
  have p3 := HBK11.out.of_cell (i := 3) rfl
  have pl := HBK11.out.lt
  clear hbb
  go_wp2_with fail
  clear p0 p1 p2 p3 pl a0 a1 a2 al
  have HL13 : Hid (∀ (W : World), W = (w11.alloc (.cells #[.int .i64 s0.ix, .int .i64 s0.s.1, .int .i64 s0.s.2, .slice s0.A s0.p.length s0.c, .int .i64 s0.ix, .int .i64 s0.s.1, .int .i64 s0.s.2, .slice s0.A s0.p.length s0.c] 50)).alloc (.cells #[.slice none 0 0, .slice (some ⟨w11.heap.size, 0, none⟩) 2 2] 33) → Below w11.heap.size w11 W ∧ DrFit W CA2 (([x2, y2] : List Kr).map (cmK 2 2)) (some ⟨w8.heap.size, 0, none⟩) [ogOf x2 1 A0 c0, ⟨0, 0, ⟨#[]⟩, none, 0, []⟩] (some ⟨w11.heap.size + 1, 0, none⟩) [⟨none, 0, []⟩, ⟨some ⟨w11.heap.size, 0, none⟩, 2, [s0, s0]⟩]) := Lib.hid (fun W hW => by
    have hbW : Below w11.heap.size w11 W := by rw [hW]; exact below_alloc (below_alloc (Below.refl _ _) _) _
    have hf := HL12.out.below hbW
    refine ⟨hbW, hf.c, hf.o, ?_, hf.og, fun k hk => ?_, hf.cl, hf.ol, (show 2 ≤ 9223372036854775807 by decide)⟩
    · rw [hW]; exact Rd_new _ #[.slice none 0 0, .slice (some ⟨w11.heap.size, 0, none⟩) 2 2] _ 1 2 _ rfl (by simp)
    · rcases List.mem_cons.1 hk with rfl | hk
      · exact ⟨RowOf.nil _ _ _ _, fun q hq => (by cases hq), Nat.zero_le _⟩
      · rw [List.mem_singleton.1 hk]
        refine ⟨?_, fun q hq => ?_, (show 2 ≤ 1000 by decide)⟩
        · rw [hW]
          exact RowOf.below (l := [s0, s0]) (f := kpC) (m := 4) (Rd_new w11 #[.int .i64 s0.ix, .int .i64 s0.s.1, .int .i64 s0.s.2, .slice s0.A s0.p.length s0.c, .int .i64 s0.ix, .int .i64 s0.s.1, .int .i64 s0.s.2, .slice s0.A s0.p.length s0.c] 50 4 2 _ rfl rfl) (below_alloc (Below.refl _ _) _)
        · obtain rfl : q = s0 := by simpa using hq
          exact HS11.out W hbW)
  refine (kdraw_two (0, [], 25) (HL13.out _ rfl).2 (ex_twice HX2.out A0 c0 ⟨0, 0, ⟨#[]⟩, none, 0, []⟩ rfl [] s0) (HT.out _ (below_trans HB11.out (HL13.out _ rfl).1))).mono ?_
  rintro e w12 ⟨v12, rfl, ho12, hb12⟩
  have hbb := below_trans (HL13.out _ rfl).1 hb12
  have HB12 := Lib.hid (below_trans HB11.out hbb)
  have HF12 := Lib.hid (HF11.out.below hbb)
  have HN12 : Hid (Blk w12 w5.heap.size 69 #[.slice CA2 2 cc2, .slice (some ⟨bo, oo, none⟩) 2 oc2, .slice (some ⟨bk, ok_, none⟩) 2 kc2]) := Lib.hid ((hbb.block _ HN11.out.lt).trans HN11.out)
  have HBK12 : Hid (Blk w12 w10.heap.size 50 #[.int .i64 s0.ix, .int .i64 s0.s.1, .int .i64 s0.s.2, .slice s0.A s0.p.length s0.c]) := Lib.hid ((hbb.block _ HBK11.out.lt).trans HBK11.out)
  have HI12 := Lib.hid (HI11.out.below hbb)
  clear hbb hb12 ho12 ho11
  have a0 := HN12.out.of_cell (i := 0) rfl
  have a1 := HN12.out.of_cell (i := 1) rfl
  have a2 := HN12.out.of_cell (i := 2) rfl
  have al := HN12.out.lt
  go_wp2_with fail
  refine (kdraw_bad CA2 cc2 (([x2, y2] : List Kr).map (cmK 2 2)) 2 2 (some ⟨bo, oo, none⟩) oc2 [ogOf x2 1 A0 c0, o1] (some ⟨bk, ok_, none⟩) kc2 [k0, k1] 2 w12 (show 2 ≤ 9223372036854775807 by decide) (show 2 ≤ 9223372036854775807 by decide) (show 2 ≤ 9223372036854775807 by decide) ⟨by decide, by decide⟩ (fun h => absurd h.2.2.2.2.2.1 (by decide))).mono ?_
  rintro e w13 ⟨rfl, rfl⟩
  clear a0 a1 a2 al
  go_wp2_with fail
  refine (kequal_any A10 (some ⟨w12.heap.size, 0, none⟩) c10 1 [1] [1] _ (HI12.out.below (below_alloc (Below.refl _ _) _)) (Rd_new w12 #[.int .i64 1] 3 1 1 _ rfl rfl) (by decide) (by decide)).mono ?_
  rintro e w14 ⟨rfl, hb14⟩
  have hbb := below_trans (below_alloc (Below.refl _ _) _) hb14
  have HB14 := Lib.hid (below_trans HB12.out hbb)
  have HBK14 : Hid (Blk w14 w10.heap.size 50 #[.int .i64 1, .int .i64 1, .int .i64 723, .slice s0.A s0.p.length s0.c]) := Lib.hid (by
    have h := (hbb.block _ HBK12.out.lt).trans HBK12.out
    rw [HG.out.1, HG.out.2] at h
    exact h)
  clear hbb hb14
  have p0 := HBK14.out.of_cell (i := 0) rfl
  have p1 := HBK14.out.of_cell (i := 1) rfl
  have p2 := HBK14.out.of_cell (i := 2) rfl
  have p3 := HBK14.out.of_cell (i := 3) rfl
  have pl := HBK14.out.lt
  rw [show decide (([1] : List Int) = [1]) = true from rfl]
  go_wp2
  go_ret
  exact ⟨rfl, HB14.out⟩
end

section
open Go.RowKit

def Arw (w : World) (e size g n : Nat) (xs : List Value) : Prop := xs.length = n * size ∧ ∃ cur : Array Value, Blk w g e cur ∧ n * size ≤ cur.size ∧ cur.toList.take (n * size) = xs
theorem Arw.of_own {w : World} {base e size n : Nat} {v : Value} {xs : List Value} (h : w.ownsRow base e size v n xs) (hn : 0 < n) : ∃ g cap, v = .slice (some ⟨g, 0, none⟩) n cap ∧ base ≤ g ∧ n ≤ cap ∧ cap ≤ maxLen ∧ Arw w e size g n xs := by
  obtain ⟨h1, h2⟩ := h
  rcases h2 with ⟨-, h0⟩ | ⟨g, cap, cur, rfl, hb, hg, hc, hm, hs, ht⟩
  · omega
  · exact ⟨g, cap, rfl, hb, hc, hm, h1, cur, hg, by rw [hs]; exact Nat.mul_le_mul_right size hc, ht⟩
theorem Arw.get {w : World} {e size g n : Nat} {xs : List Value} (h : Arw w e size g n xs) {j : Nat} {u : Value} (hj : xs[j]? = some u) : w.cell? ⟨g, j, none⟩ = some u := by
  obtain ⟨h1, cur, hb, hs, ht⟩ := h
  rw [hb.cell]
  rw [← ht, List.getElem?_take] at hj
  split at hj
  · simpa using hj
  · cases hj
theorem Arw.frozen {w : World} {e size g n : Nat} {xs : List Value} (h : Arw w e size g n xs) (j : Nat) : w.frozen? ⟨g, j, none⟩ = false := by
  obtain ⟨h1, cur, hb, hs, ht⟩ := h
  exact hb.frozen j
theorem Arw.lt {w : World} {e size g n : Nat} {xs : List Value} (h : Arw w e size g n xs) : g < w.heap.size := by
  obtain ⟨h1, cur, hb, hs, ht⟩ := h
  exact hb.lt
theorem Arw.blk {w : World} {e size g n : Nat} {xs : List Value} (h : Arw w e size g n xs) : ∃ cs, Blk w g e cs := by
  obtain ⟨h1, cur, hb, hs, ht⟩ := h
  exact ⟨cur, hb⟩
theorem Arw.kept {w w' : World} {e size g n : Nat} {xs : List Value} (h : Arw w e size g n xs) (hk : w'.heap[g]? = w.heap[g]?) : Arw w' e size g n xs := by
  obtain ⟨h1, cur, hb, hs, ht⟩ := h
  exact ⟨h1, cur, hk.trans hb, hs, ht⟩
theorem Arw.below {w w' : World} {e size g n : Nat} {xs : List Value} (h : Arw w e size g n xs) (hb : Below w.heap.size w w') : Arw w' e size g n xs := h.kept (hb.block g h.lt)
theorem Arw.set {w : World} {e size g n : Nat} {xs : List Value} (h : Arw w e size g n xs) (j : Nat) (u : Value) : Arw (w.setCell ⟨g, j, none⟩ u) e size g n (xs.set j u) := by
  obtain ⟨h1, cur, hb, hs, ht⟩ := h
  refine ⟨by rw [List.length_set]; exact h1, cur.setIfInBounds j u, hb.set j u, by simpa using hs, ?_⟩
  rw [Array.toList_setIfInBounds, List.take_set, ht]
theorem Arw.far {w : World} {e size g n : Nat} {xs : List Value} (h : Arw w e size g n xs) {p : Addr} (hp : g ≠ p.block) (u : Value) : Arw (w.setCell p u) e size g n xs := h.kept (Below.heap_setCell w p u g hp)
theorem Arw.rd {w : World} {e size g n : Nat} {xs : List Value} (h : Arw w e size g n xs) : Rd w size (some ⟨g, 0, none⟩) n xs :=
  ⟨h.1, fun _ => ⟨g, 0, rfl, fun j u hu => by rw [Nat.zero_add]; exact h.get hu⟩⟩
theorem Arw.ne {w : World} {e size g n e' size' g' n' : Nat} {xs ys : List Value} (h : Arw w e size g n xs) (h' : Arw w e' size' g' n' ys) (he : e ≠ e') : g ≠ g' := by
  obtain ⟨c, hc⟩ := h.blk
  obtain ⟨d, hd⟩ := h'.blk
  exact hc.ne_ hd he
theorem Arw.drew {w : World} {e size g n : Nat} {xs : List Value} (h : Arw w e size g n xs) (q : Nat) : Arw (w.drewN q) e size g n xs := h

/-- One cell of one element is set. -/
theorem flatM_set {α : Type} (f : α → List Value) (m : Nat) (hf : ∀ a, (f a).length = m) (l : List α) (k : Nat) (x y : α) (hx : l[k]? = some x) (r : Nat) (hr : r < m) (u : Value) (hy : f y = (f x).set r u) : (l.flatMap f).set (k * m + r) u = (l.set k y).flatMap f := by
  induction l generalizing k with
  | nil => simp at hx
  | cons b l ih =>
    rw [List.flatMap_cons]
    cases k with
    | zero =>
      obtain rfl : b = x := by simpa using hx
      rw [Nat.zero_mul, Nat.zero_add, List.set_append_left _ _ (by rw [hf]; exact hr), List.set_cons_zero, List.flatMap_cons, hy]
    | succ k =>
      have := ih k (by simpa using hx)
      rw [List.set_append_right _ _ (by rw [hf, Nat.add_mul]; omega), hf, List.set_cons_succ, List.flatMap_cons, ← this]
      congr 2
      rw [Nat.add_mul]; omega
theorem Ints.set {w : World} {g n : Nat} {l : List Int} (h : Arw w 3 1 g n (l.map (Value.int .i64))) (j : Nat) (x : Int) : Arw (w.setCell ⟨g, j, none⟩ (.int .i64 x)) 3 1 g n ((l.set j x).map (Value.int .i64)) := by
  rw [List.map_set]
  exact h.set j _
theorem info_kr : (Tryz.prog.info? 27).map (fun i => (i.zero, i.size, i.bytes)) = some (some (.agg #[.slice none 0 0, .string ByteArray.empty, .slice none 0 0]), 3, 64) := by kernel_rfl
theorem info_in : (Tryz.prog.info? 3).map (fun i => (i.zero, i.size, i.bytes)) = some (some (.int .i64 0), 1, 8) := by kernel_rfl
theorem own_zero (w : World) (T size : Nat) : (w.alloc (.cells #[] T)).ownsRow w.heap.size T size (.slice (some ⟨w.heap.size, 0, none⟩) 0 0) 0 [] :=
  ⟨by simp, .inr ⟨w.heap.size, 0, #[], rfl, Nat.le_refl _, Blk.new w _ _ _ rfl, Nat.le_refl _, by simp [maxLen], by simp, by simp⟩⟩
theorem own_lit (w : World) (cs : Array Value) (T size n : Nat) (h : cs.size = n * size) (hn : n ≤ maxLen) : (w.alloc (.cells cs T)).ownsRow w.heap.size T size (.slice (some ⟨w.heap.size, 0, none⟩) n n) n cs.toList :=
  ⟨by simpa using h, .inr ⟨w.heap.size, n, cs, rfl, Nat.le_refl _, Blk.new w _ _ _ rfl, Nat.le_refl _, hn, h, by rw [← h]; exact List.take_of_length_le (by simp)⟩⟩
theorem below_zero {w w' : World} {T : Nat} (hg : (w.alloc (.cells #[] T)).grownBy w' (some w.heap.size)) : Below w.heap.size w w' :=
  (below_alloc (Below.refl _ _) _).grown hg (by have := (below_alloc (Below.refl w.heap.size w) (.cells #[] T)).size; exact this) (fun j hj => by cases hj; exact Nat.le_refl _)
theorem one_kr (l : List Kr) : ∀ u, u ∈ l.flatMap krC → u.oneCell' = true := fun u hu => by
  obtain ⟨a, -, h⟩ := List.mem_flatMap.1 hu
  simp only [krC, List.mem_cons, List.not_mem_nil, or_false] at h
  rcases h with rfl | rfl | rfl <;> rfl
theorem one_og (l : List Og) : ∀ u, u ∈ l.flatMap ogC → u.oneCell' = true := fun u hu => by
  obtain ⟨a, -, h⟩ := List.mem_flatMap.1 hu
  simp only [ogC, List.mem_cons, List.not_mem_nil, or_false] at h
  rcases h with rfl | rfl | rfl | rfl <;> rfl
theorem one_kp (l : List Kp) : ∀ u, u ∈ l.flatMap kpC → u.oneCell' = true := fun u hu => by
  obtain ⟨a, -, h⟩ := List.mem_flatMap.1 hu
  simp only [kpC, List.mem_cons, List.not_mem_nil, or_false] at h
  rcases h with rfl | rfl | rfl | rfl <;> rfl
theorem one_kw (l : List Kw) : ∀ u, u ∈ l.flatMap kwC → u.oneCell' = true := fun u hu => by
  obtain ⟨a, -, h⟩ := List.mem_flatMap.1 hu
  simp only [kwC, List.mem_cons, List.not_mem_nil, or_false] at h
  rw [h]; rfl
theorem one_in (l : List Int) : ∀ u, u ∈ l.map (Value.int .i64) → u.oneCell' = true := fun u hu => by
  obtain ⟨a, -, rfl⟩ := List.mem_map.1 hu
  rfl

/-! ### a whole element is set -/
def lset : List Value → Nat → List Value → List Value
  | xs, _, [] => xs
  | xs, o, v :: r => lset (xs.set o v) (o + 1) r
theorem lset_right (a : List Value) : ∀ (vs b : List Value) (o : Nat), lset (a ++ b) (a.length + o) vs = a ++ lset b o vs
  | [], _, _ => rfl
  | v :: r, b, o => by
    rw [lset, lset, List.set_append_right _ _ (by omega), show a.length + o - a.length = o by omega]
    exact lset_right a r _ (o + 1)
theorem lset_left (b : List Value) : ∀ (vs a : List Value) (o : Nat), o + vs.length ≤ a.length → lset (a ++ b) o vs = lset a o vs ++ b
  | [], _, _, _ => rfl
  | v :: r, a, o, h => by
    rw [List.length_cons] at h
    rw [lset, lset, List.set_append_left _ _ (by omega)]
    exact lset_left b r _ (o + 1) (by rw [List.length_set]; omega)
theorem lset_all : ∀ (vs a c : List Value), c.length = vs.length → lset (a ++ c) a.length vs = a ++ vs
  | [], a, c, h => by
    obtain rfl : c = [] := List.length_eq_zero_iff.1 h
    rfl
  | v :: r, a, [], h => by simp at h
  | v :: r, a, x :: c, h => by
    have ih := lset_all r (a ++ [v]) c (by simpa using h)
    rw [List.length_append, List.length_singleton, List.append_assoc, List.append_assoc] at ih
    rw [lset, List.set_append_right _ _ (Nat.le_refl _), Nat.sub_self, List.set_cons_zero]
    exact ih
theorem flatM_setAll {α : Type} (f : α → List Value) (m : Nat) (hf : ∀ a, (f a).length = m) (l : List α) (k : Nat) (y : α) (hk : k < l.length) : lset (l.flatMap f) (k * m) (f y) = (l.set k y).flatMap f := by
  induction l generalizing k with
  | nil => simp at hk
  | cons b l ih =>
    rw [List.flatMap_cons]
    cases k with
    | zero =>
      rw [Nat.zero_mul, lset_left _ _ _ _ (by rw [hf, hf]; omega), List.set_cons_zero, List.flatMap_cons]
      have := lset_all (f y) [] (f b) (by rw [hf, hf])
      rw [show lset (f b) 0 (f y) = f y from this]
    | succ k =>
      have e : (k + 1) * m = (f b).length + k * m := by rw [hf, Nat.add_mul]; omega
      rw [e, lset_right, ih k (by simpa using hk), List.set_cons_succ, List.flatMap_cons]
theorem Arw.setCells {e size g n : Nat} : ∀ (vs : List Value) (o : Nat) {w : World} {xs : List Value}, Arw w e size g n xs → Arw (w.setCells g o vs) e size g n (lset xs o vs)
  | [], _, _, _, h => h
  | v :: r, o, w, _, h => Arw.setCells r (o + 1) (h.set o v)
theorem Arw.there {w : World} {e size g n : Nat} {xs : List Value} (h : Arw w e size g n xs) (o k : Nat) (hk : o + k ≤ xs.length) : w.there g o k := fun j hj => by
  obtain ⟨u, hu⟩ := get_some xs (o + j) (by omega)
  exact ⟨by rw [h.get hu]; rfl, h.frozen _⟩
theorem setCs_far (b : Nat) : ∀ (vs : List Value) (o : Nat) (w : World) (g : Nat), g ≠ b → (w.setCells b o vs).heap[g]? = w.heap[g]?
  | [], _, _, _, _ => rfl
  | v :: r, o, w, g, h => (setCs_far b r (o + 1) (w.setCell ⟨b, o, none⟩ v) g h).trans (Below.heap_setCell w ⟨b, o, none⟩ v g h)
theorem setCs_typed {w : World} {g T : Nat} {cs : Array Value} (hb : Blk w g T cs) {T' : Nat} (hT : T ≠ T') (o : Nat) (vs : List Value) : ∀ (b : Nat) (cs' : Array Value), w.heap[b]? = some (.cells cs' T' (0, 0)) → (w.setCells g o vs).heap[b]? = w.heap[b]? := fun b cs' hcs =>
  setCs_far g vs o w b (by
    intro e
    subst e
    unfold Blk at hb
    rw [hb] at hcs
    injection hcs with hcs
    injection hcs with _ ht
    exact hT ht)
theorem below_setCsK {B : Nat} {a w : World} (h : Below B a w) (b : Nat) (hb : B ≤ b) (vs : List Value) (o : Nat) : Below B a (w.setCells b o vs) := by
  induction vs generalizing o w with
  | nil => exact h
  | cons v r ih => exact ih (h.setCell (p := ⟨b, o, none⟩) hb v) (o + 1)
end

section
open Go.RowKit

/-- What few says. -/
structure FewOk (l : List Kr) : Prop where
  lo : 1 ≤ l.length
  hi : l.length ≤ 4
  each : ∀ kr, kr ∈ l → kr.seeds.length ≤ 6 ∧ (kr.salt.size ≤ 60 ∨ 400 < kr.salt.size ∧ kr.salt.size ≤ 500) ∧ kr.random.length ≤ 40
  same : ∀ kr, kr ∈ l → ∀ x, l[0]? = some x → kr.seeds.length = x.seeds.length
theorem FewOk.of {l : List Kr} (h : fewK l = true) : FewOk l := by
  unfold fewK at h
  rw [Bool.and_eq_true] at h
  have h1 := of_decide_eq_true h.1
  have h2 := List.all_eq_true.1 h.2
  have h3 : ∀ kr, kr ∈ l → fw30 kr.seeds kr.salt kr.random = true ∧ kr.seeds.length = ((l[0]?.map (·.seeds.length)).getD 0) := fun kr hk => by
    have := h2 kr hk
    unfold fwK at this
    rw [Bool.and_eq_true] at this
    exact ⟨this.1, of_decide_eq_true this.2⟩
  refine ⟨h1.1, h1.2, fun kr hk => of_decide_eq_true (h3 kr hk).1, fun kr hk x hx => ?_⟩
  rw [(h3 kr hk).2, hx]; rfl

theorem sds_range {l : List Kr} {m : Nat} {need i : Int} (h : l.all (okK m need i) = true) (k : Nat) (hk : k ≤ l.length) : 0 ≤ sds l i.toNat k ∧ sds l i.toNat k ≤ 719 * k := by
  induction k with
  | zero => simp [sds]
  | succ k ih =>
    obtain ⟨h0, h1⟩ := ih (by omega)
    obtain ⟨x, hx⟩ := get_some l k (by omega)
    obtain ⟨v, hv, hv0, hv1, -⟩ := okK_seed (List.all_eq_true.1 h x (List.mem_of_getElem? hx))
    simp only [sds, hx, Option.bind_some, hv, Option.getD_some]
    omega
theorem sds_step {l : List Kr} {i k : Nat} {x : Kr} {v : Int} (hx : l[k]? = some x) (hv : x.seeds[i]? = some v) : sds l i (k + 1) = sds l i k + v := by
  simp only [sds, hx, Option.bind_some, hv, Option.getD_some]
theorem sds_set {l : List Kr} {k : Nat} {x y : Kr} (hx : l[k]? = some x) (i m : Nat) :
    sds (l.set k y) i m = sds l i m + (if k < m then (y.seeds[i]?.getD 0) - (x.seeds[i]?.getD 0) else 0) := by
  have hk : k < l.length := (List.getElem?_eq_some_iff.1 hx).1
  induction m with
  | zero => simp [sds]
  | succ m ih =>
    simp only [sds]
    rw [ih]
    by_cases h : k = m
    · subst h
      rw [List.getElem?_set_self hk, hx, if_neg (Nat.lt_irrefl _), if_pos (Nat.lt_succ_self _)]
      simp only [Option.bind_some]
      omega
    · rw [List.getElem?_set_ne h]
      by_cases h2 : k < m
      · rw [if_pos h2, if_pos (by omega)]
        omega
      · rw [if_neg h2, if_neg (by omega)]
        omega
theorem draw_ne {l : List Kr} {k : Nat} {x y : Kr} (hx : l[k]? = some x) {i : Nat} {v s : Int} (hv : x.seeds[i]? = some v) (hv0 : 0 ≤ v) (hv1 : v ≤ 719) (hs0 : 0 ≤ s) (hs1 : s ≤ 719) (hne : s ≠ v) (hy : y.seeds[i]? = some s) :
    sds (l.set k y) i l.length % 720 ≠ sds l i l.length % 720 := by
  rw [sds_set hx, if_pos (List.getElem?_eq_some_iff.1 hx).1, hy, hv]
  simp only [Option.getD_some]
  omega
end

section
open Go.RowKit

def zOg : Og := ⟨0, 0, ⟨#[]⟩, none, 0, []⟩
/-- Some of a keeper's kept shares, from place j on, each once. -/
structure SubOk (x : Kr) (n m i j : Nat) (l : List Kp) : Prop where
  each : ∀ k, k ∈ l → ∃ q A c, j ≤ q ∧ q < m ∧ k = kpOf x n m i q A c
  nd : (l.map (·.s.1)).Nodup
  few : l.length ≤ m - j
theorem SubOk.nil (x : Kr) (n m i j : Nat) : SubOk x n m i j [] := ⟨fun k hk => (by cases hk), by simp, Nat.zero_le _⟩
theorem SubOk.skip {x : Kr} {n m i j : Nat} {l : List Kp} (h : SubOk x n m i (j + 1) l) : SubOk x n m i j l :=
  ⟨fun k hk => by obtain ⟨q, A, c, h1, h2, h3⟩ := h.each k hk; exact ⟨q, A, c, by omega, h2, h3⟩, h.nd, by have := h.few; omega⟩
theorem SubOk.snoc {x : Kr} {n m i j : Nat} {l : List Kp} (h : SubOk x n m i (j + 1) l) (hj : j < m) {k : Kp} (hk : ∃ A c, k = kpOf x n m i j A c) : SubOk x n m i j (l ++ [k]) := by
  obtain ⟨A, c, rfl⟩ := hk
  refine ⟨fun k hk => ?_, ?_, by rw [List.length_append, List.length_singleton]; have := h.few; omega⟩
  · rcases List.mem_append.1 hk with hk | hk
    · exact h.skip.each k hk
    · exact ⟨j, A, c, Nat.le_refl _, hj, List.mem_singleton.1 hk⟩
  · rw [List.map_append, List.nodup_append]
    refine ⟨h.nd, by simp, fun a ha b hb e => ?_⟩
    obtain ⟨k, hk, rfl⟩ := List.mem_map.1 ha
    obtain ⟨q, A', c', h1, -, rfl⟩ := h.each k hk
    simp only [List.map_cons, List.map_nil, List.mem_singleton] at hb
    rw [hb] at e
    simp only [kpOf] at e
    omega
def wlL (cl : Nat → Bool) : Nat → List Int
  | 0 => []
  | k + 1 => wlL cl k ++ (if cl k then [(k : Int)] else [])
theorem wlL_len (cl : Nat → Bool) (k : Nat) : (wlL cl k).length ≤ k := by
  induction k with
  | zero => exact Nat.le_refl _
  | succ k ih => rw [wlL, List.length_append]; split <;> simp <;> omega
def enL (cl : Nat → Bool) (need : Int) (L : List Nat) : Nat → Bool
  | 0 => true
  | k + 1 => enL cl need L k && (!cl k || decide (need ≤ ((L[k]?.getD 0 : Nat) : Int)))
theorem enL_append (cl : Nat → Bool) (need : Int) (L M : List Nat) (k : Nat) (h : k ≤ L.length) : enL cl need (L ++ M) k = enL cl need L k := by
  induction k with
  | zero => rfl
  | succ k ih => rw [enL, enL, ih (by omega), List.getElem?_append_left (by omega)]
theorem enL_true {cl : Nat → Bool} {need : Int} {L : List Nat} {m : Nat} (h : enL cl need L m = true) (k : Nat) (hk : k < m) (hc : cl k = true) : need ≤ ((L[k]?.getD 0 : Nat) : Int) := by
  induction m with
  | zero => omega
  | succ m ih =>
    rw [enL, Bool.and_eq_true] at h
    by_cases hkm : k < m
    · exact ih h.1 hkm
    · obtain rfl : k = m := by omega
      have := h.2
      rw [hc] at this
      simpa using this
theorem enL_false {cl : Nat → Bool} {need : Int} {L : List Nat} {m : Nat} (h : enL cl need L m = false) : ∃ k, k < m ∧ enL cl need L k = true ∧ cl k = true ∧ ((L[k]?.getD 0 : Nat) : Int) < need := by
  induction m with
  | zero => cases h
  | succ m ih =>
    cases h1 : enL cl need L m with
    | false =>
      obtain ⟨k, a, b⟩ := ih h1
      exact ⟨k, by omega, b⟩
    | true =>
      rw [enL, h1, Bool.true_and] at h
      refine ⟨m, Nat.lt_succ_self _, h1, ?_⟩
      cases hc : cl m with
      | false => rw [hc] at h; cases h
      | true =>
        rw [hc, Bool.not_true, Bool.false_or] at h
        have := of_decide_eq_false h
        exact ⟨rfl, by omega⟩
/-- What each keeper gives. -/
theorem recov_one {l : List Kr} {need i : Int} {w : World} {CA OA KA : Option Addr} {cc oc kc : Nat} {os : List Og} {ks : List Kw} (h : NightRes l need i w CA cc OA oc KA kc os ks) (ha : l.all (okK l.length need i) = true) (n : Nat) (hn : ∀ kr, kr ∈ l → kr.seeds.length = n)
    (cl : Nat → Bool) {ot : List Og} (hot : ∀ j, j < l.length → ot[j]? = if cl j then some zOg else os[j]?) {kt : List Kw} (hkt : ∀ (j : Nat) (kr : Kr), l[j]? = some kr → ∃ a, kt[j]? = some a ∧ SubOk kr need.toNat l.length i.toNat 0 a.l) (hol : ot.length = l.length) (hkl : kt.length = l.length) {k : Nat} {kr : Kr} (hk : l[k]? = some kr) :
    (krs (l.map (cmK l.length need)) (n : Int) i ot (kt.map (·.l)) need)[k]? = some (if cl k then (if (((kt.map (·.l.length))[k]?.getD 0 : Nat) : Int) < need then (0, 25, true) else (kr.seeds[i.toNat]?.getD 0, 0, true)) else (kr.seeds[i.toNat]?.getD 0, 0, false)) := by
  have hkl' : k < l.length := (List.getElem?_eq_some_iff.1 hk).1
  have hm := List.mem_of_getElem? hk
  have hok := List.all_eq_true.1 ha kr hm
  obtain ⟨a, ha', hsub⟩ := hkt k kr hk
  have h1 : (l.map (cmK l.length need))[k]? = some (cmK l.length need kr) := by rw [List.getElem?_map, hk]; rfl
  have h2 : (kt.map (·.l))[k]? = some a.l := by rw [List.getElem?_map, ha']; rfl
  have h3 : (kt.map (·.l.length))[k]? = some a.l.length := by rw [List.getElem?_map, ha']; rfl
  have h4 := hot k hkl'
  rw [h3, Option.getD_some]
  cases hc : cl k with
  | true =>
    rw [hc, if_pos rfl] at h4
    rw [krs_get h1 h4 h2, ← hn kr hm, List.length_map, kone_held hok (o := zOg) (fun _ => ck_empty _ _ _ _ _) (fun q hq => by
      obtain ⟨p, A, c, -, hp, he⟩ := hsub.each q hq
      exact ⟨p, A, c, hp, he⟩) hsub.nd]
    simp only [if_pos]
  | false =>
    rw [hc, if_neg (by decide)] at h4
    obtain ⟨A, c, ho⟩ := h.ok.o k kr hkl' hk
    rw [ho] at h4
    rw [krs_get h1 h4 h2, ← hn kr hm, kone_own hok]
    simp
theorem recov_draw {l : List Kr} {need i : Int} {w : World} {CA OA KA : Option Addr} {cc oc kc : Nat} {os : List Og} {ks : List Kw} (h : NightRes l need i w CA cc OA oc KA kc os ks) (ha : l.all (okK l.length need i) = true) (n : Nat) (hn : ∀ kr, kr ∈ l → kr.seeds.length = n)
    (cl : Nat → Bool) {ot : List Og} (hot : ∀ j, j < l.length → ot[j]? = if cl j then some zOg else os[j]?) {kt : List Kw} (hkt : ∀ (j : Nat) (kr : Kr), l[j]? = some kr → ∃ a, kt[j]? = some a ∧ SubOk kr need.toNat l.length i.toNat 0 a.l) (hol : ot.length = l.length) (hkl : kt.length = l.length) :
    kall (krs (l.map (cmK l.length need)) (n : Int) i ot (kt.map (·.l)) need) = if enL cl need (kt.map (·.l.length)) l.length then (sds l i.toNat l.length % 720, wlL cl l.length, 0) else (0, [], 25) := by
  have hat := fun (k : Nat) (kr : Kr) (hk : l[k]? = some kr) => recov_one h ha n hn cl hot hkt hol hkl hk
  have hlen : (krs (l.map (cmK l.length need)) (n : Int) i ot (kt.map (·.l)) need).length = l.length := by rw [krs_len (by rw [List.length_map]; exact hol) (by rw [List.length_map, List.length_map]; exact hkl), List.length_map]
  generalize krs (l.map (cmK l.length need)) (n : Int) i ot (kt.map (·.l)) need = rs at *
  generalize kt.map (·.l.length) = L at *
  have herr : ∀ (k : Nat), enL cl need L k = true → k ≤ l.length → ∀ (j : Nat) (r : Int × Int × Bool), j < k → rs[j]? = some r → r.2.1 = 0 := fun k hen hkl j r hj hr => by
    obtain ⟨kr, hkr⟩ := get_some l j (by omega)
    rw [hat j kr hkr] at hr
    cases hc : cl j with
    | true =>
      have := enL_true hen j hj hc
      rw [hc, if_pos rfl, if_neg (by omega)] at hr
      cases hr; rfl
    | false =>
      rw [hc, if_neg (by decide)] at hr
      cases hr; rfl
  cases hen : enL cl need L l.length with
  | true =>
    rw [if_pos rfl]
    have h0 : ∀ (k : Nat) (r : Int × Int × Bool), rs[k]? = some r → r.2.1 = 0 := fun k r hr => herr l.length hen (Nat.le_refl _) k r (by rw [← hlen]; exact (List.getElem?_eq_some_iff.1 hr).1) hr
    have hs : ∀ k, k ≤ l.length → ksum rs k = sds l i.toNat k % 720 ∧ kwh rs k = wlL cl k := fun k => by
      induction k with
      | zero => intro _; exact ⟨rfl, rfl⟩
      | succ k ih =>
        intro hk
        obtain ⟨i1, i2⟩ := ih (by omega)
        obtain ⟨kr, hkr⟩ := get_some l k (by omega)
        have hr := hat k kr hkr
        cases hc : cl k with
        | true =>
          have := enL_true hen k (by omega) hc
          rw [hc, if_pos rfl, if_neg (by omega)] at hr
          refine ⟨?_, ?_⟩
          · rw [ksum_succ hr, i1, sds, hkr]; simp only [Option.bind_some]; omega
          · rw [kwh_succ hr, i2, wlL, hc]
        | false =>
          rw [hc, if_neg (by decide)] at hr
          refine ⟨?_, ?_⟩
          · rw [ksum_succ hr, i1, sds, hkr]; simp only [Option.bind_some]; omega
          · rw [kwh_succ hr, i2, wlL, hc]
    rw [kall_ok h0, hlen, (hs _ (Nat.le_refl _)).1, (hs _ (Nat.le_refl _)).2]
  | false =>
    rw [if_neg (by decide)]
    obtain ⟨k, hk, hek, hc, hlt⟩ := enL_false hen
    obtain ⟨kr, hkr⟩ := get_some l k hk
    have hr := hat k kr hkr
    rw [hc, if_pos rfl, if_pos hlt] at hr
    exact kall_err (herr k hek (by omega)) hr (by decide)
end

section
open Go.RowKit

theorem dec_le (n : Nat) (h : n ≤ 9223372036854775807) : (dec n).size ≤ 200 := by
  have := dec_size n h
  omega
theorem rsalted_any (salt : ByteArray) (i : Nat) (w : World) (hs : salt.size ≤ 200) (hi : i ≤ 1000000) :
    Calls Tryz.prog 58 #[.string salt, .int .i64 i] w fun e w' => e = .returned (.string (ktT salt i)) ∧ Below w.heap.size w w' := by
  have HL := Lib.hid (rjoined (some ⟨w.heap.size, 0, none⟩) 3 [bSalt, salt, dec i] (w.alloc (.cells #[.string bSalt, .string salt, .string (dec i)] 9)) (Strs_new _ _ _ _ _ rfl rfl) (by simp) (by
    intro s h
    have hd := dec_le i (by omega)
    simp only [List.mem_cons, List.not_mem_nil, or_false] at h
    rcases h with rfl | rfl | rfl
    · decide
    · exact hs
    · exact hd))
  have e : (⟨(jn [bSalt, salt, dec i]).toArray⟩ : ByteArray) = ktT salt i := rfl
  rw [e] at HL
  have HD := Lib.hid (rdecimal i (by omega) w)
  generalize ktT salt i = T at *
  unfold bSalt at HL
  clear e
  generalize dec i = d at *
  go_enter Tryz.func58, Tryz.ntmps58
  go_wp2_with fail
  refine HD.out.mono ?_
  rintro e w1 ⟨rfl, rfl⟩
  go_wp2_with fail
  refine HL.out.mono ?_
  rintro e w2 ⟨rfl, hb⟩
  have HB := Lib.hid (below_trans (below_alloc (Below.refl _ _) _) hb)
  clear hb
  go_wp2
  go_ret
  exact ⟨rfl, HB.out⟩
theorem rseeded_any (i v : Nat) (s : ByteArray) (w : World) (hi : i ≤ 1000000) (hv : v ≤ 1000000) (hs : s.size ≤ 200) :
    Calls Tryz.prog 71 #[.int .i64 i, .int .i64 v, .string s] w fun e w' => e = .returned (.string (ksT i v s)) ∧ Below w.heap.size w w' := by
  have HL := Lib.hid (rjoined (some ⟨w.heap.size, 0, none⟩) 4 [bSeed, dec i, dec v, s] (w.alloc (.cells #[.string bSeed, .string (dec i), .string (dec v), .string s] 9)) (Strs_new _ _ _ _ _ rfl rfl) (by simp) (by
    intro t h
    have hd := dec_le i (by omega)
    have hd2 := dec_le v (by omega)
    simp only [List.mem_cons, List.not_mem_nil, or_false] at h
    rcases h with rfl | rfl | rfl | rfl
    · decide
    · exact hd
    · exact hd2
    · exact hs))
  have e : (⟨(jn [bSeed, dec i, dec v, s]).toArray⟩ : ByteArray) = ksT i v s := rfl
  rw [e] at HL
  have HD := Lib.hid (rdecimal i (by omega) w)
  have HD2 := Lib.hid (rdecimal v (by omega) w)
  generalize ksT i v s = T at *
  unfold bSeed at HL
  clear e
  generalize dec i = d at *
  generalize dec v = d2 at *
  go_enter Tryz.func71, Tryz.ntmps71
  go_wp2_with fail
  refine HD.out.mono ?_
  rintro e w1 ⟨rfl, rfl⟩
  go_wp2_with fail
  refine HD2.out.mono ?_
  rintro e w1 ⟨rfl, rfl⟩
  go_wp2_with fail
  refine HL.out.mono ?_
  rintro e w2 ⟨rfl, hb⟩
  have HB := Lib.hid (below_trans (below_alloc (Below.refl _ _) _) hb)
  clear hb
  go_wp2
  go_ret
  exact ⟨rfl, HB.out⟩
theorem ksT_size (i v : Nat) (s : ByteArray) (hi : i ≤ 1000000) (hv : v ≤ 1000000) (hs : s.size ≤ 400) : (ksT i v s).size ≤ 1000000 := by
  have := jn_seed i v s hi hv hs
  have e : (ksT i v s).size = (jn [bSeed, dec i, dec v, s]).length := by
    show (jn _).toArray.size = _
    simp
  omega
theorem ktT_size (salt : ByteArray) (i : Nat) (hs : salt.size ≤ 400) (hi : i ≤ 1000000) : (ktT salt i).size ≤ 1000000 := by
  have := jn_salt salt i hs hi
  have e : (ktT salt i).size = (jn [bSalt, salt, dec i]).length := by
    show (jn _).toArray.size = _
    simp
  omega
theorem rsleaf_any (i v : Nat) (s : ByteArray) (w : World) (hi : i ≤ 1000000) (hv : v ≤ 1000000) (hs : s.size ≤ 200) :
    Calls Tryz.prog 69 #[.int .i64 i, .int .i64 v, .string s] w fun e w' => e = .returned (.string (ksLf i v s)) ∧ Below w.heap.size w w' := by
  have HS := Lib.hid (rseeded_any i v s w hi hv hs)
  have HSM := Lib.hid (fun W => rsum (ksT i v s) (by have := ksT_size i v s hi hv (by omega); omega) W)
  have HLF := Lib.hid (fun W => rleaf_any (dg (ksT i v s)) (by rw [dg_size]; omega) W)
  have e : lf (dg (ksT i v s)) = ksLf i v s := rfl
  rw [e] at HLF
  generalize ksLf i v s = R at *
  clear e
  generalize dg (ksT i v s) = D at *
  generalize ksT i v s = T at *
  go_enter Tryz.func69, Tryz.ntmps69
  go_wp2_with fail
  refine HS.out.mono ?_
  rintro e w1 ⟨rfl, hb⟩
  have HB1 := Lib.hid hb
  clear hb
  go_wp2_with fail
  refine (HSM.out w1).mono ?_
  rintro e w2 ⟨rfl, rfl⟩
  go_wp2_with fail
  refine (HLF.out w1).mono ?_
  rintro e w2 ⟨rfl, hb⟩
  have HB2 := Lib.hid (below_trans HB1.out hb)
  clear hb
  go_wp2
  go_ret
  exact ⟨rfl, HB2.out⟩
set_option maxHeartbeats 4000000 in
theorem rshtext_any (i : Nat) (s : Int × Int) (w : World) (hi : i ≤ 1000000) (h1 : 0 ≤ s.1 ∧ s.1 ≤ 1000000000) (h2 : 0 ≤ s.2 ∧ s.2 < 2147483647) :
    Calls Tryz.prog 75 #[.int .i64 i, .agg #[.int .i64 s.1, .int .i64 s.2]] w fun e w' => e = .returned (.string (khT i s)) ∧ Below w.heap.size w w' := by
  have hsz := khT_size i s (by omega) (by omega) (by omega)
  obtain ⟨x, y⟩ := s
  simp only at h1 h2
  obtain ⟨X, rfl⟩ : ∃ X : Nat, x = X := ⟨x.toNat, by omega⟩
  obtain ⟨Y, rfl⟩ : ∃ Y : Nat, y = Y := ⟨y.toNat, by omega⟩
  have hsh : khT i ((X : Int), (Y : Int)) = dec i ++ ⟨#[32]⟩ ++ dec X ++ ⟨#[32]⟩ ++ dec Y := by
    unfold khT bSp
    rw [Int.toNat_natCast, Int.toNat_natCast]
  obtain ⟨w0, hw0⟩ : ∃ w0, w.alloc (.cells #[.int .i64 (X : Int), .int .i64 (Y : Int)] 48) = w0 := ⟨_, rfl⟩
  have HB0 : Hid (Below w.heap.size w w0) := Lib.hid (by rw [← hw0]; exact below_alloc (Below.refl _ _) _)
  have HK : Hid (∀ W, Below w0.heap.size w0 W → W.cell? ⟨w.heap.size, 0, none⟩ = some (.int .i64 (X : Int)) ∧ W.cell? ⟨w.heap.size, 1, none⟩ = some (.int .i64 (Y : Int))) := Lib.hid (fun W hW => by
    have hb : Blk w0 w.heap.size 48 #[.int .i64 (X : Int), .int .i64 (Y : Int)] := by rw [← hw0]; exact Blk.new w _ _ _ rfl
    exact ⟨kept_cell hW (hb.of_cell (i := 0) rfl), kept_cell hW (hb.of_cell (i := 1) rfl)⟩)
  have HD : Hid (∀ (n : Nat) (W : World), n ≤ 9223372036854775807 → Below w0.heap.size w0 W → Calls Tryz.prog 100 #[.int .i64 (n : Int)] W fun e w' => e = .returned (.string (dec n)) ∧ Below w0.heap.size w0 w') := Lib.hid (fun n W h hW0 => by
    have hW := below_trans HB0.out hW0
    have H : Calls Tryz.prog 100 #[.int .i64 (n : Int)] W fun e w' => e = .returned (.string (dec n)) ∧ Below W.heap.size W w' := (rdecimal n h W).mono fun _ _ ⟨he, hw⟩ => ⟨he, hw ▸ Below.refl _ _⟩
    exact H.mono fun _ _ ⟨he, hb⟩ => ⟨he, below_trans hW0 hb⟩)
  rw [hsh]
  rw [hsh] at hsz
  have HDI := Lib.hid (fun W (hW : Below w0.heap.size w0 W) => HD.out i W (by omega) hW)
  have HDX := Lib.hid (fun W (hW : Below w0.heap.size w0 W) => HD.out X W (by omega) hW)
  have HDY := Lib.hid (fun W (hW : Below w0.heap.size w0 W) => HD.out Y W (by omega) hW)
  have HW0 := Lib.hid hw0
  clear hw0 h1 h2 hsh HD
  generalize dec i = di at *
  generalize dec X = dx at *
  generalize dec Y = dy at *
  have hz : (⟨#[32]⟩ : ByteArray).size = 1 := rfl
  simp only [ByteArray.size_append, hz] at hsz
  have s1 : ¬ 9223372036854775807 < di.size + 1 := by omega
  have s2 : ¬ 9223372036854775807 < (di ++ ⟨#[32]⟩ : ByteArray).size + dx.size := by rw [ByteArray.size_append]; omega
  have s3 : ¬ 9223372036854775807 < di.size + 1 + dx.size := by omega
  have s4 : ¬ 9223372036854775807 < (di ++ ⟨#[32]⟩ ++ dx : ByteArray).size + 1 := by rw [ByteArray.size_append, ByteArray.size_append]; omega
  have s5 : ¬ 9223372036854775807 < di.size + 1 + dx.size + 1 := by omega
  have s6 : ¬ 9223372036854775807 < (di ++ ⟨#[32]⟩ ++ dx ++ ⟨#[32]⟩ : ByteArray).size + dy.size := by rw [ByteArray.size_append, ByteArray.size_append, ByteArray.size_append]; omega
  have s7 : ¬ 9223372036854775807 < di.size + 1 + dx.size + 1 + dy.size := by omega
  clear hz
  go_enter Tryz.func75, Tryz.ntmps75
  go_wp2_with fail
  have hw0 := HW0.out
  rw [hw0]
  clear hw0
  refine wp_region_belowC (by kernel_rfl) (by kernel_rfl) (fun WQ HQS HQN => ?_)
  refine HQS.go (fun K hK => ?_)
  go_simp
  apply Exists.intro
  refine ⟨fun W hW => ?_, hK _ ?_⟩
  · (try go_simp)
    exact rfl
  clear hK K
  refine HQS.go (fun K hK => ?_)
  go_simp
  apply Exists.intro
  refine ⟨fun W hW => ?_, hK _ ?_⟩
  · exact HDI.out W hW
  clear hK K
  refine HQS.go (fun K hK => ?_)
  go_simp
  apply Exists.intro
  refine ⟨fun W hW => ?_, hK _ ?_⟩
  · (try go_simp)
    exact rfl
  clear hK K
  refine HQS.go (fun K hK => ?_)
  go_simp
  apply Exists.intro
  refine ⟨fun W hW => ?_, hK _ ?_⟩
  · (try go_simp)
    exact rfl
  clear hK K
  refine HQS.go (fun K hK => ?_)
  go_simp
  apply Exists.intro
  refine ⟨fun W hW => ?_, hK _ ?_⟩
  · obtain ⟨q1, q2⟩ := HK.out W hW
    have ql := lt_of_cell q1
    go_simp
    exact rfl
  clear hK K
  refine HQS.go (fun K hK => ?_)
  go_simp
  apply Exists.intro
  refine ⟨fun W hW => ?_, hK _ ?_⟩
  · exact HDX.out W hW
  clear hK K
  refine HQS.go (fun K hK => ?_)
  go_simp
  apply Exists.intro
  refine ⟨fun W hW => ?_, hK _ ?_⟩
  · (try go_simp)
    exact rfl
  clear hK K
  refine HQS.go (fun K hK => ?_)
  go_simp
  apply Exists.intro
  refine ⟨fun W hW => ?_, hK _ ?_⟩
  · (try go_simp)
    exact rfl
  clear hK K
  refine HQS.go (fun K hK => ?_)
  go_simp
  apply Exists.intro
  refine ⟨fun W hW => ?_, hK _ ?_⟩
  · (try go_simp)
    exact rfl
  clear hK K
  refine HQS.go (fun K hK => ?_)
  go_simp
  apply Exists.intro
  refine ⟨fun W hW => ?_, hK _ ?_⟩
  · obtain ⟨q1, q2⟩ := HK.out W hW
    have ql := lt_of_cell q1
    go_simp
    exact rfl
  clear hK K
  refine HQS.go (fun K hK => ?_)
  go_simp
  apply Exists.intro
  refine ⟨fun W hW => ?_, hK _ ?_⟩
  · exact HDY.out W hW
  clear hK K
  refine HQS.go (fun K hK => ?_)
  go_simp
  apply Exists.intro
  refine ⟨fun W hW => ?_, hK _ ?_⟩
  · (try go_simp)
    exact rfl
  clear hK K
  refine HQS.go (fun K hK => ?_)
  go_simp
  apply Exists.intro
  refine ⟨fun W hW => ?_, hK _ ?_⟩
  · (try go_simp)
    exact rfl
  clear hK K
  refine HQN.go ?_
  intro W hW
  go_wp2
  go_ret
  exact ⟨rfl, below_trans HB0.out hW⟩
set_option maxHeartbeats 4000000 in
theorem rsleaves_any (A : Option Addr) (c : Nat) (l : List Int) (salt : ByteArray) (w : World) (hA : Ints w A l) (hsv : sdV l = true) (h6 : l.length ≤ 600) (hs : salt.size ≤ 200) :
    Calls Tryz.prog 49 #[.slice A l.length c, .string salt] w fun e w' => ∃ v, e = .returned v ∧ w'.ownsRow w.heap.size 9 1 v l.length ((ksL l salt).map Value.string) ∧ Below w.heap.size w w' := by
  have HA : Hid (∀ W, Below w.heap.size w W → Ints W A l) := Lib.hid (fun W hW => hA.below hW)
  have HV : Hid (∀ (k : Nat) (x : Int), l[k]? = some x → 0 ≤ x ∧ x ≤ 719) := Lib.hid (fun k x h => sdV_at hsv h)
  have HLT : Hid (∀ (k : Nat) (x : Int), l[k]? = some x → (ksL l salt).take (k + 1) = (ksL l salt).take k ++ [ksLf k x.toNat (kslt salt k)]) := Lib.hid (fun k x h => ksL_take l salt k x h)
  have HLN := Lib.hid (ksL_length l salt)
  obtain ⟨i0, hi0, hz0, hz1, hz2⟩ := info_parts info_strg
  have HI := Lib.hid (And.intro hi0 (And.intro hz0 (And.intro hz1 hz2)))
  generalize ksL l salt = R at *
  clear hA hsv hi0 hz0 hz1 hz2
  go_enter Tryz.func49, Tryz.ntmps49
  go_wp2_with fail
  go_loopw [5, 6] (fun u5 u6 wr => ∃ k : Nat, k ≤ l.length ∧ u6 = .int .i64 k ∧ Below w.heap.size w wr ∧ wr.ownsRow w.heap.size 9 1 u5 k ((R.take k).map Value.string)) (fun _ u6 _ => l.length - (intOf u6).toNat)
  case atStart => exact ⟨0, Nat.zero_le _, rfl, Below.refl _ _, World.ownsRow_nil _ _ _ _⟩
  case round =>
  obtain ⟨k, hk, rfl, hb, ho⟩ := hrel
  have HBk := Lib.hid hb
  have HOk := Lib.hid ho
  clear hb ho
  by_cases hlt : k < l.length
  case neg =>
    obtain rfl : k = l.length := by omega
    have ho := HOk.out
    rw [List.take_of_length_le (by rw [HLN.out]; exact Nat.le_refl _)] at ho
    have HO := Lib.hid ho
    clear ho
    go_wp2
    go_ret
    exact ⟨_, rfl, HO.out, HBk.out⟩
  case pos =>
  obtain ⟨x, hx⟩ := get_some l k hlt
  have hxr := HV.out k x hx
  obtain ⟨X, rfl⟩ : ∃ X : Nat, x = X := ⟨x.toNat, by omega⟩
  have hX := HLT.out k X hx
  rw [Int.toNat_natCast] at hX
  have HX := Lib.hid hX
  clear hX
  obtain ⟨bA, oA, hAe, -⟩ := (HA.out w (Below.refl _ _)).at_ hx
  subst hAe
  have HC : Hid (∀ W, Below w.heap.size w W → W.cell? ⟨bA, oA + k, none⟩ = some (.int .i64 (X : Int))) := Lib.hid (fun W hW => by
    obtain ⟨b, off, he, hc⟩ := (HA.out W hW).at_ hx
    cases he
    exact hc)
  clear hx
  have HSA := Lib.hid (fun (W : World) => rsalted_any salt k W hs (by omega))
  have HSM := Lib.hid (fun (W : World) => rsum (ktT salt k) (by have := ktT_size salt k (by omega) (by omega); omega) W)
  have HSL := Lib.hid (fun (W : World) => rsleaf_any k X (kslt salt k) W (by omega) (by omega) (by rw [kslt_size]; omega))
  rw [show dg (ktT salt k) = kslt salt k from rfl] at HSM
  generalize ksLf k X (kslt salt k) = d at *
  generalize kslt salt k = ks at *
  generalize ktT salt k = T at *
  have hki : (k : Int) < (l.length : Int) := by omega
  go_wp2_with fail
  refine wp_region_held_drew (S := fun W => Below w.heap.size w W) (by kernel_rfl) (HBk.out.drew) (fun hS0 => ?_)
  refine wpAnyH_take (i := 0) (v := ?_) rfl (by kernel_rfl) (by kernel_rfl) (by kernel_rfl) (fun _ _ _ h => h) (Or.inl ⟨by kernel_rfl, ?hy⟩) hS0 ?rest
  case hy => (intro W hSw; clear hSw; go_simp; with_reducible rfl)
  case rest =>
  refine wpAnyH_take (i := 1) (v := ?_) rfl (by kernel_rfl) (by kernel_rfl) (by kernel_rfl) (fun _ _ _ h => h) (Or.inl ⟨by kernel_rfl, ?hy⟩) hS0 ?rest
  case hy => (intro W hSw; clear hSw; go_simp; with_reducible rfl)
  case rest =>
  refine wpAnyH_take (i := 2) (v := ?_) rfl (by kernel_rfl) (by kernel_rfl) (by kernel_rfl) (fun _ _ _ h => h) (Or.inl ⟨by kernel_rfl, ?hy⟩) hS0 ?rest
  case hy => (intro W hSw; clear hSw; go_simp; with_reducible rfl)
  case rest =>
  refine wpAnyH_take (i := 3) (v := ?_) rfl (by kernel_rfl) (by kernel_rfl) (by kernel_rfl) (fun _ _ _ h => h) (Or.inl ⟨by kernel_rfl, ?hy⟩) hS0 ?rest
  case hy => (intro W hSw; clear hSw; go_simp; with_reducible rfl)
  case rest =>
  refine wpAnyH_take (i := 4) (v := ?_) rfl (by kernel_rfl) (by kernel_rfl) (by kernel_rfl) (fun _ _ _ h => h) (Or.inl ⟨by kernel_rfl, ?hy⟩) hS0 ?rest
  case hy => (intro W hSw; clear hSw; go_simp; with_reducible rfl)
  case rest =>
  refine wpAnyH_take (i := 5) (v := ?_) rfl (by kernel_rfl) (by kernel_rfl) (by kernel_rfl) (fun _ _ _ h => h) (Or.inl ⟨by kernel_rfl, ?hy⟩) hS0 ?rest
  case hy => (intro W hSw; have c0 := HC.out W hSw; have cl := lt_of_cell c0; clear hSw; go_simp; with_reducible rfl)
  case rest =>
  try go_simp
  refine wpAnyH_take (i := 6) (v := ?_) rfl (by kernel_rfl) (by kernel_rfl) (by kernel_rfl) (fun _ _ _ h => h) (Or.inl ⟨by kernel_rfl, ?hy⟩) hS0 ?rest
  case hy => (intro W hSw; clear hSw; go_simp; with_reducible rfl)
  case rest =>
  refine wpAnyH_take (i := 7) (v := ?_) rfl (by kernel_rfl) (by kernel_rfl) (by kernel_rfl) (fun _ _ _ h => h) (Or.inl ⟨by kernel_rfl, ?hy⟩) hS0 ?rest
  case hy => (intro W hSw; clear hSw; go_simp; with_reducible rfl)
  case rest =>
  refine wpAnyH_ready (rs := [8]) (by kernel_rfl) (by simp) ?_
  refine AllReadyH.cons rfl (fun K hK => ?_) (AllReadyH.nil)
  go_simp
  refine (HSA.out _).mono ?_
  rintro e w1 ⟨rfl, hb⟩
  have HB1 := Lib.hid (below_trans (Below.refl wr.heap.size wr).drew hb)
  have HW1 := Lib.hid (below_trans HBk.out HB1.out)
  clear hb
  go_simp
  refine hK.out _ _ HW1.out (fun hS1 => ?_)
  clear hK K
  refine wpAnyH_ready (rs := [9]) (by kernel_rfl) (by simp) ?_
  refine AllReadyH.cons rfl (fun K hK => ?_) (AllReadyH.nil)
  go_simp
  refine (HSM.out _).mono ?_
  rintro e w2 ⟨rfl, rfl⟩

  go_simp
  refine hK.out _ _ HW1.out (fun hS2 => ?_)
  clear hK K
  refine wpAnyH_ready (rs := [10]) (by kernel_rfl) (by simp) ?_
  refine AllReadyH.cons rfl (fun K hK => ?_) (AllReadyH.nil)
  go_simp
  refine (HSL.out w1).mono ?_
  rintro e w2 ⟨rfl, hb⟩
  have HB2 := Lib.hid (below_trans HB1.out hb)
  have HW2 := Lib.hid (below_trans HBk.out HB2.out)
  clear hb
  go_simp
  refine hK.out _ _ HW2.out (fun hS3 => ?_)
  clear hK K
  refine wpAnyH_ready (rs := [11]) (by kernel_rfl) (by simp) ?_
  refine AllReadyH.cons rfl (fun K hK => ?_) (AllReadyH.nil)
  go_simp
  refine hK.out _ _ (below_alloc HW2.out _) (fun hS4 => ?_)
  clear hK K
  refine wpAnyH_ready (rs := [12]) (by kernel_rfl) (by simp) ?_
  refine AllReadyH.cons rfl (fun K hK => ?_) (AllReadyH.nil)
  refine step_appT (w2.alloc (.cells #[.string d] 9)) (by kernel_rfl) (.tmp 13) (.tmp 24) 30 30 rfl w.heap.size 9 9 i0 _ 1 16 Tryz.underlying30 Tryz.underlying30 HI.out.1 HI.out.2.1 HI.out.2.2.1 HI.out.2.2.2 rfl (by omega) u5 k _ (by kernel_rfl) ((row_below HOk.out HB2.out).alloc _) (some ⟨w2.heap.size, 0, none⟩) 1 1 [.string d] (by kernel_rfl) (Rd_new w2 #[.string d] _ 1 1 _ rfl rfl) (by simp [Value.oneCell']) (by simp only [maxLen]; omega) (by omega) (by have := HW2.out.size; simp; omega) ?_
  intro v3 w3 hown hg
  have HBF : Hid (Below w.heap.size w w3) := Lib.hid ((below_alloc HW2.out _).grown hg (by have := HW2.out.size; simp; omega) (fun j hj => (HOk.out.lt j hj).1))
  have e3 : (R.map Value.string).take k ++ [.string d] = (R.take (k + 1)).map Value.string := by rw [HX.out, List.map_append, List.map_take]; rfl
  try rw [List.map_take] at hown
  rw [e3] at hown
  have HOF := Lib.hid hown
  clear hown hg e3
  refine hK.out _ _ HBF.out (fun hS5 => ?_)
  clear hK K
  refine wpAnyH_take (i := 13) (v := ?_) rfl (by kernel_rfl) (by kernel_rfl) (by kernel_rfl) (fun _ _ _ h => h) (Or.inl ⟨by kernel_rfl, ?hy⟩) hS5 ?rest
  case hy => (intro W hSw; clear hSw; go_simp; with_reducible rfl)
  case rest =>
  refine wpAnyH_done (by kernel_rfl) ?_ _
  go_wp2
  go_roundw
  case rel => exact ⟨k + 1, by omega, by go_num, HBF.out, HOF.out⟩
  case measure => simp [intOf]; omega
end

section
open Go.RowKit

def ks3 (salt : ByteArray) (i : Nat) (v : Int) : List ByteArray := [ktT salt i, ksT i v.toNat (kslt salt i), jb [bLeaf, dg (ksT i v.toNat (kslt salt i))]]
theorem ksTx_eq (l : List Int) (salt : ByteArray) : ksTx l salt = (l.mapIdx (ks3 salt)).flatten ++ txt (ksL l salt) := rfl
theorem ks3_take (l : List Int) (salt : ByteArray) (k : Nat) (v : Int) (h : l[k]? = some v) : (l.mapIdx (ks3 salt)).take (k + 1) = (l.mapIdx (ks3 salt)).take k ++ [ks3 salt k v] := take_snoc _ _ _ (by simp [h])
theorem rshown30_any (A : Option Addr) (c : Nat) (l : List ByteArray) (w : World) (hS : Strs w A l) (hl : l.length ≤ 1000000) (hs : ∀ s ∈ l, s.size ≤ 1000000000) (hC : Col l) :
    Calls Tryz.prog 30 #[.slice A l.length c] w fun e w' => e = .returned (.bool true) ∧ Below w.heap.size w w' := by
  have HS := Lib.hid (shown_any A c l w hS hl hs hC)
  go_enter Tryz.func30, Tryz.ntmps30
  go_wp2_with fail
  refine HS.out.mono ?_
  rintro e w1 ⟨rfl, hb⟩
  have HB := Lib.hid hb
  clear hb
  go_wp2
  go_ret
  exact ⟨rfl, HB.out⟩
set_option maxHeartbeats 8000000 in
theorem rstexts_any (A : Option Addr) (c : Nat) (l : List Int) (salt : ByteArray) (w : World) (hA : Ints w A l) (hsv : sdV l = true) (h6 : l.length ≤ 600) (hs : salt.size ≤ 200) :
    Calls Tryz.prog 31 #[.slice A l.length c, .string salt] w fun e w' => ∃ v, e = .returned v ∧ w'.ownsRow w.heap.size 9 1 v (ksTx l salt).length ((ksTx l salt).map Value.string) ∧ Below w.heap.size w w' := by
  have HA : Hid (∀ W, Below w.heap.size w W → Ints W A l) := Lib.hid (fun W hW => hA.below hW)
  have HV : Hid (∀ (k : Nat) (x : Int), l[k]? = some x → 0 ≤ x ∧ x ≤ 719) := Lib.hid (fun k x h => sdV_at hsv h)
  have HLT : Hid (∀ (k : Nat) (x : Int), l[k]? = some x → (l.mapIdx (ks3 salt)).take (k + 1) = (l.mapIdx (ks3 salt)).take k ++ [ks3 salt k x]) := Lib.hid (fun k x h => ks3_take l salt k x h)
  have HLN : Hid ((l.mapIdx (ks3 salt)).length = l.length) := Lib.hid (by simp)
  have HLV : Hid (∀ W, Below w.heap.size w W → Calls Tryz.prog 49 #[.slice A l.length c, .string salt] W fun e w' => ∃ v, e = .returned v ∧ w'.ownsRow W.heap.size 9 1 v l.length ((ksL l salt).map Value.string) ∧ Below W.heap.size W w') := Lib.hid (fun W hW => rsleaves_any A c l salt W (hA.below hW) hsv h6 hs)
  have HTX : Hid (∀ (W : World) (B : Option Addr) (d : Nat), l.length ≤ d → Strs W B (ksL l salt) → Calls Tryz.prog 73 #[.slice B l.length d] W fun e w' => ∃ v, e = .returned v ∧ w'.ownsRow W.heap.size 9 1 v (txt (ksL l salt)).length ((txt (ksL l salt)).map Value.string) ∧ Below W.heap.size W w') := Lib.hid (fun W B d hd hB => by
    have := rtxt_any l.length B d (ksL l salt) W (by rw [ksL_length]; exact Nat.le_refl _) (by rw [ksL_length]; omega) (by rw [ksL_length]; exact hd) hB (ksL_sm l salt)
    rw [ksL_length] at this
    exact this)
  have HXL : Hid ((txt (ksL l salt)).length ≤ 601) := Lib.hid (by have := (txt_len (ksL l salt)).1; rw [ksL_length] at this; omega)
  have HRL := Lib.hid (ksL_length l salt)
  have HEQ := Lib.hid (ksTx_eq l salt)
  obtain ⟨i0, hi0, hz0, hz1, hz2⟩ := info_parts info_strg
  have HI := Lib.hid (And.intro hi0 (And.intro hz0 (And.intro hz1 hz2)))
  generalize ksTx l salt = TT at *
  generalize txt (ksL l salt) = X at *
  generalize ksL l salt = R at *
  generalize l.mapIdx (ks3 salt) = M at *
  clear hA hsv hi0 hz0 hz1 hz2
  go_enter Tryz.func31, Tryz.ntmps31
  go_wp2_with fail
  go_loopw [5, 6, 7] (fun u5 u6 _ wr => ∃ k : Nat, k ≤ l.length ∧ u6 = .int .i64 k ∧ Below w.heap.size w wr ∧ wr.ownsRow w.heap.size 9 1 u5 (3 * k) ((M.take k).flatten.map Value.string)) (fun _ u6 _ _ => l.length - (intOf u6).toNat)
  case atStart => exact ⟨0, Nat.zero_le _, rfl, Below.refl _ _, World.ownsRow_nil _ _ _ _⟩
  case round =>
  obtain ⟨k, hk, rfl, hb, ho⟩ := hrel
  have HBk := Lib.hid hb
  have HOk := Lib.hid ho
  clear hb ho
  by_cases hlt : k < l.length
  case neg =>
    obtain rfl : k = l.length := by omega
    have ho := HOk.out
    rw [List.take_of_length_le (by rw [HLN.out]; exact Nat.le_refl _)] at ho
    obtain ⟨A5, c5, rfl, -, -, -⟩ := Rd.of_own ho
    have HO := Lib.hid ho
    clear ho
    go_wp2_with fail
    refine (HLV.out wr HBk.out).mono ?_
    rintro e w1 ⟨v1, rfl, ho1, hb1⟩
    obtain ⟨A1, c1, rfl, hc1, -, hr1⟩ := Rd.of_own ho1
    have HB1 := Lib.hid (below_trans HBk.out hb1)
    have HO1 := Lib.hid (row_below HO.out hb1)
    have HR1 : Hid (Strs w1 A1 R) := Lib.hid (by unfold Strs; rw [HRL.out]; exact hr1)
    clear ho1 hb1 hr1
    go_wp2_with fail
    refine (HTX.out w1 A1 c1 hc1 HR1.out).mono ?_
    rintro e w2 ⟨v2, rfl, ho2, hb2⟩
    obtain ⟨A2, c2, rfl, -, -, hr2⟩ := Rd.of_own ho2
    have HB2 := Lib.hid (below_trans HB1.out hb2)
    have HO2 := Lib.hid (row_below HO1.out hb2)
    have HR2 := Lib.hid hr2
    clear ho2 hb2 hr2
    go_wp2_with (at_builtin; refine wpList_app _ rfl (.tmp 41) (.tmp 45) 30 30 rfl w.heap.size 9 9 i0 _ 1 16 Tryz.underlying30 Tryz.underlying30 HI.out.1 HI.out.2.1 HI.out.2.2.1 HI.out.2.2.2 rfl (by omega) _ (3 * l.length) _ rfl HO2.out A2 X.length c2 (X.map Value.string) rfl HR2.out (by intro u hu; obtain ⟨t, _, rfl⟩ := List.mem_map.1 hu; rfl) (by have := HXL.out; simp only [maxLen]; omega) (by have := HXL.out; omega) HB2.out.size ?_)
    intro v3 w3 hown hg
    have HB3 : Hid (Below w.heap.size w w3) := Lib.hid (HB2.out.grown hg HB2.out.size (fun j hj => (HO2.out.lt j hj).1))
    rw [← List.map_flatten, ← List.map_append, ← HEQ.out] at hown
    have hlen : 3 * l.length + X.length = TT.length := by have := hown.1; rw [List.length_map] at this; omega
    rw [hlen] at hown
    have HO3 := Lib.hid hown
    clear hown hg hlen
    go_wp2
    go_ret
    exact ⟨_, rfl, HO3.out, HB3.out⟩
  case pos =>
  obtain ⟨x, hx⟩ := get_some l k hlt
  have hxr := HV.out k x hx
  obtain ⟨X', rfl⟩ : ∃ X : Nat, x = X := ⟨x.toNat, by omega⟩
  have hX := HLT.out k X' hx
  obtain ⟨bA, oA, hAe, -⟩ := (HA.out w (Below.refl _ _)).at_ hx
  subst hAe
  have HC : Hid (∀ W, Below w.heap.size w W → W.cell? ⟨bA, oA + k, none⟩ = some (.int .i64 (X' : Int))) := Lib.hid (fun W hW => by
    obtain ⟨b, off, he, hc⟩ := (HA.out W hW).at_ hx
    cases he
    exact hc)
  clear hx
  have HSA := Lib.hid (fun (W : World) => rsalted_any salt k W hs (by omega))
  have HSM := Lib.hid (fun (W : World) => rsum (ktT salt k) (by have := ktT_size salt k (by omega) (by omega); omega) W)
  have HSD := Lib.hid (fun (W : World) => rseeded_any k X' (kslt salt k) W (by omega) (by omega) (by rw [kslt_size]; omega))
  have HSM2 := Lib.hid (fun (W : World) => rsum (ksT k X' (kslt salt k)) (by have := ksT_size k X' (kslt salt k) (by omega) (by omega) (by rw [kslt_size]; omega); omega) W)
  have HJ := Lib.hid (fun (W : World) => rjoined (some ⟨W.heap.size, 0, none⟩) 2 [bLeaf, dg (ksT k X' (kslt salt k))] (W.alloc (.cells #[.string bLeaf, .string (dg (ksT k X' (kslt salt k)))] 9)) (Strs_new _ _ _ _ _ rfl rfl) (by simp) (by
    intro s h
    simp only [List.mem_cons, List.not_mem_nil, or_false] at h
    rcases h with rfl | rfl
    · decide
    · rw [dg_size]; omega))
  rw [show dg (ktT salt k) = kslt salt k from rfl] at HSM
  rw [show (⟨(jn [bLeaf, dg (ksT k X' (kslt salt k))]).toArray⟩ : ByteArray) = jb [bLeaf, dg (ksT k X' (kslt salt k))] from rfl] at HJ
  unfold ks3 at hX
  rw [Int.toNat_natCast] at hX
  have HX := Lib.hid hX
  clear hX
  generalize jb [bLeaf, dg (ksT k X' (kslt salt k))] = J at *
  unfold bLeaf at HJ
  generalize dg (ksT k X' (kslt salt k)) = D at *
  generalize ksT k X' (kslt salt k) = S1 at *
  generalize kslt salt k = ks at *
  generalize ktT salt k = T at *
  have hki : (k : Int) < (l.length : Int) := by omega
  go_wp2_with fail
  refine (HSA.out wr).mono ?_
  rintro e w0 ⟨rfl, hb⟩
  have HB0 := Lib.hid (below_trans HBk.out hb)
  have HO0 := Lib.hid (row_below HOk.out hb)
  clear hb
  go_wp2_with fail
  refine (HSM.out w0).mono ?_
  rintro e w0' ⟨rfl, rfl⟩
  go_wp2_with fail
  refine wp_region_held_drew (S := fun W => Below w.heap.size w W) (by kernel_rfl) (HB0.out.drew) (fun hS0 => ?_)
  refine wpAnyH_take (i := 0) (v := ?_) rfl (by kernel_rfl) (by kernel_rfl) (by kernel_rfl) (fun _ _ _ h => h) (Or.inl ⟨by kernel_rfl, ?hy⟩) hS0 ?rest
  case hy => (intro W hSw; clear hSw; go_simp; with_reducible rfl)
  case rest =>
  refine wpAnyH_take (i := 1) (v := ?_) rfl (by kernel_rfl) (by kernel_rfl) (by kernel_rfl) (fun _ _ _ h => h) (Or.inl ⟨by kernel_rfl, ?hy⟩) hS0 ?rest
  case hy => (intro W hSw; clear hSw; go_simp; with_reducible rfl)
  case rest =>
  refine wpAnyH_take (i := 2) (v := ?_) rfl (by kernel_rfl) (by kernel_rfl) (by kernel_rfl) (fun _ _ _ h => h) (Or.inl ⟨by kernel_rfl, ?hy⟩) hS0 ?rest
  case hy => (intro W hSw; clear hSw; go_simp; with_reducible rfl)
  case rest =>
  refine wpAnyH_take (i := 4) (v := ?_) rfl (by kernel_rfl) (by kernel_rfl) (by kernel_rfl) (fun _ _ _ h => h) (Or.inl ⟨by kernel_rfl, ?hy⟩) hS0 ?rest
  case hy => (intro W hSw; clear hSw; go_simp; with_reducible rfl)
  case rest =>
  refine wpAnyH_take (i := 5) (v := ?_) rfl (by kernel_rfl) (by kernel_rfl) (by kernel_rfl) (fun _ _ _ h => h) (Or.inl ⟨by kernel_rfl, ?hy⟩) hS0 ?rest
  case hy => (intro W hSw; clear hSw; go_simp; with_reducible rfl)
  case rest =>
  refine wpAnyH_take (i := 6) (v := ?_) rfl (by kernel_rfl) (by kernel_rfl) (by kernel_rfl) (fun _ _ _ h => h) (Or.inl ⟨by kernel_rfl, ?hy⟩) hS0 ?rest
  case hy => (intro W hSw; clear hSw; go_simp; with_reducible rfl)
  case rest =>
  try go_simp
  refine wpAnyH_take (i := 7) (v := ?_) rfl (by kernel_rfl) (by kernel_rfl) (by kernel_rfl) (fun _ _ _ h => h) (Or.inl ⟨by kernel_rfl, ?hy⟩) hS0 ?rest
  case hy => (intro W hSw; clear hSw; go_simp; with_reducible rfl)
  case rest =>
  refine wpAnyH_take (i := 8) (v := ?_) rfl (by kernel_rfl) (by kernel_rfl) (by kernel_rfl) (fun _ _ _ h => h) (Or.inl ⟨by kernel_rfl, ?hy⟩) hS0 ?rest
  case hy => (intro W hSw; have c0 := HC.out W hSw; have cl := lt_of_cell c0; clear hSw; go_simp; with_reducible rfl)
  case rest =>
  refine wpAnyH_take (i := 9) (v := ?_) rfl (by kernel_rfl) (by kernel_rfl) (by kernel_rfl) (fun _ _ _ h => h) (Or.inl ⟨by kernel_rfl, ?hy⟩) hS0 ?rest
  case hy => (intro W hSw; clear hSw; go_simp; with_reducible rfl)
  case rest =>
  refine wpAnyH_take (i := 11) (v := ?_) rfl (by kernel_rfl) (by kernel_rfl) (by kernel_rfl) (fun _ _ _ h => h) (Or.inl ⟨by kernel_rfl, ?hy⟩) hS0 ?rest
  case hy => (intro W hSw; clear hSw; go_simp; with_reducible rfl)
  case rest =>
  refine wpAnyH_take (i := 12) (v := ?_) rfl (by kernel_rfl) (by kernel_rfl) (by kernel_rfl) (fun _ _ _ h => h) (Or.inl ⟨by kernel_rfl, ?hy⟩) hS0 ?rest
  case hy => (intro W hSw; clear hSw; go_simp; with_reducible rfl)
  case rest =>
  refine wpAnyH_take (i := 13) (v := ?_) rfl (by kernel_rfl) (by kernel_rfl) (by kernel_rfl) (fun _ _ _ h => h) (Or.inl ⟨by kernel_rfl, ?hy⟩) hS0 ?rest
  case hy => (intro W hSw; clear hSw; go_simp; with_reducible rfl)
  case rest =>
  try go_simp
  refine wpAnyH_take (i := 14) (v := ?_) rfl (by kernel_rfl) (by kernel_rfl) (by kernel_rfl) (fun _ _ _ h => h) (Or.inl ⟨by kernel_rfl, ?hy⟩) hS0 ?rest
  case hy => (intro W hSw; clear hSw; go_simp; with_reducible rfl)
  case rest =>
  refine wpAnyH_take (i := 15) (v := ?_) rfl (by kernel_rfl) (by kernel_rfl) (by kernel_rfl) (fun _ _ _ h => h) (Or.inl ⟨by kernel_rfl, ?hy⟩) hS0 ?rest
  case hy => (intro W hSw; have c0 := HC.out W hSw; have cl := lt_of_cell c0; clear hSw; go_simp; with_reducible rfl)
  case rest =>
  refine wpAnyH_take (i := 16) (v := ?_) rfl (by kernel_rfl) (by kernel_rfl) (by kernel_rfl) (fun _ _ _ h => h) (Or.inl ⟨by kernel_rfl, ?hy⟩) hS0 ?rest
  case hy => (intro W hSw; clear hSw; go_simp; with_reducible rfl)
  case rest =>
  refine wpAnyH_ready (rs := [3]) (by kernel_rfl) (by simp) ?_
  refine AllReadyH.cons rfl (fun K hK => ?_) (AllReadyH.nil)
  go_simp
  refine (HSA.out _).mono ?_
  rintro e w1 ⟨rfl, hb⟩
  have HB1 := Lib.hid (below_trans (Below.refl w0.heap.size w0).drew hb)
  have HW1 := Lib.hid (below_trans HB0.out HB1.out)
  clear hb
  go_simp
  refine hK.out _ _ HW1.out (fun hS1 => ?_)
  clear hK K
  refine wpAnyH_ready (rs := [10]) (by kernel_rfl) (by simp) ?_
  refine AllReadyH.cons rfl (fun K hK => ?_) (AllReadyH.nil)
  go_simp
  refine (HSD.out w1).mono ?_
  rintro e w2 ⟨rfl, hb⟩
  have HB2 := Lib.hid (below_trans HB1.out hb)
  have HW2 := Lib.hid (below_trans HB0.out HB2.out)
  clear hb
  go_simp
  refine hK.out _ _ HW2.out (fun hS2 => ?_)
  clear hK K
  refine wpAnyH_ready (rs := [17]) (by kernel_rfl) (by simp) ?_
  refine AllReadyH.cons rfl (fun K hK => ?_) (AllReadyH.nil)
  go_simp
  refine (HSD.out w2).mono ?_
  rintro e w3 ⟨rfl, hb⟩
  have HB3 := Lib.hid (below_trans HB2.out hb)
  have HW3 := Lib.hid (below_trans HB0.out HB3.out)
  clear hb
  go_simp
  refine hK.out _ _ HW3.out (fun hS3 => ?_)
  clear hK K
  refine wpAnyH_ready (rs := [18]) (by kernel_rfl) (by simp) ?_
  refine AllReadyH.cons rfl (fun K hK => ?_) (AllReadyH.nil)
  go_simp
  refine (HSM2.out w3).mono ?_
  rintro e w4 ⟨rfl, rfl⟩

  go_simp
  refine hK.out _ _ HW3.out (fun hS4 => ?_)
  clear hK K
  refine wpAnyH_ready (rs := [19]) (by kernel_rfl) (by simp) ?_
  refine AllReadyH.cons rfl (fun K hK => ?_) (AllReadyH.nil)
  go_simp
  refine hK.out _ _ (below_alloc HW3.out _) (fun hS5 => ?_)
  clear hK K
  refine wpAnyH_ready (rs := [20]) (by kernel_rfl) (by simp) ?_
  refine AllReadyH.cons rfl (fun K hK => ?_) (AllReadyH.nil)
  go_simp
  refine (HJ.out w3).mono ?_
  rintro e w4 ⟨rfl, hb⟩
  have HB4 := Lib.hid (below_trans (below_alloc HB3.out _) hb)
  have HW4 := Lib.hid (below_trans HB0.out HB4.out)
  clear hb
  go_simp
  refine hK.out _ _ HW4.out (fun hS6 => ?_)
  clear hK K
  refine wpAnyH_ready (rs := [21]) (by kernel_rfl) (by simp) ?_
  refine AllReadyH.cons rfl (fun K hK => ?_) (AllReadyH.nil)
  go_simp
  refine hK.out _ _ (below_alloc HW4.out _) (fun hS7 => ?_)
  clear hK K
  refine wpAnyH_ready (rs := [22]) (by kernel_rfl) (by simp) ?_
  refine AllReadyH.cons rfl (fun K hK => ?_) (AllReadyH.nil)
  refine step_appT (w4.alloc (.cells #[.string T, .string S1, .string J] 9)) (by kernel_rfl) (.tmp 18) (.tmp 39) 30 30 rfl w.heap.size 9 9 i0 _ 1 16 Tryz.underlying30 Tryz.underlying30 HI.out.1 HI.out.2.1 HI.out.2.2.1 HI.out.2.2.2 rfl (by omega) u5 (3 * k) _ (by kernel_rfl) ((row_below HO0.out HB4.out).alloc _) (some ⟨w4.heap.size, 0, none⟩) 3 3 [.string T, .string S1, .string J] (by kernel_rfl) (Rd_new w4 #[.string T, .string S1, .string J] _ 1 3 _ rfl rfl) (by simp [Value.oneCell']) (by simp only [maxLen]; omega) (by omega) (by have := HW4.out.size; simp; omega) ?_
  intro v5 w5 hown hg
  have HBF : Hid (Below w.heap.size w w5) := Lib.hid ((below_alloc HW4.out _).grown hg (by have := HW4.out.size; simp; omega) (fun j hj => (HOk.out.lt j hj).1))
  have e3 : (M.take k).flatten.map Value.string ++ [.string T, .string S1, .string J] = (M.take (k + 1)).flatten.map Value.string := by rw [HX.out, List.flatten_append, List.map_append]; rfl
  rw [e3, show 3 * k + 3 = 3 * (k + 1) by omega] at hown
  have HOF := Lib.hid hown
  clear hown hg e3
  refine hK.out _ _ HBF.out (fun hS8 => ?_)
  clear hK K
  refine wpAnyH_take (i := 23) (v := ?_) rfl (by kernel_rfl) (by kernel_rfl) (by kernel_rfl) (fun _ _ _ h => h) (Or.inl ⟨by kernel_rfl, ?hy⟩) hS8 ?rest
  case hy => (intro W hSw; clear hSw; go_simp; with_reducible rfl)
  case rest =>
  refine wpAnyH_done (by kernel_rfl) ?_ _
  go_wp2
  go_roundw
  case rel => exact ⟨k + 1, by omega, by go_num, HBF.out, HOF.out⟩
  case measure => simp [intOf]; omega
set_option maxHeartbeats 8000000 in
theorem rotexts_any (n i v : Nat) (s : ByteArray) (A : Option Addr) (c : Nat) (p : List ByteArray) (w : World) (hn : n ≤ 600) (hi : i < n) (hv : v ≤ 719) (hs : s.size ≤ 200) (hp : Strs w A p) (hl : p.length = plen n i) (hc : p.length ≤ c) (hsm : sm p) :
    Calls Tryz.prog 32 #[.int .i64 n, .agg #[.int .i64 i, .int .i64 v, .string s, .slice A p.length c]] w fun e w' => ∃ u, e = .returned u ∧ w'.ownsRow w.heap.size 9 1 u (koTx n i v s p).length ((koTx n i v s p).map Value.string) ∧ Below w.heap.size w w' := by
  have hpl : p.length ≤ 600 := by rw [hl]; have := plen_lt_n n i (by omega); omega
  obtain ⟨w0, hw0⟩ : ∃ w0, w.alloc (.cells #[.int .i64 i, .int .i64 v, .string s, .slice A p.length c] 32) = w0 := ⟨_, rfl⟩
  have HB0 : Hid (Below w.heap.size w w0) := Lib.hid (by rw [← hw0]; exact below_alloc (Below.refl _ _) _)
  have HK : Hid (∀ W, Below w0.heap.size w0 W → W.cell? ⟨w.heap.size, 0, none⟩ = some (.int .i64 i) ∧ W.cell? ⟨w.heap.size, 1, none⟩ = some (.int .i64 v) ∧ W.cell? ⟨w.heap.size, 2, none⟩ = some (.string s) ∧ W.cell? ⟨w.heap.size, 3, none⟩ = some (.slice A p.length c)) := Lib.hid (fun W hW => by
    have hb : Blk w0 w.heap.size 32 #[.int .i64 i, .int .i64 v, .string s, .slice A p.length c] := by rw [← hw0]; exact Blk.new w _ _ _ rfl
    exact ⟨kept_cell hW (hb.of_cell (i := 0) rfl), kept_cell hW (hb.of_cell (i := 1) rfl), kept_cell hW (hb.of_cell (i := 2) rfl), kept_cell hW (hb.of_cell (i := 3) rfl)⟩)
  have HSD := Lib.hid (fun (W : World) => rseeded_any i v s W (by omega) (by omega) hs)
  have HSM := Lib.hid (fun (W : World) => rsum (ksT i v s) (by have := ksT_size i v s (by omega) (by omega) (by omega); omega) W)
  have HJ := Lib.hid (fun (W : World) => rjoined (some ⟨W.heap.size, 0, none⟩) 2 [bLeaf, dg (ksT i v s)] (W.alloc (.cells #[.string bLeaf, .string (dg (ksT i v s))] 9)) (Strs_new _ _ _ _ _ rfl rfl) (by simp) (by
    intro s h
    simp only [List.mem_cons, List.not_mem_nil, or_false] at h
    rcases h with rfl | rfl
    · decide
    · rw [dg_size]; omega))
  rw [show (⟨(jn [bLeaf, dg (ksT i v s)]).toArray⟩ : ByteArray) = jb [bLeaf, dg (ksT i v s)] from rfl] at HJ
  have HSL := Lib.hid (fun (W : World) => rsleaf_any i v s W (by omega) (by omega) hs)
  have HPX : Hid (∀ W, Below w.heap.size w W → Calls Tryz.prog 74 #[.int .i64 n, .int .i64 i, .string (ksLf i v s), .slice A p.length c] W fun e w' => ∃ u, e = .returned u ∧ w'.ownsRow W.heap.size 9 1 u (ptx n i (ksLf i v s) p).length ((ptx n i (ksLf i v s) p).map Value.string) ∧ Below W.heap.size W w') := Lib.hid (fun W hW => rptx_any n n i (ksLf i v s) A c p W (Nat.le_refl _) (by omega) (by omega) hi hl hc (hp.below hW) hsm (by have := isD_16 (ksLf_D i v s); omega))
  have HXL : Hid ((ptx n i (ksLf i v s) p).length ≤ 600) := Lib.hid (by rw [ptx_len, ← hl]; exact hpl)
  have HEQ : Hid (koTx n i v s p = [ksT i v s, jb [bLeaf, dg (ksT i v s)]] ++ ptx n i (ksLf i v s) p) := Lib.hid rfl
  obtain ⟨i0, hi0, hz0, hz1, hz2⟩ := info_parts info_strg
  have HI := Lib.hid (And.intro hi0 (And.intro hz0 (And.intro hz1 hz2)))
  generalize koTx n i v s p = TT at *
  generalize ptx n i (ksLf i v s) p = X at *
  generalize ksLf i v s = lfv at *
  generalize jb [bLeaf, dg (ksT i v s)] = J at *
  unfold bLeaf at HJ
  generalize dg (ksT i v s) = D at *
  generalize ksT i v s = S1 at *
  have HW0 := Lib.hid hw0
  clear hp hl hsm hi0 hz0 hz1 hz2 hw0
  obtain ⟨z0, z1, z2, z3⟩ := HK.out w0 (Below.refl _ _)
  have zl := lt_of_cell z0
  go_enter Tryz.func32, Tryz.ntmps32
  go_wp2_with fail
  try rw [HW0.out]
  go_wp2_with fail
  refine (HSD.out w0).mono ?_
  rintro e w1 ⟨rfl, hb⟩
  have HB1 := Lib.hid hb
  clear hb z0 z1 z2 z3 zl
  go_wp2_with fail
  refine (HSM.out w1).mono ?_
  rintro e w1' ⟨rfl, rfl⟩
  go_wp2_with fail
  refine (HJ.out w1).mono ?_
  rintro e w2 ⟨rfl, hb⟩
  have HB2 := Lib.hid (below_trans HB1.out (below_trans (below_alloc (Below.refl _ _) _) hb))
  clear hb
  obtain ⟨w3, hw3⟩ : ∃ w3, w2.alloc (.cells #[.string S1, .string J] 9) = w3 := ⟨_, rfl⟩
  have HO3 : Hid (w3.ownsRow w2.heap.size 9 1 (.slice (some ⟨w2.heap.size, 0, none⟩) 2 2) 2 [.string S1, .string J]) := Lib.hid (by rw [← hw3]; exact own_lit w2 #[.string S1, .string J] _ 1 2 rfl (by decide))
  have HB3 : Hid (Below w0.heap.size w0 w3) := Lib.hid (by rw [← hw3]; exact below_alloc HB2.out _)
  have HW3 : Hid (w2.alloc (.cells #[.string S1, .string J] 9) = w3) := Lib.hid hw3
  clear hw3
  go_wp2_with fail
  try rw [HW3.out]
  refine wp_region_held_drew (S := fun W => Below w0.heap.size w0 W) (by kernel_rfl) (HB3.out.drew) (fun hS0 => ?_)
  refine wpAnyH_take (i := 0) (v := ?_) rfl (by kernel_rfl) (by kernel_rfl) (by kernel_rfl) (fun _ _ _ h => h) (Or.inl ⟨by kernel_rfl, ?hy⟩) hS0 ?rest
  case hy => (intro W hSw; clear hSw; go_simp; with_reducible rfl)
  case rest =>
  refine wpAnyH_take (i := 1) (v := ?_) rfl (by kernel_rfl) (by kernel_rfl) (by kernel_rfl) (fun _ _ _ h => h) (Or.inl ⟨by kernel_rfl, ?hy⟩) hS0 ?rest
  case hy => (intro W hSw; clear hSw; go_simp; with_reducible rfl)
  case rest =>
  refine wpAnyH_take (i := 2) (v := ?_) rfl (by kernel_rfl) (by kernel_rfl) (by kernel_rfl) (fun _ _ _ h => h) (Or.inl ⟨by kernel_rfl, ?hy⟩) hS0 ?rest
  case hy => (intro W hSw; clear hSw; go_simp; with_reducible rfl)
  case rest =>
  refine wpAnyH_take (i := 3) (v := ?_) rfl (by kernel_rfl) (by kernel_rfl) (by kernel_rfl) (fun _ _ _ h => h) (Or.inl ⟨by kernel_rfl, ?hy⟩) hS0 ?rest
  case hy => (intro W hSw; obtain ⟨z0, z1, z2, z3⟩ := HK.out W hSw; have zl := lt_of_cell z0; clear hSw; go_simp; with_reducible rfl)
  case rest =>
  refine wpAnyH_take (i := 4) (v := ?_) rfl (by kernel_rfl) (by kernel_rfl) (by kernel_rfl) (fun _ _ _ h => h) (Or.inl ⟨by kernel_rfl, ?hy⟩) hS0 ?rest
  case hy => (intro W hSw; clear hSw; go_simp; with_reducible rfl)
  case rest =>
  refine wpAnyH_take (i := 5) (v := ?_) rfl (by kernel_rfl) (by kernel_rfl) (by kernel_rfl) (fun _ _ _ h => h) (Or.inl ⟨by kernel_rfl, ?hy⟩) hS0 ?rest
  case hy => (intro W hSw; obtain ⟨z0, z1, z2, z3⟩ := HK.out W hSw; have zl := lt_of_cell z0; clear hSw; go_simp; with_reducible rfl)
  case rest =>
  try go_simp
  refine wpAnyH_take (i := 6) (v := ?_) rfl (by kernel_rfl) (by kernel_rfl) (by kernel_rfl) (fun _ _ _ h => h) (Or.inl ⟨by kernel_rfl, ?hy⟩) hS0 ?rest
  case hy => (intro W hSw; clear hSw; go_simp; with_reducible rfl)
  case rest =>
  refine wpAnyH_take (i := 7) (v := ?_) rfl (by kernel_rfl) (by kernel_rfl) (by kernel_rfl) (fun _ _ _ h => h) (Or.inl ⟨by kernel_rfl, ?hy⟩) hS0 ?rest
  case hy => (intro W hSw; obtain ⟨z0, z1, z2, z3⟩ := HK.out W hSw; have zl := lt_of_cell z0; clear hSw; go_simp; with_reducible rfl)
  case rest =>
  refine wpAnyH_take (i := 8) (v := ?_) rfl (by kernel_rfl) (by kernel_rfl) (by kernel_rfl) (fun _ _ _ h => h) (Or.inl ⟨by kernel_rfl, ?hy⟩) hS0 ?rest
  case hy => (intro W hSw; clear hSw; go_simp; with_reducible rfl)
  case rest =>
  refine wpAnyH_take (i := 9) (v := ?_) rfl (by kernel_rfl) (by kernel_rfl) (by kernel_rfl) (fun _ _ _ h => h) (Or.inl ⟨by kernel_rfl, ?hy⟩) hS0 ?rest
  case hy => (intro W hSw; obtain ⟨z0, z1, z2, z3⟩ := HK.out W hSw; have zl := lt_of_cell z0; clear hSw; go_simp; with_reducible rfl)
  case rest =>
  refine wpAnyH_take (i := 11) (v := ?_) rfl (by kernel_rfl) (by kernel_rfl) (by kernel_rfl) (fun _ _ _ h => h) (Or.inl ⟨by kernel_rfl, ?hy⟩) hS0 ?rest
  case hy => (intro W hSw; clear hSw; go_simp; with_reducible rfl)
  case rest =>
  refine wpAnyH_take (i := 12) (v := ?_) rfl (by kernel_rfl) (by kernel_rfl) (by kernel_rfl) (fun _ _ _ h => h) (Or.inl ⟨by kernel_rfl, ?hy⟩) hS0 ?rest
  case hy => (intro W hSw; obtain ⟨z0, z1, z2, z3⟩ := HK.out W hSw; have zl := lt_of_cell z0; clear hSw; go_simp; with_reducible rfl)
  case rest =>
  try go_simp
  refine wpAnyH_ready (rs := [10]) (by kernel_rfl) (by simp) ?_
  refine AllReadyH.cons rfl (fun K hK => ?_) (AllReadyH.nil)
  go_simp
  refine (HSL.out _).mono ?_
  rintro e w4 ⟨rfl, hb⟩
  have HB4 := Lib.hid (below_trans (Below.refl w3.heap.size w3).drew hb)
  have HW4 := Lib.hid (below_trans HB3.out HB4.out)
  clear hb
  go_simp
  refine hK.out _ _ HW4.out (fun hS1 => ?_)
  clear hK K
  refine wpAnyH_ready (rs := [13]) (by kernel_rfl) (by simp) ?_
  refine AllReadyH.cons rfl (fun K hK => ?_) (AllReadyH.nil)
  go_simp
  refine (HPX.out w4 (below_trans HB0.out HW4.out)).mono ?_
  rintro e w5 ⟨u5, rfl, ho, hb⟩
  have HB5 := Lib.hid (below_trans HB4.out hb)
  have HW5 := Lib.hid (below_trans HB3.out HB5.out)
  obtain ⟨A5, c5, rfl, -, -, hr5⟩ := Rd.of_own ho
  have HR5 := Lib.hid hr5
  clear hb ho hr5
  go_simp
  refine hK.out _ _ HW5.out (fun hS2 => ?_)
  clear hK K
  refine wpAnyH_ready (rs := [14]) (by kernel_rfl) (by simp) ?_
  refine AllReadyH.cons rfl (fun K hK => ?_) (AllReadyH.nil)
  refine step_appT w5 (by kernel_rfl) (.tmp 20) (.tmp 33) 30 30 rfl w2.heap.size 9 9 i0 _ 1 16 Tryz.underlying30 Tryz.underlying30 HI.out.1 HI.out.2.1 HI.out.2.2.1 HI.out.2.2.2 rfl (by omega) (.slice (some ⟨w2.heap.size, 0, none⟩) 2 2) 2 _ (by kernel_rfl) (row_below HO3.out HB5.out) A5 X.length c5 (X.map Value.string) (by kernel_rfl) HR5.out (by intro u hu; obtain ⟨t, _, rfl⟩ := List.mem_map.1 hu; rfl) (by have := HXL.out; simp only [maxLen]; omega) (by have := HXL.out; omega) (Nat.le_trans (by have := HB2.out.size; have := HB3.out.size; have h3 := (row_below HO3.out HB5.out).lt w2.heap.size rfl; omega) (Nat.le_refl w5.heap.size)) ?_
  intro v6 w6 hown hg
  have h23 : w0.heap.size ≤ w2.heap.size := HB2.out.size
  have HB6 : Hid (Below w0.heap.size w0 w6) := Lib.hid (HW5.out.grown hg HW5.out.size (fun j hj => Nat.le_trans h23 ((row_below HO3.out HB5.out).lt j hj).1))
  have HBF := Lib.hid (below_trans HB0.out HB6.out)
  have e3 : [.string S1, .string J] ++ X.map Value.string = TT.map Value.string := by rw [HEQ.out, List.map_append]; rfl
  rw [e3] at hown
  have hlen : 2 + X.length = TT.length := by rw [HEQ.out]; simp; omega
  rw [hlen] at hown
  have HOF : Hid (w6.ownsRow w.heap.size 9 1 v6 TT.length (TT.map Value.string)) := Lib.hid (row_mono hown (Nat.le_trans HB0.out.size h23))
  clear hown hg e3 hlen h23
  refine hK.out _ _ HB6.out (fun hS3 => ?_)
  clear hK K
  refine wpAnyH_take (i := 15) (v := ?_) rfl (by kernel_rfl) (by kernel_rfl) (by kernel_rfl) (fun _ _ _ h => h) (Or.inl ⟨by kernel_rfl, ?hy⟩) hS3 ?rest
  case hy => (intro W hSw; clear hSw; go_simp; with_reducible rfl)
  case rest =>
  refine wpAnyH_done (by kernel_rfl) ?_ _
  go_wp2
  go_ret
  exact ⟨_, rfl, HOF.out, HBF.out⟩
end

section
open Go.RowKit
def shO (o : Og) : Bool := decide (o.p.length ≤ 12 ∧ o.salt.size ≤ 100) && fewB o.p 100
def shP (k : Kp) : Bool := decide (k.p.length ≤ 12) && fewB k.p 100
def shW (a : Kw) : Bool := decide (a.l.length ≤ 12) && a.l.all shP
def shB (os : List Og) (ks : List Kw) : Bool := decide (os.length ≤ 9 ∧ ks.length ≤ 9) && os.all shO && ks.all shW
set_option maxRecDepth 100000 in
set_option maxHeartbeats 8000000 in
theorem rshort_any (OA : Option Addr) (oc : Nat) (os : List Og) (KA : Option Addr) (kc : Nat) (ks : List Kw) (w : World) (hO : RowOf ogC 4 w OA os) (hK : RowOf kwC 1 w KA ks) (hOI : ∀ o, o ∈ os → OgIn w o) (hKI : ∀ k, k ∈ ks → KwIn w k) (hol : os.length ≤ 9223372036854775807) (hkl : ks.length ≤ 9223372036854775807) :
    Calls Tryz.prog 24 #[.slice OA os.length oc, .slice KA ks.length kc] w fun e w' => e = .returned (.bool (shB os ks)) ∧ w = w' := by
  by_cases hl : os.length ≤ 9 ∧ ks.length ≤ 9
  case neg =>
    have hb : shB os ks = false := by unfold shB; rw [decide_eq_false hl]; rfl
    rw [hb]
    clear hb hO hK hOI hKI
    by_cases h9 : os.length ≤ 9
    · have : ¬ ks.length ≤ 9 := fun h => hl ⟨h9, h⟩
      clear hl
      go_enter Tryz.func24, Tryz.ntmps24
      go_wp2
      go_ret
      exact ⟨rfl, rfl⟩
    · clear hl
      go_enter Tryz.func24, Tryz.ntmps24
      go_wp2
      go_ret
      exact ⟨rfl, rfl⟩
  case pos =>
  obtain ⟨hl1, hl2⟩ := hl
  have HO : Hid (RowOf ogC 4 w OA os) := Lib.hid hO
  have HK : Hid (RowOf kwC 1 w KA ks) := Lib.hid hK
  have HOI := Lib.hid hOI
  have HKI := Lib.hid hKI
  have hsb : shB os ks = (os.all shO && ks.all shW) := by unfold shB; rw [decide_eq_true ⟨hl1, hl2⟩, Bool.true_and]
  rw [hsb]
  have HFA : Hid (∀ (k : Nat) (x : Og), os[k]? = some x → shO x = false → (os.all shO && ks.all shW) = false) := Lib.hid (fun k x hx h => by rw [all_false_of shO os k x hx h, Bool.false_and])
  have HFB : Hid (∀ (k : Nat) (x : Kw), ks[k]? = some x → shW x = false → (os.all shO && ks.all shW) = false) := Lib.hid (fun k x hx h => by rw [all_false_of shW ks k x hx h, Bool.and_false])
  have HT : Hid (os.all shO = true → ks.all shW = true → (os.all shO && ks.all shW) = true) := Lib.hid (fun h1 h2 => by rw [h1, h2]; rfl)
  obtain ⟨R, hR⟩ : ∃ R, (os.all shO && ks.all shW) = R := ⟨_, rfl⟩
  rw [hR] at HFA HFB HT
  rw [hR]
  clear hsb hR hO hK hOI hKI
  go_enter Tryz.func24, Tryz.ntmps24
  go_wp2_with fail
  go_loopw [5] (fun u5 wr => ∃ k : Nat, k ≤ os.length ∧ u5 = .int .i64 k ∧ wr = w ∧ (os.take k).all shO = true) (fun u5 _ => os.length - (intOf u5).toNat)
  case atStart => exact ⟨0, Nat.zero_le _, rfl, rfl, rfl⟩
  case round =>
  obtain ⟨k, hk, rfl, rfl, hall⟩ := hrel
  by_cases hlt : k < os.length
  case pos =>
    obtain ⟨x, hx⟩ := get_some os k hlt
    have hxi := HOI.out x (List.mem_of_getElem? hx)
    obtain ⟨b, off, hOA, q0, q1, q2, q3⟩ := og_cells HO.out hx
    subst hOA
    have ql := lt_of_cell q0
    have hki : (k : Int) < (os.length : Int) := by omega
    have hpl := hxi.len
    have hsz := hxi.salt
    have HAT := Lib.hid (take_snoc os k x hx)
    have HALL := Lib.hid hall
    have HBAD := Lib.hid (HFA.out k x hx)
    have HFW := Lib.hid (few_any x.A x.c x.p 100 wr hxi.p hxi.len)
    clear hx hxi hall
    by_cases h12 : x.p.length ≤ 12
    case neg =>
      have hb := HBAD.out (by unfold shO; rw [decide_eq_false (fun h => h12 h.1)]; rfl)
      subst hb
      go_wp2
      go_ret
      exact ⟨rfl, rfl⟩
    case pos =>
    by_cases h100 : x.salt.size ≤ 100
    case neg =>
      have hb := HBAD.out (by unfold shO; rw [decide_eq_false (fun h => h100 h.2)]; rfl)
      subst hb
      go_wp2
      go_ret
      exact ⟨rfl, rfl⟩
    case pos =>
    have HE : Hid (shO x = fewB x.p 100) := Lib.hid (by unfold shO; rw [decide_eq_true ⟨h12, h100⟩, Bool.true_and])
    go_wp2_with fail
    refine HFW.out.mono ?_
    rintro e w1 ⟨rfl, rfl⟩
    obtain ⟨fb, hfb⟩ : ∃ b, fewB x.p 100 = b := ⟨_, rfl⟩
    rw [hfb]
    have HFB2 := Lib.hid (HE.out.trans hfb)
    clear hfb
    cases fb
    · have hb := HBAD.out HFB2.out
      subst hb
      go_wp2
      go_ret
      exact ⟨rfl, rfl⟩
    · go_wp2
      go_roundw
      case rel => exact ⟨k + 1, by omega, by go_num, by trivial, by rw [HAT.out, List.all_append, HALL.out, List.all_cons, HFB2.out]; rfl⟩
      case measure => simp [intOf]; omega
  case neg =>
  obtain rfl : k = os.length := by omega
  rw [List.take_of_length_le (Nat.le_refl _)] at hall
  have HALL := Lib.hid hall
  clear hall
  go_wp2_with fail
  go_loopw [6, 7] (fun u6 _ wr' => ∃ k : Nat, k ≤ ks.length ∧ u6 = .int .i64 k ∧ wr' = wr ∧ (ks.take k).all shW = true) (fun u6 _ _ => ks.length - (intOf u6).toNat)
  case atStart => exact ⟨0, Nat.zero_le _, rfl, rfl, rfl⟩
  case round =>
  obtain ⟨k, hk, rfl, rfl, hallk⟩ := hrel
  by_cases hlt : k < ks.length
  case neg =>
    obtain rfl : k = ks.length := by omega
    rw [List.take_of_length_le (Nat.le_refl _)] at hallk
    have hb := HT.out HALL.out hallk
    subst hb
    go_wp2
    go_ret
    exact ⟨rfl, rfl⟩
  case pos =>
  obtain ⟨a, ha⟩ := get_some ks k hlt
  have hai := HKI.out a (List.mem_of_getElem? ha)
  obtain ⟨b, off, hKA, q0⟩ := kw_cells HK.out ha
  subst hKA
  have ql := lt_of_cell q0
  have hki : (k : Int) < (ks.length : Int) := by omega
  have hal := hai.len
  have HAT := Lib.hid (take_snoc ks k a ha)
  have HALK := Lib.hid hallk
  have HBAD := Lib.hid (HFB.out k a ha)
  have HAI := Lib.hid hai
  clear ha hai hallk
  by_cases h12 : a.l.length ≤ 12
  case neg =>
    have hb := HBAD.out (by unfold shW; rw [decide_eq_false h12]; rfl)
    subst hb
    go_wp2
    go_ret
    exact ⟨rfl, rfl⟩
  case pos =>
  have HE : Hid (shW a = a.l.all shP) := Lib.hid (by unfold shW; rw [decide_eq_true h12, Bool.true_and])
  obtain ⟨AA, hAA⟩ : ∃ AA, a.A = AA := ⟨_, rfl⟩
  rw [hAA] at q0
  have HROW : Hid (RowOf kpC 4 wr AA a.l) := Lib.hid (by rw [← hAA]; exact HAI.out.row)
  obtain ⟨an, han⟩ : ∃ n, a.l.length = n := ⟨_, rfl⟩
  rw [han] at q0 hal h12
  have HAN := Lib.hid han
  clear hAA han
  go_wp2_with fail
  go_loopw [7] (fun u7 wq => ∃ j : Nat, j ≤ an ∧ u7 = .int .i64 j ∧ wq = wr ∧ (a.l.take j).all shP = true) (fun u7 _ => an - (intOf u7).toNat)
  case atStart => exact ⟨0, Nat.zero_le _, rfl, rfl, rfl⟩
  case round =>
  obtain ⟨j, hj, rfl, rfl, hallj⟩ := hrel
  by_cases hjt : j < an
  case neg =>
    obtain rfl : j = an := by omega
    rw [List.take_of_length_le (by rw [HAN.out]; exact Nat.le_refl _)] at hallj
    have HG : Hid (shW a = true) := Lib.hid (HE.out.trans hallj)
    clear hallj
    go_wp2
    go_roundw
    case rel => exact ⟨k + 1, by omega, by go_num, by trivial, by rw [HAT.out, List.all_append, HALK.out, List.all_cons, HG.out]; rfl⟩
    case measure => simp [intOf]; omega
  case pos =>
  obtain ⟨x, hx⟩ := get_some a.l j (by rw [HAN.out]; exact hjt)
  have hxi := HAI.out.each x (List.mem_of_getElem? hx)
  have HBADJ : Hid (shP x = false → R = false) := Lib.hid (fun h => HBAD.out (by rw [HE.out]; exact all_false_of shP a.l j x hx h))
  obtain ⟨b1, off1, hA1, hcc⟩ := HROW.out.at_ kpC_len hx
  subst hA1
  have p3 := hcc 3 _ rfl
  have pl := lt_of_cell p3
  have hji : (j : Int) < (an : Int) := by omega
  have hpl := hxi.len
  have HATJ := Lib.hid (take_snoc a.l j x hx)
  have HALJ := Lib.hid hallj
  have HFW := Lib.hid (few_any x.A x.c x.p 100 wr hxi.p hxi.len)
  clear hx hxi hallj hcc
  by_cases g12 : x.p.length ≤ 12
  case neg =>
    have hb := HBADJ.out (by unfold shP; rw [decide_eq_false g12]; rfl)
    subst hb
    go_wp2
    go_ret
    exact ⟨rfl, rfl⟩
  case pos =>
  have HEX : Hid (shP x = fewB x.p 100) := Lib.hid (by unfold shP; rw [decide_eq_true g12, Bool.true_and])
  go_wp2_with fail
  refine HFW.out.mono ?_
  rintro e w1 ⟨rfl, rfl⟩
  obtain ⟨fb, hfb⟩ : ∃ b, fewB x.p 100 = b := ⟨_, rfl⟩
  rw [hfb]
  have HF2 := Lib.hid (HEX.out.trans hfb)
  clear hfb
  cases fb
  · have hb := HBADJ.out HF2.out
    subst hb
    go_wp2
    go_ret
    exact ⟨rfl, rfl⟩
  · go_wp2
    go_roundw
    case rel => exact ⟨j + 1, by omega, by go_num, by trivial, by rw [HATJ.out, List.all_append, HALJ.out, List.all_cons, HF2.out]; rfl⟩
    case measure => simp [intOf]; omega
theorem OgC.val {v : Value} {w : World} {a : Og} (g : v = .agg v.cells) (h : OgC w v.cells.toList a) : v = .agg #[.int .i64 a.ix, .int .i64 a.v, .string a.salt, .slice a.A a.p.length a.c] := by
  have e : v.cells = (ogC a).toArray := by rw [← h.1]
  rw [g, e]; rfl
theorem KpC.val {v : Value} {w : World} {a : Kp} (g : v = .agg v.cells) (h : KpC w v.cells.toList a) : v = .agg #[.int .i64 a.ix, .int .i64 a.s.1, .int .i64 a.s.2, .slice a.A a.p.length a.c] := by
  have e : v.cells = (kpC a).toArray := by rw [← h.1]
  rw [g, e]; rfl
end

end Go.Proofs.YtjfondfjdhjooaaGreatDoor
