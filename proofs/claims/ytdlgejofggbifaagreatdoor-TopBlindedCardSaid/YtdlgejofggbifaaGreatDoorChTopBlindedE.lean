/- The examples of observatorylaw02.head: plain facts. The law SharesRecover: its walk. A share of a list is accepted at its place; what an accepted share says. The examples of observatorylaw52.head: plain facts; blinding and back. blinding: the vault. blinding: the vault's Open. Contracts of the helpers of observatorylaw07: element, made, chosen. Helpers of chapter 52's laws: same, path, made. observatorylaw52.head: the chapter's examples. A block of bools that the call made; a slice of bytes as an argument. -/
import Derived.Test.YtdlgejofggbifaaGreatDoorChTopBlindedD
import Derived.StillTailTactics
import Derived.Deep.RegionHeld3
namespace Go.Proofs.YtdlgejofggbifaaGreatDoor

section
open Go.RowKit

theorem hf3 : hf 3 = 2 := hf_eq 3 1 (.inl (by decide)) (by decide)
theorem hf2 : hf 2 = 1 := hf_eq 2 0 (.inr rfl) (by decide)
section
variable (a b c : ByteArray)
theorem rt2 : rt [a, b] = nd a b := by
  rw [rt_split [a, b] 1 (by simp) (by exact hf2)]
  simp only [List.take_succ_cons, List.take_zero, List.drop_succ_cons, List.drop_zero, rt_one]
theorem rt3 : rt [a, b, c] = nd (nd a b) c := by
  rw [rt_split [a, b, c] 2 (by simp) (by exact hf3)]
  simp only [List.take_succ_cons, List.take_zero, List.drop_succ_cons, List.drop_zero, rt_one, rt2]
theorem pt32 : pt [a, b, c] 2 = [nd a b] := by
  rw [pt_ge _ _ (by simp) (by show ¬ 2 < hf 3; rw [hf3]; omega)]
  show pt (List.drop (hf 3) [a, b, c]) (2 - hf 3) ++ [rt (List.take (hf 3) [a, b, c])] = _
  rw [hf3, pt_one _ _ (by simp)]
  simp only [List.take_succ_cons, List.take_zero, rt2, List.nil_append]
theorem pt20 : pt [a, b] 0 = [b] := by
  rw [pt_lt _ _ (by simp) (by show 0 < hf 2; rw [hf2]; omega)]
  show pt (List.take (hf 2) [a, b]) 0 ++ [rt (List.drop (hf 2) [a, b])] = _
  rw [hf2, pt_one _ _ (by simp)]
  simp only [List.drop_succ_cons, List.drop_zero, rt_one, List.nil_append]
theorem pt30 : pt [a, b, c] 0 = [b, c] := by
  rw [pt_lt _ _ (by simp) (by show 0 < hf 3; rw [hf3]; omega)]
  show pt (List.take (hf 3) [a, b, c]) 0 ++ [rt (List.drop (hf 3) [a, b, c])] = _
  rw [hf3]
  simp only [List.take_succ_cons, List.take_zero, List.drop_succ_cons, List.drop_zero, rt_one, pt20, List.cons_append, List.nil_append]
theorem lk32 : lk [a, b, c] 2 true = [c] := by
  rw [lk_le _ _ _ (by simp) (by simp) (by show 2 ≤ hf 3; rw [hf3]; omega)]
  show lk (List.take (hf 3) [a, b, c]) 2 true ++ [rt (List.drop (hf 3) [a, b, c])] = _
  rw [hf3, lk_end _ _ _ (by simp)]
  simp only [List.drop_succ_cons, List.drop_zero, rt_one, if_true, List.nil_append]
theorem lk21 : lk [a, b] 1 true = [b] := by
  rw [lk_le _ _ _ (by simp) (by simp) (by show 1 ≤ hf 2; rw [hf2]; omega)]
  show lk (List.take (hf 2) [a, b]) 1 true ++ [rt (List.drop (hf 2) [a, b])] = _
  rw [hf2, lk_end _ _ _ (by simp)]
  simp only [List.drop_succ_cons, List.drop_zero, rt_one, if_true, List.nil_append]
theorem lk31 : lk [a, b, c] 1 true = [b, c] := by
  rw [lk_le _ _ _ (by simp) (by simp) (by show 1 ≤ hf 3; rw [hf3]; omega)]
  show lk (List.take (hf 3) [a, b, c]) 1 true ++ [rt (List.drop (hf 3) [a, b, c])] = _
  rw [hf3]
  simp only [List.take_succ_cons, List.take_zero, List.drop_succ_cons, List.drop_zero, rt_one, lk21, List.cons_append, List.nil_append]
theorem up32 (s : ByteArray) : upv 3 2 s [nd a b] = nd (nd a b) s := by
  rw [upv_ge _ _ _ _ (by omega) (by rw [hf3]; omega), hf3, upv_one _ _ _ _ (by omega)]
  rfl
theorem pl32 : plen 3 2 = 1 := by
  rw [plen_ge _ _ (by omega) (by rw [hf3]; omega), hf3, plen_one _ _ (by omega)]
theorem bo31 (o : ByteArray) : bothv 3 1 true o [b, c] = (o, nd (nd o b) c) := by
  rw [bothv_le _ _ _ _ _ (by omega) (by omega) (by rw [hf3]; omega), hf3]
  show ((bothv 2 1 true o [b]).1, nd (bothv 2 1 true o [b]).2 c) = _
  rw [bothv_le _ _ _ _ _ (by omega) (by omega) (by rw [hf2]; omega), hf2, bothv_end _ _ _ _ _ (by omega), if_pos rfl]
  rfl
theorem ll31 : llen 3 1 true = 2 := by
  rw [llen_le _ _ _ (by omega) (by omega) (by rw [hf3]; omega), hf3, llen_le _ _ _ (by omega) (by omega) (by rw [hf2]; omega), hf2, llen_end _ _ _ (by omega), if_pos rfl]
end

def xa : ByteArray := lf ⟨#[97]⟩
def xb : ByteArray := lf ⟨#[98]⟩
def xc : ByteArray := lf ⟨#[99]⟩
theorem ne1 : nd (nd xa xb) xb ≠ nd (nd xa xb) xc := fun h => absurd (decide_eq_true h) (by rw [show decide (nd (nd xa xb) xb = nd (nd xa xb) xc) = false from by kernel_rfl]; simp)
theorem ne2 : nd (nd xb xb) xc ≠ nd (nd xa xb) xc := fun h => absurd (decide_eq_true h) (by rw [show decide (nd (nd xb xb) xc = nd (nd xa xb) xc) = false from by kernel_rfl]; simp)
theorem isD_lf (s : ByteArray) : isD (lf s) = true := isD_dg _
theorem chk1 : chkB (nd (nd xa xb) xc) 3 2 xc [nd xa xb] = true := by
  unfold chkB
  show (decide ((3 : Int) ≤ 1000000 ∧ (0 : Int) ≤ 2 ∧ (2 : Int) < 3) && allD [nd xa xb] && isD xc && (decide (upv 3 2 xc [nd xa xb] = nd (nd xa xb) xc) && decide ([nd xa xb].length = plen 3 2))) = true
  rw [up32, pl32]
  simp [allD, isD_nd, show isD xc = true from isD_lf _]
theorem chk2 : chkB (nd (nd xa xb) xc) 3 2 xb [nd xa xb] = false := by
  unfold chkB
  show (decide ((3 : Int) ≤ 1000000 ∧ (0 : Int) ≤ 2 ∧ (2 : Int) < 3) && allD [nd xa xb] && isD xb && (decide (upv 3 2 xb [nd xa xb] = nd (nd xa xb) xc) && decide ([nd xa xb].length = plen 3 2))) = false
  rw [up32, decide_eq_false ne1]
  simp
end

section
open Go.RowKit

theorem evp_zero (a : Int) (l : List Int) (h : elemB a = true) : evp (a :: l) 0 = a := by
  have := (elemB_iff a).1 h
  simp only [evp]; omega

theorem elemB_mod (a : Int) : elemB (a % 2147483647) = true := by rw [elemB_iff]; omega

/-- The shares of a polynomial lie on it. -/
theorem shs_on (p : List Int) (m : Nat) (hm : m ≤ 16) : On p (shs p m) := by
  refine ⟨fun s hs => ?_, fun s hs => ?_, ?_⟩
  · obtain ⟨i, hi, rfl⟩ := List.mem_map.1 hs
    have := List.mem_range.1 hi
    simp only; omega
  · obtain ⟨i, hi, rfl⟩ := List.mem_map.1 hs
    rfl
  · have e : (shs p m).map (·.1) = (List.range m).map fun (i : Nat) => (i : Int) + 1 := by simp [shs]
    rw [e]
    refine List.pairwise_map.2 (List.Pairwise.imp ?_ List.nodup_range)
    intro a b hab h
    exact hab (by omega)

theorem On.reverse {p : List Int} {l : List (Int × Int)} (h : On p l) : On p l.reverse :=
  ⟨fun s hs => h.place s (by simpa using hs), fun s hs => h.value s (by simpa using hs), by rw [List.map_reverse]; exact (List.reverse_perm _).nodup_iff.2 h.nodup⟩
end

section
open Go.RowKit

theorem shs_place (p : List Int) (m j : Nat) (t : Int × Int) (h : (shs p m)[j]? = some t) : t.1 = (j : Int) + 1 := by
  unfold shs at h
  rw [List.getElem?_map] at h
  cases hr : (List.range m)[j]? with
  | none => rw [hr] at h; cases h
  | some i =>
    rw [hr] at h
    obtain ⟨hl, e⟩ := List.getElem?_eq_some_iff.1 hr
    rw [List.getElem_range] at e
    subst e
    have := Option.some.inj h
    rw [← this]

theorem shChk_own (L : List (Int × Int)) (k : Nat) (t : Int × Int) (hL : L.length ≤ 16) (h1 : 1 ≤ L.length) (ht : L[k]? = some t) (hp : t.1 = (k : Int) + 1) (hv : validB t = true) :
    shChk (rt (L.map shLf)) (L.length : Int) t (pt (L.map shLf) k) = true := by
  have hk := (List.getElem?_eq_some_iff.1 ht).1
  unfold shChk
  rw [decide_eq_true (⟨by omega, by omega, by omega⟩ : 1 ≤ (L.length : Int) ∧ (L.length : Int) ≤ 16 ∧ t.1 ≤ (L.length : Int)), hv, Bool.true_and, Bool.true_and, show t.1 - 1 = (k : Int) from by omega]
  have := incl_yes (L.map shLf) k (shLf t) (shLf_D L) (by rw [List.getElem?_map, ht]; rfl) (by rw [List.length_map]; omega)
  rw [List.length_map] at this
  exact this

theorem shChk_parts {L : List (Int × Int)} {root : ByteArray} {s : Int × Int} {p : List ByteArray} (h : shChk root (L.length : Int) s p = true) :
    validB s = true ∧ ∃ (j : Nat) (t : Int × Int), s.1 = (j : Int) + 1 ∧ L[j]? = some t ∧ allD p = true ∧ upv L.length j (shLf s) p = root ∧ p.length = plen L.length j := by
  unfold shChk at h
  simp only [Bool.and_eq_true, decide_eq_true_eq] at h
  obtain ⟨⟨⟨h1, h2, h3⟩, h4⟩, h5⟩ := h
  obtain ⟨g1, g2⟩ := valid_nat h4
  obtain ⟨t, ht⟩ := get_some L (s.1 - 1).toNat (by omega)
  refine ⟨h4, (s.1 - 1).toNat, t, by omega, ht, ?_⟩
  rw [show s.1 - 1 = (((s.1 - 1).toNat : Nat) : Int) from by omega] at h5
  exact chk_parts h5
end

section
open Go.RowKit

def L3 : List (Int × Int) := [(1, 12), (2, 17), (3, 22)]
def R3 : ByteArray := rt (L3.map shLf)
theorem L3_val : L3.all validB = true := by decide
theorem R3_D : isD R3 = true := isD_rt _ (shLf_D _)
theorem c3_own (k : Nat) (t : Int × Int) (ht : L3[k]? = some t) (hp : t.1 = (k : Int) + 1) : shChk R3 ((3 : Nat) : Int) t (pt (L3.map shLf) k) = true :=
  shChk_own L3 k t (by decide) (by decide) ht hp (List.all_eq_true.1 L3_val t (List.mem_of_getElem? ht))
theorem ne3 : nd (nd (shLf (1, 12)) (shLf (2, 17))) (shLf (3, 23)) ≠ nd (nd (shLf (1, 12)) (shLf (2, 17))) (shLf (3, 22)) :=
  fun h => absurd (decide_eq_true h) (by rw [show decide (nd (nd (shLf (1, 12)) (shLf (2, 17))) (shLf (3, 23)) = nd (nd (shLf (1, 12)) (shLf (2, 17))) (shLf (3, 22))) = false from by kernel_rfl]; simp)
theorem R3_eq : R3 = nd (nd (shLf (1, 12)) (shLf (2, 17))) (shLf (3, 22)) := by
  show rt [shLf (1, 12), shLf (2, 17), shLf (3, 22)] = _
  rw [rt3]
theorem c3_bad : shChk R3 ((3 : Nat) : Int) (3, 23) (pt (L3.map shLf) 2) = false := by
  have e : pt (L3.map shLf) 2 = [nd (shLf (1, 12)) (shLf (2, 17))] := by
    show pt [shLf (1, 12), shLf (2, 17), shLf (3, 22)] 2 = _
    rw [pt32]
  unfold shChk
  rw [e, R3_eq]
  have h : chkB (nd (nd (shLf (1, 12)) (shLf (2, 17))) (shLf (3, 22))) ((3 : Nat) : Int) ((3 : Int) - 1) (shLf (3, 23)) [nd (shLf (1, 12)) (shLf (2, 17))] = false := by
    unfold chkB
    show (decide (((3 : Nat) : Int) ≤ 1000000 ∧ (0 : Int) ≤ 2 ∧ (2 : Int) < ((3 : Nat) : Int)) && allD [nd (shLf (1, 12)) (shLf (2, 17))] && isD (shLf (3, 23)) && (decide (upv 3 2 (shLf (3, 23)) [nd (shLf (1, 12)) (shLf (2, 17))] = nd (nd (shLf (1, 12)) (shLf (2, 17))) (shLf (3, 22))) && decide ([nd (shLf (1, 12)) (shLf (2, 17))].length = plen 3 2))) = false
    rw [up32, decide_eq_false ne3]
    simp
  rw [show ((3, 23) : Int × Int).1 - 1 = (3 : Int) - 1 from rfl, h, Bool.and_false]

def Pk (k : Nat) : List ByteArray := pt (L3.map shLf) k
theorem h3_o1 : offE R3 ((3 : Nat) : Int) [] false (1, 12) (Pk 0) = 0 := by
  unfold offE Pk
  rw [c3_own 0 (1, 12) rfl rfl]; rfl
theorem h3_s1 : offS R3 ((3 : Nat) : Int) [] false (1, 12) (Pk 0) = [(1, 12)] := by unfold offS; rw [h3_o1]; rfl
theorem h3_o2 : offE R3 ((3 : Nat) : Int) [(1, 12)] false (1, 12) (Pk 0) = 8 := by
  unfold offE Pk
  rw [c3_own 0 (1, 12) rfl rfl]; rfl
theorem h3_s2 : offS R3 ((3 : Nat) : Int) [(1, 12)] false (1, 12) (Pk 0) = [(1, 12)] := by unfold offS; rw [h3_o2]; rfl
theorem h3_o3 : offE R3 ((3 : Nat) : Int) [(1, 12)] false (3, 23) (Pk 2) = 24 := by
  unfold offE Pk
  rw [c3_bad]; rfl
theorem h3_s3 : offS R3 ((3 : Nat) : Int) [(1, 12)] false (3, 23) (Pk 2) = [(1, 12)] := by unfold offS; rw [h3_o3]; rfl
theorem h3_o4 : offE R3 ((3 : Nat) : Int) [(1, 12)] false (3, 22) (Pk 2) = 0 := by
  unfold offE Pk
  rw [c3_own 2 (3, 22) rfl rfl]; rfl
theorem h3_s4 : offS R3 ((3 : Nat) : Int) [(1, 12)] false (3, 22) (Pk 2) = [(1, 12), (3, 22)] := by unfold offS; rw [h3_o4]; rfl
theorem on3 : On [7, 5] [(1, 12), (3, 22)] := ⟨by simp, by simp [evp], by decide⟩
theorem h3_j1 : opnR ((2 : Nat) : Int) 3 [(1, 12)] false = (0, 25) := by
  show joinF (ord [(1, 12)] 3) ((2 : Nat) : Int) = _
  rw [show ord [(1, 12)] 3 = [(1, 12)] from rfl]
  exact joinF_on_few [7, 5] 2 _ (on3.sublist (by simp)) (by omega) (by omega) (by simp)
theorem h3_j2 : opnR ((2 : Nat) : Int) 3 [(1, 12), (3, 22)] false = (7, 0) := by
  show joinF (ord [(1, 12), (3, 22)] 3) ((2 : Nat) : Int) = _
  rw [show ord [(1, 12), (3, 22)] 3 = [(1, 12), (3, 22)] from rfl]
  exact joinF_on [7, 5] 2 _ on3 (by omega) (by omega) (by simp) (by simp)
theorem h3_j3 : opnR ((2 : Nat) : Int) 3 [(1, 12), (3, 22)] true = (0, 11) := rfl
theorem Pk_len (k : Nat) : (Pk k).length ≤ 1000000 := by
  unfold Pk
  rw [pt_len]
  have := plen_lt_n (L3.map shLf).length k (by decide)
  have e : (L3.map shLf).length = 3 := rfl
  omega
theorem Pk_sm (k : Nat) : sm (Pk k) := pt_below _ _ (shLf_sm _)

/-! ### blinding and back -/
theorem back_ok {l : List Int} {s : Int} (h : mvOk l s 1000000000 = true) : mvOk (blL l s) s 1001000002 = true ∧ unL (blL l s) s = l := by
  have h0 := h
  simp only [mvOk, Bool.and_eq_true, decide_eq_true_eq, List.all_eq_true] at h
  obtain ⟨⟨h1, h2⟩, h3⟩ := h
  have e : blL l s = mvA l s.toNat 1 := by unfold blL mvL; rw [h0]; rfl
  have hok : mvOk (mvA l s.toNat 1) s 1001000002 = true := by
    simp only [mvOk, Bool.and_eq_true, decide_eq_true_eq, List.all_eq_true]
    refine ⟨⟨by rw [mvA_length]; exact h1, h2⟩, fun y hy => ?_⟩
    obtain ⟨i, hi⟩ := List.getElem?_of_mem hy
    have hil : i < l.length := by have := (List.getElem?_eq_some_iff.1 hi).1; rwa [mvA_length] at this
    obtain ⟨x, hx⟩ := get_some l i hil
    rw [mvA_get s.toNat 1 hx] at hi
    have hy' := Option.some.inj hi
    have hr := h3 x (List.mem_of_getElem? hx)
    have ho := offN_lt s.toNat i
    simp only [mvR, Bool.and_eq_true, decide_eq_true_eq] at hr ⊢
    omega
  refine ⟨by rw [e]; exact hok, ?_⟩
  rw [e]
  unfold unL mvL
  rw [hok, if_pos rfl]
  apply List.ext_getElem?
  intro i
  cases hx : l[i]? with
  | none =>
    rw [List.getElem?_eq_none_iff] at hx ⊢
    rw [mvA_length, mvA_length]; exact hx
  | some x =>
    rw [mvA_get s.toNat (-1) (mvA_get s.toNat 1 hx)]
    congr 1
    omega
theorem blL_get {l : List Int} {s : Int} (h : mvOk l s 1000000000 = true) {i : Nat} {x : Int} (hx : l[i]? = some x) : (blL l s)[i]? = some (x + (offN s.toNat i : Int)) := by
  unfold blL mvL
  rw [h, if_pos rfl, mvA_get s.toNat 1 hx]
  congr 1
  omega
theorem blL_len {l : List Int} {s : Int} (h : mvOk l s 1000000000 = true) : (blL l s).length = l.length := by
  unfold blL mvL
  rw [h, if_pos rfl, mvA_length]
theorem h3_bl : mvOk [5, -5] 7 1000000000 = true := by decide
end

section
open Go.RowKit

/-- A vault in memory: its block g, the block B of the map of the offered shares. -/
def PV (w : World) (g B : Nat) (need total : Nat) (root : ByteArray) (S : List (Int × Int)) (opn : Bool) : Prop :=
  Blk w g 84 #[.int .i64 need, .int .i64 total, .string root, .map (some B), .bool opn] ∧ Offs w B S.length S ∧ g ≠ B
theorem PV.kept {w w' : World} {g B need total : Nat} {root : ByteArray} {S : List (Int × Int)} {opn : Bool} (h : PV w g B need total root S opn) (h1 : w'.heap[g]? = w.heap[g]?) (h2 : w'.heap[B]? = w.heap[B]?) : PV w' g B need total root S opn :=
  ⟨h1.trans h.1, h.2.1.kept h2, h.2.2⟩
theorem PV.lt {w : World} {g B need total : Nat} {root : ByteArray} {S : List (Int × Int)} {opn : Bool} (h : PV w g B need total root S opn) : g < w.heap.size ∧ B < w.heap.size := ⟨h.1.lt, h.2.1.lt⟩
theorem PV.chg {w w' : World} {F : List Nat} {g B need total : Nat} {root : ByteArray} {S : List (Int × Int)} {opn : Bool} (h : PV w g B need total root S opn) (hc : Chg F w w') (hg : g ∉ F) (hB : B ∉ F) : PV w' g B need total root S opn :=
  h.kept (hc.block g h.lt.1 hg) (hc.block B h.lt.2 hB)
theorem PV.below {w w' : World} {g B need total : Nat} {root : ByteArray} {S : List (Int × Int)} {opn : Bool} (h : PV w g B need total root S opn) (hb : Below w.heap.size w w') : PV w' g B need total root S opn :=
  h.kept (hb.block g h.lt.1) (hb.block B h.lt.2)

def newOk (need total : Int) (root : ByteArray) : Bool := decide (1 ≤ total ∧ total ≤ 16 ∧ 1 ≤ need ∧ need ≤ total) && isD root

set_option maxHeartbeats 4000000 in
theorem vnew_ok (need total : Nat) (root : ByteArray) (w : World) (hr : root.size ≤ 1000000000) (h1 : 1 ≤ need) (h2 : need ≤ total) (h3 : total ≤ 16) (hd : isD root = true) :
    Calls Tryz.prog 19 #[.int .i64 need, .string root, .int .i64 total] w fun e w' => ∃ g B, e = .returned (.tuple #[.pointer (some ⟨g, 0, none⟩), .int .i64 0]) ∧ PV w' g B need total root [] false ∧ w.heap.size ≤ g ∧ w.heap.size ≤ B ∧ Below w.heap.size w w' := by
  have HI := Lib.hid (is_any root w hr)
  rw [hd] at HI
  have hmm := @run_makeMap Tryz.prog
  have d1 : decide ((total : Int) < 1) = false := decide_eq_false (by omega)
  have d2 : decide (16 < (total : Int)) = false := decide_eq_false (by omega)
  have d3 : decide ((need : Int) < 1) = false := decide_eq_false (by omega)
  have d4 : decide (total < need) = false := decide_eq_false (by omega)
  clear hd
  go_enter Tryz.func19, Tryz.ntmps19
  go_wp2_with fail
  refine HI.out.mono ?_
  rintro e w1 ⟨rfl, hb⟩
  have HB := Lib.hid hb
  clear hb
  go_wp2
  go_ret2
  refine ⟨_, _, rfl, ⟨Blk.new _ _ _ _ (by simp), (Offs.made w1).below (below_alloc (Below.refl _ _) _), ?_⟩, ?_, ?_, below_trans HB.out (below_alloc (below_alloc (Below.refl _ _) _) _)⟩
  · simp
  · have := HB.out.size; simp; omega
  · have := HB.out.size; simp; omega

set_option maxHeartbeats 4000000 in
theorem vnew_bad (need total : Int) (root : ByteArray) (w : World) (hr : root.size ≤ 1000000000) (h : newOk need total root = false) :
    Calls Tryz.prog 19 #[.int .i64 need, .string root, .int .i64 total] w fun e w' => e = .returned (.tuple #[.pointer none, .int .i64 1]) ∧ Below w.heap.size w w' := by
  have HI := Lib.hid (is_any root w hr)
  by_cases h1 : total < 1
  · have d1 : decide (total < 1) = true := decide_eq_true h1
    go_enter Tryz.func19, Tryz.ntmps19
    go_wp2
    go_ret2
    exact ⟨rfl, Below.refl _ _⟩
  have d1 : decide (total < 1) = false := decide_eq_false h1
  by_cases h2 : 16 < total
  · have d2 : decide (16 < total) = true := decide_eq_true h2
    go_enter Tryz.func19, Tryz.ntmps19
    go_wp2
    go_ret2
    exact ⟨rfl, Below.refl _ _⟩
  have d2 : decide (16 < total) = false := decide_eq_false h2
  by_cases h3 : need < 1
  · have d3 : decide (need < 1) = true := decide_eq_true h3
    go_enter Tryz.func19, Tryz.ntmps19
    go_wp2
    go_ret2
    exact ⟨rfl, Below.refl _ _⟩
  have d3 : decide (need < 1) = false := decide_eq_false h3
  by_cases h4 : total < need
  · have d4 : decide (total < need) = true := decide_eq_true h4
    go_enter Tryz.func19, Tryz.ntmps19
    go_wp2
    go_ret2
    exact ⟨rfl, Below.refl _ _⟩
  have d4 : decide (total < need) = false := decide_eq_false h4
  have hd : isD root = false := by
    have := h
    unfold newOk at this
    rw [decide_eq_true (by omega), Bool.true_and] at this
    exact this
  rw [hd] at HI
  clear hd h
  go_enter Tryz.func19, Tryz.ntmps19
  go_wp2_with fail
  refine HI.out.mono ?_
  rintro e w1 ⟨rfl, hb⟩
  have HB := Lib.hid hb
  clear hb
  go_wp2
  go_ret2
  exact ⟨rfl, HB.out⟩

set_option maxHeartbeats 4000000 in
theorem holds_any (need total : Int) (root : ByteArray) (s : Int × Int) (C : Option Addr) (f : Nat) (p : List ByteArray) (w : World) (hS : Strs w C p) (hbig : p.length ≤ 1000000) (hcap : p.length ≤ f) (hsm : sm p) (hT : Tabs w) :
    Calls Tryz.prog 49 #[.agg #[.int .i64 need, .int .i64 total, .string root], .agg #[.int .i64 s.1, .int .i64 s.2], .slice C p.length f] w fun e w' => e = .returned (.bool (shChk root total s p)) ∧ Below w.heap.size w w' := by
  have H : Hid (∀ W, Below w.heap.size w W → _) := Lib.hid (fun W hW => scheck_any root total s C f p W (hS.below hW) hbig hcap hsm (hT.below hW))
  clear hS hsm hT
  go_enter Tryz.func49, Tryz.ntmps49
  go_wp2_with fail
  refine (H.out _ (below_alloc (below_alloc (Below.refl _ _) _) _)).mono ?_
  rintro e w1 ⟨rfl, hb⟩
  have HB := Lib.hid hb
  clear hb
  go_wp2
  go_ret
  exact ⟨rfl, below_trans (below_alloc (below_alloc (Below.refl _ _) _) _) HB.out⟩
set_option maxRecDepth 100000 in
set_option maxHeartbeats 16000000 in
theorem voffer_any (g B need total : Nat) (root : ByteArray) (S : List (Int × Int)) (opn : Bool) (s : Int × Int) (C : Option Addr) (f : Nat) (p : List ByteArray) (w : World) (hV : PV w g B need total root S opn) (hn : S.length ≤ 1000) (hP : Strs w C p) (hbig : p.length ≤ 1000000) (hcap : p.length ≤ f) (hsm : sm p) (hT : Tabs w) :
    Calls Tryz.prog 25 #[.pointer (some ⟨g, 0, none⟩), .agg #[.int .i64 s.1, .int .i64 s.2], .slice C p.length f] w fun e w' =>
      e = .returned (.int .i64 (offE root total S opn s p)) ∧ PV w' g B need total root (offS root total S opn s p) opn ∧ Chg [g, B] w w' := by
  obtain ⟨w0, hw0⟩ : ∃ w0, w.alloc (.cells #[.int .i64 s.1, .int .i64 s.2] 37) = w0 := ⟨_, rfl⟩
  have HB0 : Hid (Below w.heap.size w w0) := Lib.hid (by rw [← hw0]; exact below_alloc (Below.refl _ _) _)
  have HK : Hid (∀ W, Below w0.heap.size w0 W → W.cell? ⟨w.heap.size, 0, none⟩ = some (.int .i64 s.1) ∧ W.cell? ⟨w.heap.size, 1, none⟩ = some (.int .i64 s.2)) := Lib.hid (fun W hW => by
    have hb : Blk w0 w.heap.size 37 #[.int .i64 s.1, .int .i64 s.2] := by rw [← hw0]; exact Blk.new w _ _ _ rfl
    exact ⟨kept_cell hW (hb.of_cell rfl), kept_cell hW (hb.of_cell rfl)⟩)
  have HV : Hid (∀ W, Below w0.heap.size w0 W → PV W g B need total root S opn) := Lib.hid (fun W hW => (hV.below HB0.out).below hW)
  have HVW := Lib.hid hV
  have HH : Hid (∀ W, Below w0.heap.size w0 W → _) := Lib.hid (fun W hW => holds_any need total root s C f p W ((hP.below HB0.out).below hW) hbig hcap hsm ((hT.below HB0.out).below hW))
  have HW0 := Lib.hid hw0
  have HGC : Hid (∀ W, Below w0.heap.size w0 W → W.cell? ⟨g, 0, none⟩ = some (.int .i64 need) ∧ W.cell? ⟨g, 1, none⟩ = some (.int .i64 total) ∧ W.cell? ⟨g, 2, none⟩ = some (.string root) ∧ W.cell? ⟨g, 3, none⟩ = some (.map (some B)) ∧ W.cell? ⟨g, 4, none⟩ = some (.bool opn)) := Lib.hid (fun W hW => by
    have hb := (HV.out W hW).1
    exact ⟨hb.of_cell rfl, hb.of_cell rfl, hb.of_cell rfl, hb.of_cell rfl, hb.of_cell rfl⟩)
  obtain ⟨er, her⟩ : ∃ er, offE root total S opn s p = er := ⟨_, rfl⟩
  obtain ⟨S', hS'⟩ : ∃ S', offS root total S opn s p = S' := ⟨_, rfl⟩
  have HER := Lib.hid her
  have HS' := Lib.hid hS'
  rw [her, hS']
  obtain ⟨ck, hck⟩ : ∃ ck, shChk root total s p = ck := ⟨_, rfl⟩
  have HCK := Lib.hid hck
  rw [hck] at HH
  clear hw0 hV hP hsm hT her hS' hck
  obtain ⟨c0, c1, c2, c3, c4⟩ := HGC.out w0 (Below.refl _ _)
  have cl := lt_of_cell c0
  cases opn with
  | true =>
    have he : er = 11 := by rw [← HER.out]; rfl
    have hs : S' = S := by rw [← HS'.out]; unfold offS; rw [HER.out, he]; rfl
    subst he
    subst hs
    go_enter Tryz.func25, Tryz.ntmps25
    go_upto_region 1 with (fail)
    rw [HW0.out]
    go_wp2
    go_ret
    exact ⟨rfl, HV.out _ (Below.refl _ _), Chg.of_below HB0.out _⟩
  | false =>
  cases ck with
  | false =>
    have he : er = 24 := by rw [← HER.out]; unfold offE; rw [HCK.out]; rfl
    have hs : S' = S := by rw [← HS'.out]; unfold offS; rw [HER.out, he]; rfl
    subst he
    subst hs
    go_enter Tryz.func25, Tryz.ntmps25
    go_upto_region 1 with (fail)
    rw [HW0.out]
    go_wp2_with fail
    clear c0 c1 c2 c3 c4 cl
    refine wp_region_belowC (by kernel_rfl) (by kernel_rfl) (fun WQ HQS HQN => ?_)
    refine HQS.go (fun K hK => ?_)
    go_simp
    apply Exists.intro
    refine ⟨fun W hW => ?_, hK _ ?_⟩
    · (try go_simp)
      exact rfl
    clear hK K
    refine HQS.go (fun K hK => ?_)
    go_simp
    apply Exists.intro
    refine ⟨fun W hW => ?_, hK _ ?_⟩
    · (try go_simp)
      exact rfl
    clear hK K
    refine HQS.go (fun K hK => ?_)
    go_simp
    apply Exists.intro
    refine ⟨fun W hW => ?_, hK _ ?_⟩
    · (try go_simp)
      exact rfl
    clear hK K
    refine HQS.go (fun K hK => ?_)
    go_simp
    apply Exists.intro
    refine ⟨fun W hW => ?_, hK _ ?_⟩
    · obtain ⟨c0, c1, c2, c3, c4⟩ := HGC.out W hW
      have cl := lt_of_cell c0
      go_simp
      exact rfl
    clear hK K
    refine HQS.go (fun K hK => ?_)
    go_simp
    apply Exists.intro
    refine ⟨fun W hW => ?_, hK _ ?_⟩
    · obtain ⟨q0, q1⟩ := HK.out W hW
      have ql := lt_of_cell q0
      go_simp
      exact rfl
    clear hK K
    refine HQS.go (fun K hK => ?_)
    go_simp
    apply Exists.intro
    refine ⟨fun W hW => ?_, hK _ ?_⟩
    · (try go_simp)
      exact rfl
    clear hK K
    refine HQS.go (fun K hK => ?_)
    go_simp
    apply Exists.intro
    refine ⟨fun W hW => ?_, hK _ ?_⟩
    · exact (HH.out W hW).mono fun _ _ ⟨he, hb⟩ => ⟨he, below_trans hW hb⟩
    clear hK K
    refine HQS.go (fun K hK => ?_)
    go_simp
    apply Exists.intro
    refine ⟨fun W hW => ?_, hK _ ?_⟩
    · (try go_simp)
      exact rfl
    clear hK K
    refine HQS.go (fun K hK => ?_)
    go_simp
    apply Exists.intro
    refine ⟨fun W hW => ?_, hK _ ?_⟩
    · (try go_simp)
      exact rfl
    clear hK K
    refine HQN.go ?_
    intro w2 hW
    have HB2 := Lib.hid hW
    clear hW
    go_wp2
    go_ret
    exact ⟨rfl, HV.out _ HB2.out, Chg.of_below (below_trans HB0.out HB2.out) _⟩
  | true =>
  have hvp : 1 ≤ s.1 ∧ s.1 ≤ 16 := by
      have h1 := HCK.out
      unfold shChk at h1
      simp only [Bool.and_eq_true] at h1
      have := (validB_iff s).1 h1.1.2
      omega
  have HFL : Hid (∀ W, Below w0.heap.size w0 W → (Instr.lookup 82 (.map (some B)) (.int .i64 s.1) true).run Tryz.prog W = .ok (.tuple #[match fnd S s.1 with | some s => .agg #[.int .i64 s.1, .int .i64 s.2] | none => .agg #[.int .i64 0, .int .i64 0], .bool (fnd S s.1).isSome]) W) := Lib.hid (fun W hW => (HV.out W hW).2.1.look s.1 (WalkArith.wf_i64 (by omega)))
  cases hf : fnd S s.1 with
  | some t =>
    have he : er = 8 := by rw [← HER.out]; unfold offE; rw [HCK.out, hf]; rfl
    have hs : S' = S := by rw [← HS'.out]; unfold offS; rw [HER.out, he]; rfl
    subst he
    subst hs
    rw [hf] at HFL
    have HFL' : Hid (∀ W, Below w0.heap.size w0 W → (Instr.lookup 82 (.map (some B)) (.int .i64 s.1) true).run Tryz.prog W = .ok (.tuple #[.agg #[.int .i64 t.1, .int .i64 t.2], .bool true]) W) := HFL
    clear HFL hf
    go_enter Tryz.func25, Tryz.ntmps25
    go_upto_region 1 with (fail)
    rw [HW0.out]
    go_wp2_with fail
    clear c0 c1 c2 c3 c4 cl
    refine wp_region_belowC (by kernel_rfl) (by kernel_rfl) (fun WQ HQS HQN => ?_)
    refine HQS.go (fun K hK => ?_)
    go_simp
    apply Exists.intro
    refine ⟨fun W hW => ?_, hK _ ?_⟩
    · (try go_simp)
      exact rfl
    clear hK K
    refine HQS.go (fun K hK => ?_)
    go_simp
    apply Exists.intro
    refine ⟨fun W hW => ?_, hK _ ?_⟩
    · (try go_simp)
      exact rfl
    clear hK K
    refine HQS.go (fun K hK => ?_)
    go_simp
    apply Exists.intro
    refine ⟨fun W hW => ?_, hK _ ?_⟩
    · (try go_simp)
      exact rfl
    clear hK K
    refine HQS.go (fun K hK => ?_)
    go_simp
    apply Exists.intro
    refine ⟨fun W hW => ?_, hK _ ?_⟩
    · obtain ⟨c0, c1, c2, c3, c4⟩ := HGC.out W hW
      have cl := lt_of_cell c0
      go_simp
      exact rfl
    clear hK K
    refine HQS.go (fun K hK => ?_)
    go_simp
    apply Exists.intro
    refine ⟨fun W hW => ?_, hK _ ?_⟩
    · obtain ⟨q0, q1⟩ := HK.out W hW
      have ql := lt_of_cell q0
      go_simp
      exact rfl
    clear hK K
    refine HQS.go (fun K hK => ?_)
    go_simp
    apply Exists.intro
    refine ⟨fun W hW => ?_, hK _ ?_⟩
    · (try go_simp)
      exact rfl
    clear hK K
    refine HQS.go (fun K hK => ?_)
    go_simp
    apply Exists.intro
    refine ⟨fun W hW => ?_, hK _ ?_⟩
    · exact (HH.out W hW).mono fun _ _ ⟨he, hb⟩ => ⟨he, below_trans hW hb⟩
    clear hK K
    refine HQS.go (fun K hK => ?_)
    go_simp
    apply Exists.intro
    refine ⟨fun W hW => ?_, hK _ ?_⟩
    · (try go_simp)
      exact rfl
    clear hK K
    refine HQS.go (fun K hK => ?_)
    go_simp
    apply Exists.intro
    refine ⟨fun W hW => ?_, hK _ ?_⟩
    · (try go_simp)
      exact rfl
    clear hK K
    refine HQN.go ?_
    intro w2 hW
    have HB2 := Lib.hid hW
    clear hW
    obtain ⟨c0, c1, c2, c3, c4⟩ := HGC.out w2 HB2.out
    have cl := lt_of_cell c0
    go_wp2_with fail
    clear c0 c1 c2 c3 c4 cl
    refine wp_region_held_drew (S := fun W => Below w2.heap.size w2 W) (by kernel_rfl) ((Below.refl _ _).drew) (fun hS0 => ?_)
    refine wpAnyH_take (i := 0) (v := ?_) rfl (by kernel_rfl) (by kernel_rfl) (by kernel_rfl) (fun _ _ _ h => h) (Or.inl ⟨by kernel_rfl, ?hy⟩) hS0 ?rest
    case hy => (intro W hSw; clear hSw; go_simp; try with_reducible rfl)
    case rest =>
    refine wpAnyH_take (i := 1) (v := ?_) rfl (by kernel_rfl) (by kernel_rfl) (by kernel_rfl) (fun _ _ _ h => h) (Or.inl ⟨by kernel_rfl, ?hy⟩) hS0 ?rest
    case hy => (intro W hSw; clear hSw; go_simp; try with_reducible rfl)
    case rest =>
    refine wpAnyH_take (i := 2) (v := ?_) rfl (by kernel_rfl) (by kernel_rfl) (by kernel_rfl) (fun _ _ _ h => h) (Or.inl ⟨by kernel_rfl, ?hy⟩) hS0 ?rest
    case hy => (intro W hSw; clear hSw; go_simp; try with_reducible rfl)
    case rest =>
    refine wpAnyH_take (i := 3) (v := ?_) rfl (by kernel_rfl) (by kernel_rfl) (by kernel_rfl) (fun _ _ _ h => h) (Or.inl ⟨by kernel_rfl, ?hy⟩) hS0 ?rest
    case hy => (intro W hSw; obtain ⟨c0, c1, c2, c3, c4⟩ := HGC.out W (below_trans HB2.out hSw); have cl := lt_of_cell c0; clear hSw; go_simp; try with_reducible rfl)
    case rest =>
    refine wpAnyH_take (i := 4) (v := ?_) rfl (by kernel_rfl) (by kernel_rfl) (by kernel_rfl) (fun _ _ _ h => h) (Or.inl ⟨by kernel_rfl, ?hy⟩) hS0 ?rest
    case hy => (intro W hSw; clear hSw; go_simp; try with_reducible rfl)
    case rest =>
    refine wpAnyH_take (i := 5) (v := ?_) rfl (by kernel_rfl) (by kernel_rfl) (by kernel_rfl) (fun _ _ _ h => h) (Or.inl ⟨by kernel_rfl, ?hy⟩) hS0 ?rest
    case hy => (intro W hSw; obtain ⟨q0, q1⟩ := HK.out W (below_trans HB2.out hSw); have ql := lt_of_cell q0; clear hSw; go_simp; try with_reducible rfl)
    case rest =>
    refine wpAnyH_take (i := 6) (v := ?_) rfl (by kernel_rfl) (by kernel_rfl) (by kernel_rfl) (fun _ _ _ h => h) (Or.inl ⟨by kernel_rfl, ?hy⟩) hS0 ?rest
    case hy => (intro W hSw; have q := HFL'.out W (below_trans HB2.out hSw); clear hSw; go_simp; try with_reducible rfl)
    case rest =>
    refine wpAnyH_take (i := 7) (v := ?_) rfl (by kernel_rfl) (by kernel_rfl) (by kernel_rfl) (fun _ _ _ h => h) (Or.inl ⟨by kernel_rfl, ?hy⟩) hS0 ?rest
    case hy => (intro W hSw; clear hSw; go_simp; try with_reducible rfl)
    case rest =>
    refine wpAnyH_take (i := 8) (v := ?_) rfl (by kernel_rfl) (by kernel_rfl) (by kernel_rfl) (fun _ _ _ h => h) (Or.inl ⟨by kernel_rfl, ?hy⟩) hS0 ?rest
    case hy => (intro W hSw; clear hSw; go_simp; try with_reducible rfl)
    case rest =>
    refine wpAnyH_take (i := 9) (v := ?_) rfl (by kernel_rfl) (by kernel_rfl) (by kernel_rfl) (fun _ _ _ h => h) (Or.inl ⟨by kernel_rfl, ?hy⟩) hS0 ?rest
    case hy => (intro W hSw; clear hSw; go_simp; try with_reducible rfl)
    case rest =>
    refine wpAnyH_ready (rs := [10]) (by kernel_rfl) (by simp) ?_
    refine AllReadyH.cons rfl (fun K hK => ?_) (AllReadyH.nil)
    go_simp
    refine hK.out _ _ (below_alloc (Below.refl _ _).drew _) (fun hS1 => ?_)
    clear hK K
    refine wpAnyH_ready (rs := [11]) (by kernel_rfl) (by simp) ?_
    refine AllReadyH.cons rfl (fun K hK => ?_) (AllReadyH.nil)
    go_simp
    refine hK.out _ _ (below_alloc (Below.refl _ _).drew _) (fun hS2 => ?_)
    clear hK K
    refine wpAnyH_take (i := 12) (v := ?_) rfl (by kernel_rfl) (by kernel_rfl) (by kernel_rfl) (fun _ _ _ h => h) (Or.inl ⟨by kernel_rfl, ?hy⟩) hS2 ?rest
    case hy => (intro W hSw; clear hSw; go_simp; try with_reducible rfl)
    case rest =>
    refine wpAnyH_done (by kernel_rfl) ?_ _
    have HB3 : Hid (Below w0.heap.size w0 _) := Lib.hid (below_trans HB2.out hS2)
    clear hS0 hS1 hS2
    go_wp2
    go_ret
    exact ⟨rfl, HV.out _ HB3.out, Chg.of_below (below_trans HB0.out HB3.out) _⟩
  | none =>
    have he : er = 0 := by rw [← HER.out]; unfold offE; rw [HCK.out, hf]; rfl
    have hs : S' = S ++ [s] := by rw [← HS'.out]; unfold offS; rw [HER.out, he]; rfl
    subst he
    subst hs
    rw [hf] at HFL
    have HFL' : Hid (∀ W, Below w0.heap.size w0 W → (Instr.lookup 82 (.map (some B)) (.int .i64 s.1) true).run Tryz.prog W = .ok (.tuple #[.agg #[.int .i64 0, .int .i64 0], .bool false]) W) := HFL
    have HF := Lib.hid hf
    clear HFL hf
    go_enter Tryz.func25, Tryz.ntmps25
    go_upto_region 1 with (fail)
    rw [HW0.out]
    go_wp2_with fail
    clear c0 c1 c2 c3 c4 cl
    refine wp_region_belowC (by kernel_rfl) (by kernel_rfl) (fun WQ HQS HQN => ?_)
    refine HQS.go (fun K hK => ?_)
    go_simp
    apply Exists.intro
    refine ⟨fun W hW => ?_, hK _ ?_⟩
    · (try go_simp)
      exact rfl
    clear hK K
    refine HQS.go (fun K hK => ?_)
    go_simp
    apply Exists.intro
    refine ⟨fun W hW => ?_, hK _ ?_⟩
    · (try go_simp)
      exact rfl
    clear hK K
    refine HQS.go (fun K hK => ?_)
    go_simp
    apply Exists.intro
    refine ⟨fun W hW => ?_, hK _ ?_⟩
    · (try go_simp)
      exact rfl
    clear hK K
    refine HQS.go (fun K hK => ?_)
    go_simp
    apply Exists.intro
    refine ⟨fun W hW => ?_, hK _ ?_⟩
    · obtain ⟨c0, c1, c2, c3, c4⟩ := HGC.out W hW
      have cl := lt_of_cell c0
      go_simp
      exact rfl
    clear hK K
    refine HQS.go (fun K hK => ?_)
    go_simp
    apply Exists.intro
    refine ⟨fun W hW => ?_, hK _ ?_⟩
    · obtain ⟨q0, q1⟩ := HK.out W hW
      have ql := lt_of_cell q0
      go_simp
      exact rfl
    clear hK K
    refine HQS.go (fun K hK => ?_)
    go_simp
    apply Exists.intro
    refine ⟨fun W hW => ?_, hK _ ?_⟩
    · (try go_simp)
      exact rfl
    clear hK K
    refine HQS.go (fun K hK => ?_)
    go_simp
    apply Exists.intro
    refine ⟨fun W hW => ?_, hK _ ?_⟩
    · exact (HH.out W hW).mono fun _ _ ⟨he, hb⟩ => ⟨he, below_trans hW hb⟩
    clear hK K
    refine HQS.go (fun K hK => ?_)
    go_simp
    apply Exists.intro
    refine ⟨fun W hW => ?_, hK _ ?_⟩
    · (try go_simp)
      exact rfl
    clear hK K
    refine HQS.go (fun K hK => ?_)
    go_simp
    apply Exists.intro
    refine ⟨fun W hW => ?_, hK _ ?_⟩
    · (try go_simp)
      exact rfl
    clear hK K
    refine HQN.go ?_
    intro w2 hW
    have HB2 := Lib.hid hW
    clear hW
    obtain ⟨c0, c1, c2, c3, c4⟩ := HGC.out w2 HB2.out
    have cl := lt_of_cell c0
    go_wp2_with fail
    clear c0 c1 c2 c3 c4 cl
    refine wp_region_held_drew (S := fun W => Below w2.heap.size w2 W) (by kernel_rfl) ((Below.refl _ _).drew) (fun hS0 => ?_)
    refine wpAnyH_take (i := 0) (v := ?_) rfl (by kernel_rfl) (by kernel_rfl) (by kernel_rfl) (fun _ _ _ h => h) (Or.inl ⟨by kernel_rfl, ?hy⟩) hS0 ?rest
    case hy => (intro W hSw; clear hSw; go_simp; try with_reducible rfl)
    case rest =>
    refine wpAnyH_take (i := 1) (v := ?_) rfl (by kernel_rfl) (by kernel_rfl) (by kernel_rfl) (fun _ _ _ h => h) (Or.inl ⟨by kernel_rfl, ?hy⟩) hS0 ?rest
    case hy => (intro W hSw; clear hSw; go_simp; try with_reducible rfl)
    case rest =>
    refine wpAnyH_take (i := 2) (v := ?_) rfl (by kernel_rfl) (by kernel_rfl) (by kernel_rfl) (fun _ _ _ h => h) (Or.inl ⟨by kernel_rfl, ?hy⟩) hS0 ?rest
    case hy => (intro W hSw; clear hSw; go_simp; try with_reducible rfl)
    case rest =>
    refine wpAnyH_take (i := 3) (v := ?_) rfl (by kernel_rfl) (by kernel_rfl) (by kernel_rfl) (fun _ _ _ h => h) (Or.inl ⟨by kernel_rfl, ?hy⟩) hS0 ?rest
    case hy => (intro W hSw; obtain ⟨c0, c1, c2, c3, c4⟩ := HGC.out W (below_trans HB2.out hSw); have cl := lt_of_cell c0; clear hSw; go_simp; try with_reducible rfl)
    case rest =>
    refine wpAnyH_take (i := 4) (v := ?_) rfl (by kernel_rfl) (by kernel_rfl) (by kernel_rfl) (fun _ _ _ h => h) (Or.inl ⟨by kernel_rfl, ?hy⟩) hS0 ?rest
    case hy => (intro W hSw; clear hSw; go_simp; try with_reducible rfl)
    case rest =>
    refine wpAnyH_take (i := 5) (v := ?_) rfl (by kernel_rfl) (by kernel_rfl) (by kernel_rfl) (fun _ _ _ h => h) (Or.inl ⟨by kernel_rfl, ?hy⟩) hS0 ?rest
    case hy => (intro W hSw; obtain ⟨q0, q1⟩ := HK.out W (below_trans HB2.out hSw); have ql := lt_of_cell q0; clear hSw; go_simp; try with_reducible rfl)
    case rest =>
    refine wpAnyH_take (i := 6) (v := ?_) rfl (by kernel_rfl) (by kernel_rfl) (by kernel_rfl) (fun _ _ _ h => h) (Or.inl ⟨by kernel_rfl, ?hy⟩) hS0 ?rest
    case hy => (intro W hSw; have q := HFL'.out W (below_trans HB2.out hSw); clear hSw; go_simp; try with_reducible rfl)
    case rest =>
    refine wpAnyH_take (i := 7) (v := ?_) rfl (by kernel_rfl) (by kernel_rfl) (by kernel_rfl) (fun _ _ _ h => h) (Or.inl ⟨by kernel_rfl, ?hy⟩) hS0 ?rest
    case hy => (intro W hSw; clear hSw; go_simp; try with_reducible rfl)
    case rest =>
    refine wpAnyH_take (i := 8) (v := ?_) rfl (by kernel_rfl) (by kernel_rfl) (by kernel_rfl) (fun _ _ _ h => h) (Or.inl ⟨by kernel_rfl, ?hy⟩) hS0 ?rest
    case hy => (intro W hSw; clear hSw; go_simp; try with_reducible rfl)
    case rest =>
    refine wpAnyH_take (i := 9) (v := ?_) rfl (by kernel_rfl) (by kernel_rfl) (by kernel_rfl) (fun _ _ _ h => h) (Or.inl ⟨by kernel_rfl, ?hy⟩) hS0 ?rest
    case hy => (intro W hSw; clear hSw; go_simp; try with_reducible rfl)
    case rest =>
    refine wpAnyH_ready (rs := [10]) (by kernel_rfl) (by simp) ?_
    refine AllReadyH.cons rfl (fun K hK => ?_) (AllReadyH.nil)
    go_simp
    refine hK.out _ _ (below_alloc (Below.refl _ _).drew _) (fun hS1 => ?_)
    clear hK K
    refine wpAnyH_ready (rs := [11]) (by kernel_rfl) (by simp) ?_
    refine AllReadyH.cons rfl (fun K hK => ?_) (AllReadyH.nil)
    go_simp
    refine hK.out _ _ (below_alloc (Below.refl _ _).drew _) (fun hS2 => ?_)
    clear hK K
    refine wpAnyH_take (i := 12) (v := ?_) rfl (by kernel_rfl) (by kernel_rfl) (by kernel_rfl) (fun _ _ _ h => h) (Or.inl ⟨by kernel_rfl, ?hy⟩) hS2 ?rest
    case hy => (intro W hSw; clear hSw; go_simp; try with_reducible rfl)
    case rest =>
    refine wpAnyH_done (by kernel_rfl) ?_ _
    have HB3 : Hid (Below w0.heap.size w0 _) := Lib.hid (below_trans HB2.out hS2)
    clear hS0 hS1 hS2
    generalize (w2.alloc (.cells #[.int .i64 0, .int .i64 0] 37)).drew = w3 at *
    go_wp2_with fail
    refine wp_region_still_tail 7 (by kernel_rfl) (by kernel_rfl) ?_
    simp only [List.take_succ_cons, List.take_zero, List.drop_succ_cons, List.drop_zero]
    change wpStill _ _ (World.drew _) _ _ _
    have HD3 : Hid (Below w0.heap.size w0 w3.drew) := Lib.hid HB3.out.drew
    obtain ⟨c0, c1, c2, c3, c4⟩ := HGC.out w3.drew HD3.out
    obtain ⟨q0, q1⟩ := HK.out w3.drew HD3.out
    have cl := lt_of_cell c0
    have ql := lt_of_cell q0
    repeat still_step
    clear c0 c1 c2 c3 c4 q0 q1 cl ql
    refine wpStill_nil ?_
    change wpList _ _ _ _ _ (World.drew _)
    obtain ⟨w4, hw4, ho4, hg4⟩ := (HV.out _ (HB3.out.drew)).2.1.put s (WalkArith.wf_i64 (by omega)) (by omega) HF.out
    have HO4 := Lib.hid ho4
    have HG4 := Lib.hid hg4
    have HP4 : Hid (PV w4 g B need total root (S ++ [s]) false) := Lib.hid ⟨(HV.out _ (HB3.out.drew)).1.grown hg4 (by have := HVW.out.2.2; simpa using this), by rw [List.length_append]; exact ho4, HVW.out.2.2⟩
    clear ho4 hg4
    go_wp2
    go_ret
    exact ⟨rfl, HP4.out, ((Chg.of_below (below_trans HB0.out HB3.out) [g, B]).drew).grown HG4.out (fun k hk => .inl (by cases hk; simp))⟩

    
end

section
open Go.RowKit

set_option maxRecDepth 100000 in
set_option maxHeartbeats 16000000 in
theorem vopen_any (g B need total : Nat) (root : ByteArray) (S : List (Int × Int)) (opn : Bool) (w : World) (hV : PV w g B need total root S opn) (ht : total ≤ 16) :
    Calls Tryz.prog 23 #[.pointer (some ⟨g, 0, none⟩)] w fun e w' =>
      e = .returned (.tuple #[.int .i64 (opnR need total S opn).1, .int .i64 (opnR need total S opn).2]) ∧ PV w' g B need total root S (opn || ((opnR need total S opn).2 == 0)) ∧ Chg [g, B] w w' := by
  have HV : Hid (∀ W, Below w.heap.size w W → PV W g B need total root S opn) := Lib.hid (fun W hW => hV.below hW)
  have HGC : Hid (∀ W, Below w.heap.size w W → W.cell? ⟨g, 0, none⟩ = some (.int .i64 need) ∧ W.cell? ⟨g, 1, none⟩ = some (.int .i64 total) ∧ W.cell? ⟨g, 2, none⟩ = some (.string root) ∧ W.cell? ⟨g, 3, none⟩ = some (.map (some B)) ∧ W.cell? ⟨g, 4, none⟩ = some (.bool opn)) := Lib.hid (fun W hW => by
    have hb := (HV.out W hW).1
    exact ⟨hb.of_cell rfl, hb.of_cell rfl, hb.of_cell rfl, hb.of_cell rfl, hb.of_cell rfl⟩)
  clear hV
  obtain ⟨c0, c1, c2, c3, c4⟩ := HGC.out w (Below.refl _ _)
  have cl := lt_of_cell c0
  cases opn with
  | true =>
    have e1 : opnR need total S true = (0, 11) := rfl
    rw [e1]
    clear e1
    go_enter Tryz.func23, Tryz.ntmps23
    go_wp2
    go_ret2
    exact ⟨rfl, HV.out _ (Below.refl _ _), Chg.refl _ _⟩
  | false =>
  have e1 : opnR need total S false = joinF (ord S total) need := rfl
  rw [e1]
  clear e1
  obtain ⟨l, hl⟩ : ∃ l, ord S total = l := ⟨_, rfl⟩
  have hlen : l.length ≤ 16 := by rw [← hl]; exact Nat.le_trans (ord_len _ _) ht
  have HL := Lib.hid hl
  rw [hl]
  have HJ : Hid (∀ (W : World) (A : Option Addr) (c : Nat), l.length ≤ c → Prs W A l → _) := Lib.hid (fun W A c hc hP => join_full A c l need W hP (by omega) hc)
  obtain ⟨⟨j1, j2⟩, hjj⟩ : ∃ jj, joinF l need = jj := ⟨_, rfl⟩
  rw [hjj] at HJ ⊢
  obtain ⟨i1, hj0, hy0, hy1, hy2⟩ := info_parts info_share
  have HI := Lib.hid (And.intro hj0 (And.intro hy0 (And.intro hy1 hy2)))
  have HO0 : Hid (w.ownsRow w.heap.size 37 2 (.slice none 0 0) 0 []) := ⟨rfl, .inl ⟨rfl, rfl⟩⟩
  have HOL : Hid (∀ k, (ord S k).length ≤ k) := Lib.hid (ord_len S)
  clear hj0 hy0 hy1 hy2 hjj hl
  simp only []
  go_enter Tryz.func23, Tryz.ntmps23
  go_wp2_with fail
  clear c0 c1 c2 c3 c4 cl
  go_loopw [4, 23] (fun u4 u23 wr => ∃ k : Nat, k ≤ total ∧ u23 = .int .i64 k ∧ Below w.heap.size w wr ∧ wr.ownsRow w.heap.size 37 2 u4 (ord S k).length (flat2 (ord S k))) (fun _ u23 _ => total - (intOf u23).toNat)
  case atStart => exact ⟨0, Nat.zero_le _, rfl, Below.refl _ _, HO0.out⟩
  case round =>
  obtain ⟨k, hk, rfl, hb, ho⟩ := hrel
  have HB := Lib.hid hb
  have HOW := Lib.hid ho
  clear hb ho
  by_cases hlt : k < total
  case pos =>
    obtain ⟨c0, c1, c2, c3, c4⟩ := HGC.out wr HB.out
    have cl := lt_of_cell c0
    have hol := HOL.out k
    have hki : (k : Int) < (total : Int) := by omega
    have hlk := (HV.out wr HB.out).2.1.look ((k : Int) + 1) (WalkArith.wf_i64 (by omega))
    cases hf : fnd S ((k : Int) + 1) with
    | none =>
      rw [hf] at hlk
      have hlk' : (Instr.lookup 82 (.map (some B)) (.int .i64 ((k : Int) + 1)) true).run Tryz.prog wr = .ok (.tuple #[.agg #[.int .i64 0, .int .i64 0], .bool false]) wr := hlk
      have HE : Hid (ord S (k + 1) = ord S k) := Lib.hid (by rw [ord_succ, hf]; simp)
      clear hlk hf
      go_wp2_with fail
      go_roundw
      case rel => exact ⟨k + 1, by omega, by go_num, below_alloc HB.out _, by rw [HE.out]; exact row_below HOW.out (below_alloc (Below.refl _ _) _)⟩
      case measure => simp [intOf]; omega
    | some s =>
      rw [hf] at hlk
      have hlk' : (Instr.lookup 82 (.map (some B)) (.int .i64 ((k : Int) + 1)) true).run Tryz.prog wr = .ok (.tuple #[.agg #[.int .i64 s.1, .int .i64 s.2], .bool true]) wr := hlk
      have HE : Hid (ord S (k + 1) = ord S k ++ [s]) := Lib.hid (by rw [ord_succ, hf]; rfl)
      clear hlk hf
      have HO2 : Hid (((wr.alloc (.cells #[.int .i64 s.1, .int .i64 s.2] 37)).alloc (.cells #[.int .i64 s.1, .int .i64 s.2] 37)).ownsRow w.heap.size 37 2 u4 (ord S k).length (flat2 (ord S k))) := Lib.hid (row_below HOW.out (below_alloc (below_alloc (Below.refl _ _) _) _))
      go_wp2_with (at_builtin; refine wpList_app _ rfl (.tmp 37) (.tmp 39) 28 28 rfl w.heap.size 37 37 i1 _ 2 16 Tryz.underlying28 Tryz.underlying28 HI.out.1 HI.out.2.1 HI.out.2.2.1 HI.out.2.2.2 rfl (by omega) u4 (ord S k).length _ rfl HO2.out _ 1 1 [.int .i64 s.1, .int .i64 s.2] rfl (Rd_new (wr.alloc (.cells #[.int .i64 s.1, .int .i64 s.2] 37)) #[.int .i64 s.1, .int .i64 s.2] _ 2 1 _ rfl (by simp)) (by simp [Value.oneCell']) (by simp only [maxLen]; omega) (by omega) (by have := HB.out.size; simp; omega) ?_)
      intro v4 w4 hown4 hg4
      have HB4 : Hid (Below w.heap.size w w4) := Lib.hid ((below_alloc (below_alloc HB.out _) _).grown hg4 (by have := HB.out.size; simp; omega) (fun j hj => (HO2.out.lt j hj).1))
      have HO4 := Lib.hid hown4
      clear hown4 hg4 c0 c1 c2 c3 c4 cl hlk'
      go_wp2
      go_roundw
      case rel => exact ⟨k + 1, by omega, by go_num, HB4.out, by rw [HE.out, flat2_append, List.length_append]; exact HO4.out⟩
      case measure => simp [intOf]; omega
  case neg =>
  obtain rfl : k = total := by omega
  rw [HL.out] at HOW
  obtain ⟨A1, c1', rfl, hc1', -, hrd1⟩ := Rd.of_own HOW.out
  have HJ1 := Lib.hid (HJ.out wr A1 c1' hc1' hrd1)
  obtain ⟨c0, c1, c2, c3, c4⟩ := HGC.out wr HB.out
  have cl := lt_of_cell c0
  clear hrd1 HOW
  go_wp2_with fail
  refine HJ1.out.mono ?_
  rintro e w5 ⟨rfl, hb5⟩
  have HB5 := Lib.hid (below_trans HB.out hb5)
  clear hb5 c0 c1 c2 c3 c4 cl
  obtain ⟨c0, c1, c2, c3, c4⟩ := HGC.out w5 HB5.out
  have cl := lt_of_cell c0
  have hfz := (HV.out w5 HB5.out).1.frozen 4
  go_wp2
  go_ret2
  have h5 := HV.out w5 HB5.out
  refine ⟨rfl, ⟨h5.1.set 4 _, h5.2.1.kept (Below.heap_setCell w5 ⟨g, 4, none⟩ _ B (fun e => h5.2.2 e.symm)), h5.2.2⟩, (Chg.of_below HB5.out [g, B]).setCell (.inl (by simp)) _⟩
end

section
open Go.RowKit

theorem lelement_any (a : Int) (w : World) :
    Calls Tryz.prog 27 #[.int .i64 a] w fun e w' => e = .returned (.int .i64 (a % 2147483647)) ∧ w = w' := by
  have h : a.tmod 2147483647 = if 0 ≤ a then a % 2147483647 else -((-a) % 2147483647) := by
    by_cases ha : 0 ≤ a
    · rw [if_pos ha, Int.tmod_eq_emod_of_nonneg ha]
    · rw [if_neg ha, ← Int.tmod_eq_emod_of_nonneg (show 0 ≤ -a by omega), Int.neg_tmod, Int.neg_neg]
  have hb : -2147483647 < a.tmod 2147483647 ∧ a.tmod 2147483647 < 2147483647 := by rw [h]; split <;> omega
  obtain ⟨hb1, hb2⟩ := hb
  by_cases hneg : a.tmod 2147483647 < 0
  · have e : a.tmod 2147483647 + 2147483647 = a % 2147483647 := by rw [h] at hneg ⊢; split at hneg <;> (try split) <;> omega
    have E := Lib.hid e; clear e
    have H := Lib.hid h; clear h
    go_enter Tryz.func27, Tryz.ntmps27
    go_wp2
    go_ret
    exact ⟨ret_int E.out, rfl⟩
  · have e : a.tmod 2147483647 = a % 2147483647 := by rw [h] at hneg ⊢; split at hneg <;> (try split) <;> omega
    have E := Lib.hid e; clear e
    have H := Lib.hid h; clear h
    go_enter Tryz.func27, Tryz.ntmps27
    go_wp2
    go_ret
    exact ⟨ret_int E.out, rfl⟩

theorem welement_any (a : Int) (w : World) :
    Calls Tryz.prog 10 #[.int .i64 a] w fun e w' => e = .returned (.int .i64 (a % 2147483647)) ∧ w = w' := by
  have h : a.tmod 2147483647 = if 0 ≤ a then a % 2147483647 else -((-a) % 2147483647) := by
    by_cases ha : 0 ≤ a
    · rw [if_pos ha, Int.tmod_eq_emod_of_nonneg ha]
    · rw [if_neg ha, ← Int.tmod_eq_emod_of_nonneg (show 0 ≤ -a by omega), Int.neg_tmod, Int.neg_neg]
  have hb : -2147483647 < a.tmod 2147483647 ∧ a.tmod 2147483647 < 2147483647 := by rw [h]; split <;> omega
  obtain ⟨hb1, hb2⟩ := hb
  by_cases hneg : a.tmod 2147483647 < 0
  · have e : a.tmod 2147483647 + 2147483647 = a % 2147483647 := by rw [h] at hneg ⊢; split at hneg <;> (try split) <;> omega
    have E := Lib.hid e; clear e
    have H := Lib.hid h; clear h
    go_enter Tryz.func10, Tryz.ntmps10
    go_wp2
    go_ret
    exact ⟨ret_int E.out, rfl⟩
  · have e : a.tmod 2147483647 = a % 2147483647 := by rw [h] at hneg ⊢; split at hneg <;> (try split) <;> omega
    have E := Lib.hid e; clear e
    have H := Lib.hid h; clear h
    go_enter Tryz.func10, Tryz.ntmps10
    go_wp2
    go_ret
    exact ⟨ret_int E.out, rfl⟩

/-- The elements that made takes out of a list. -/
def madeL (raw : List Int) (k : Nat) : List Int := (List.range k).map fun (i : Nat) => match raw[i]? with | some x => x % 2147483647 | none => (i : Int)

theorem madeL_length (raw : List Int) (k : Nat) : (madeL raw k).length = k := by simp [madeL]

theorem madeL_succ (raw : List Int) (k : Nat) : madeL raw (k + 1) = madeL raw k ++ [match raw[k]? with | some x => x % 2147483647 | none => (k : Int)] := by
  simp [madeL, List.range_succ]

theorem madeL_elem (raw : List Int) (k : Nat) (hk : k ≤ 1000) : (madeL raw k).all elemB = true := by
  rw [List.all_eq_true]
  intro x hx
  obtain ⟨i, hi, rfl⟩ := List.mem_map.1 hx
  have := List.mem_range.1 hi
  rw [elemB_iff]
  split <;> omega
end

section
open Go.RowKit
set_option maxRecDepth 100000 in
set_option maxHeartbeats 4000000 in
theorem isame_any (A B : Option Addr) (c d : Nat) (l m : List Int) (w : World) (hA : Ints w A l) (hB : Ints w B m) (hl : l.length ≤ 1000000) (hm : m.length ≤ 1000000) :
    Calls Tryz.prog 21 #[.slice A l.length c, .slice B m.length d] w fun e w' => e = .returned (.bool (decide (l = m))) ∧ Below w.heap.size w w' := by
  have HA := Lib.hid hA; clear hA
  have HB := Lib.hid hB; clear hB
  by_cases hlen : l.length = m.length
  case neg =>
    have h1 : (((l.length : Int)) == (m.length : Int)) = false := by simp; omega
    have h2 : (((l.length : Int)) != (m.length : Int)) = true := by simp; omega
    have hne : decide (l = m) = false := by
      rw [decide_eq_false_iff_not]
      intro e
      exact hlen (by rw [e])
    have HNE := Lib.hid hne; clear hne hlen
    go_enter Tryz.func21, Tryz.ntmps21
    go_wp2
    go_ret
    rw [HNE.out]
    exact ⟨rfl, Below.refl _ _⟩
  case pos =>
  have h1 : (((l.length : Int)) == (m.length : Int)) = true := by simp [hlen]
  have h2 : (((l.length : Int)) != (m.length : Int)) = false := by simp [hlen]
  have HL := Lib.hid hlen; clear hlen
  go_enter Tryz.func21, Tryz.ntmps21
  go_wp2_with fail
  go_loopw [5] (fun u5 wr => ∃ (k q : Nat), k ≤ l.length ∧ u5 = .int .i64 k ∧ wr = w.drewN q ∧ l.take k = m.take k) (fun u5 _ => l.length - (intOf u5).toNat)
  case atStart => exact ⟨0, 0, Nat.zero_le _, rfl, rfl, rfl⟩
  case round =>
  obtain ⟨k, q, hk, rfl, rfl, hkm⟩ := hrel
  have HKM := Lib.hid hkm; clear hkm
  by_cases hlt : k < l.length
  case neg =>
    have he : decide (l = m) = true := by
      have := HKM.out
      have hl := HL.out
      rw [List.take_of_length_le (by omega), List.take_of_length_le (by omega)] at this
      simpa using this
    have HE := Lib.hid he; clear he
    go_wp2
    go_ret
    rw [HE.out]
    exact ⟨rfl, below_drewN (Below.refl _ _) _⟩
  case pos =>
  obtain ⟨s, hs⟩ := get_some l k hlt
  obtain ⟨t, ht⟩ := get_some m k (by rw [← HL.out]; exact hlt)
  have hmk : k < m.length := (List.getElem?_eq_some_iff.1 ht).1
  obtain ⟨b, off, rfl, hc1⟩ := HA.out.at_ hs
  obtain ⟨b', off', rfl, hd1⟩ := HB.out.at_ ht
  have HS := Lib.hid hs
  have HT := Lib.hid ht
  clear hs ht
  by_cases hst : s = t
  case pos =>
    have e1 : (s == t) = true := by simp [hst]
    have e2 : (s != t) = false := by simp [hst]
    have HST := Lib.hid hst; clear hst
    go_wp2
    go_quiet (fail)
    go_wp2
    go_roundw
    case rel => exact ⟨k + 1, _, by omega, by go_num, rfl, by rw [take_snoc l k s HS.out, take_snoc m k t HT.out, HKM.out, HST.out]⟩
    case measure => simp [intOf]; omega
  case neg =>
    have hne : decide (l = m) = false := by
      rw [decide_eq_false_iff_not]
      intro e
      have h1 := HS.out
      have h2 := HT.out
      rw [e, h2] at h1
      exact hst (Option.some.inj h1).symm
    have HNE := Lib.hid hne; clear hne
    have e1 : (s == t) = false := by simp [hst]
    have e2 : (s != t) = true := by simp [hst]
    clear hst
    go_wp2
    go_quiet (fail)
    go_wp2
    go_ret
    rw [HNE.out]
    exact ⟨rfl, below_drewN (below_drewN (Below.refl _ _) _) _⟩
set_option maxRecDepth 100000 in
set_option maxHeartbeats 4000000 in
theorem wsame_any (A B : Option Addr) (c d : Nat) (l m : List Int) (w : World) (hA : Ints w A l) (hB : Ints w B m) (hl : l.length ≤ 1000000) (hm : m.length ≤ 1000000) :
    Calls Tryz.prog 14 #[.slice A l.length c, .slice B m.length d] w fun e w' => e = .returned (.bool (decide (l = m))) ∧ Below w.heap.size w w' := by
  have HA := Lib.hid hA; clear hA
  have HB := Lib.hid hB; clear hB
  by_cases hlen : l.length = m.length
  case neg =>
    have h1 : (((l.length : Int)) == (m.length : Int)) = false := by simp; omega
    have h2 : (((l.length : Int)) != (m.length : Int)) = true := by simp; omega
    have hne : decide (l = m) = false := by
      rw [decide_eq_false_iff_not]
      intro e
      exact hlen (by rw [e])
    have HNE := Lib.hid hne; clear hne hlen
    go_enter Tryz.func14, Tryz.ntmps14
    go_wp2
    go_ret
    rw [HNE.out]
    exact ⟨rfl, Below.refl _ _⟩
  case pos =>
  have h1 : (((l.length : Int)) == (m.length : Int)) = true := by simp [hlen]
  have h2 : (((l.length : Int)) != (m.length : Int)) = false := by simp [hlen]
  have HL := Lib.hid hlen; clear hlen
  go_enter Tryz.func14, Tryz.ntmps14
  go_wp2_with fail
  go_loopw [5] (fun u5 wr => ∃ (k q : Nat), k ≤ l.length ∧ u5 = .int .i64 k ∧ wr = w.drewN q ∧ l.take k = m.take k) (fun u5 _ => l.length - (intOf u5).toNat)
  case atStart => exact ⟨0, 0, Nat.zero_le _, rfl, rfl, rfl⟩
  case round =>
  obtain ⟨k, q, hk, rfl, rfl, hkm⟩ := hrel
  have HKM := Lib.hid hkm; clear hkm
  by_cases hlt : k < l.length
  case neg =>
    have he : decide (l = m) = true := by
      have := HKM.out
      have hl := HL.out
      rw [List.take_of_length_le (by omega), List.take_of_length_le (by omega)] at this
      simpa using this
    have HE := Lib.hid he; clear he
    go_wp2
    go_ret
    rw [HE.out]
    exact ⟨rfl, below_drewN (Below.refl _ _) _⟩
  case pos =>
  obtain ⟨s, hs⟩ := get_some l k hlt
  obtain ⟨t, ht⟩ := get_some m k (by rw [← HL.out]; exact hlt)
  have hmk : k < m.length := (List.getElem?_eq_some_iff.1 ht).1
  obtain ⟨b, off, rfl, hc1⟩ := HA.out.at_ hs
  obtain ⟨b', off', rfl, hd1⟩ := HB.out.at_ ht
  have HS := Lib.hid hs
  have HT := Lib.hid ht
  clear hs ht
  by_cases hst : s = t
  case pos =>
    have e1 : (s == t) = true := by simp [hst]
    have e2 : (s != t) = false := by simp [hst]
    have HST := Lib.hid hst; clear hst
    go_wp2
    go_quiet (fail)
    go_wp2
    go_roundw
    case rel => exact ⟨k + 1, _, by omega, by go_num, rfl, by rw [take_snoc l k s HS.out, take_snoc m k t HT.out, HKM.out, HST.out]⟩
    case measure => simp [intOf]; omega
  case neg =>
    have hne : decide (l = m) = false := by
      rw [decide_eq_false_iff_not]
      intro e
      have h1 := HS.out
      have h2 := HT.out
      rw [e, h2] at h1
      exact hst (Option.some.inj h1).symm
    have HNE := Lib.hid hne; clear hne
    have e1 : (s == t) = false := by simp [hst]
    have e2 : (s != t) = true := by simp [hst]
    clear hst
    go_wp2
    go_quiet (fail)
    go_wp2
    go_ret
    rw [HNE.out]
    exact ⟨rfl, below_drewN (below_drewN (Below.refl _ _) _) _⟩
theorem lpath_any (A : Option Addr) (c : Nat) (l : List (Int × Int)) (k : Nat) (w : World) (hA : Prs w A l) (hl : l.length ≤ 16) (hv : l.all validB = true) (hk : k < l.length) (hT : Tabs w) :
    Calls Tryz.prog 30 #[.slice A l.length c, .int .i64 k] w fun e w' => ∃ A' c', e = .returned (.slice A' (pt (l.map shLf) k).length c') ∧ (pt (l.map shLf) k).length ≤ c' ∧ Strs w' A' (pt (l.map shLf) k) ∧ Below w.heap.size w w' := by
  have H1 := Lib.hid (rleaves_any A c l w hA (by omega) hv)
  have H2 : Hid (∀ (W : World) (A' : Option Addr) (c' : Nat), Below w.heap.size w W → l.length ≤ c' → Strs W A' (l.map shLf) → Calls Tryz.prog 41 #[.slice A' l.length c', .int .i64 k] W fun e w' => ∃ A'' c'', e = .returned (.tuple #[.slice A'' (pt (l.map shLf) k).length c'', .int .i64 0]) ∧ (pt (l.map shLf) k).length ≤ c'' ∧ Strs w' A'' (pt (l.map shLf) k) ∧ Below W.heap.size W w') := Lib.hid (fun W A' c' hW hc hS => by
    have := tpath_any A' c' (l.map shLf) k W (by rw [List.length_map]; omega) (by rw [List.length_map]; exact hc) hS (shLf_sm l) (hT.below hW) (shLf_D l) (by omega) (by rw [List.length_map]; omega)
    rw [Int.toNat_natCast, List.length_map] at this
    exact this.mono fun _ _ ⟨A1, c1, h1, h2, h3, _, h5⟩ => ⟨A1, c1, h1, h2, h3, h5⟩)
  clear hA hv hT
  generalize pt (l.map shLf) k = P at *
  go_enter Tryz.func30, Tryz.ntmps30
  go_wp2_with fail
  refine H1.out.mono ?_
  rintro e w1 ⟨v1, rfl, ho, hb⟩
  have HB := Lib.hid hb
  obtain ⟨A1, c1, rfl, hc1, -, hr1⟩ := Rd.of_own ho
  have H3 := Lib.hid (H2.out w1 A1 c1 hb hc1 (by unfold Strs; rw [List.length_map]; exact hr1))
  clear ho hb hr1
  go_wp2_with fail
  refine H3.out.mono ?_
  rintro e w2 ⟨A2, c2, rfl, hc2, hs2, hb⟩
  have HB2 := Lib.hid (below_trans HB.out hb)
  have HS2 := Lib.hid hs2
  clear hb hs2
  go_wp2
  go_ret
  exact ⟨_, _, rfl, hc2, HS2.out, HB2.out⟩
set_option maxRecDepth 100000 in
set_option maxHeartbeats 8000000 in
theorem made_any (secret : Int) (A : Option Addr) (c : Nat) (raw : List Int) (a b : Nat) (w : World) (hA : Ints w A raw) (hraw : raw.length ≤ 9223372036854775807) (ha : a < 256) (hb : b < 256) :
    Calls Tryz.prog 28 #[.int .i64 secret, .slice A raw.length c, .int .u8 a, .int .u8 b] w fun e w' =>
      ∃ v, e = .returned (.tuple #[v, .int .i64 ((1 + a % 4 : Nat) : Int), .bool true]) ∧
        w'.ownsRow w.heap.size 37 2 v (1 + a % 4 + b % 3) (flat2 (shs ((secret % 2147483647) :: madeL raw (a % 4)) (1 + a % 4 + b % 3))) ∧ Below w.heap.size w w' := by
  obtain ⟨n, hn⟩ : ∃ n, n = 1 + a % 4 := ⟨_, rfl⟩
  obtain ⟨m, hm⟩ : ∃ m, m = 1 + a % 4 + b % 3 := ⟨_, rfl⟩
  have hn1 : 1 ≤ n := by omega
  have hn4 : n ≤ 4 := by omega
  have hnm : n ≤ m := by omega
  have hm6 : m ≤ 6 := by omega
  have hk : a % 4 = n - 1 := by omega
  have hE : (1 + (a : Int) % 4 = (n : Int)) ∧ ((n : Int) + (b : Int) % 3 = (m : Int)) := by omega
  have HE1 := Lib.hid hE.1
  have HE2 := Lib.hid hE.2
  rw [← hm, ← hn, hk]
  have hsp : Hid (∀ (W : World) (A' : Option Addr) (c' : Nat), Ints W A' (madeL raw (n - 1)) → Calls Tryz.prog 40 #[.int .i64 (secret % 2147483647), .int .i64 n, .int .i64 m, .slice A' (n - 1) c'] W fun e w' => ∃ v, e = .returned (.tuple #[v, .int .i64 0]) ∧ w'.ownsRow W.heap.size 37 2 v m (flat2 (shs ((secret % 2147483647) :: madeL raw (n - 1)) m)) ∧ Below W.heap.size W w') := Lib.hid (fun W A' c' hI => by
    have hml := madeL_length raw (n - 1)
    have := split_any (secret % 2147483647) n m A' c' (madeL raw (n - 1)) W hI hn1 hnm (by omega) (by omega) (by omega) (by rw [List.all_cons, elemB_mod secret, madeL_elem raw (n - 1) (by omega)]; rfl)
    rw [hml] at this
    exact this)
  have HA := Lib.hid hA
  obtain ⟨i0, hi0, hz0, hz1, hz2⟩ := info_parts info_int
  have HI := Lib.hid (And.intro hi0 (And.intro hz0 (And.intro hz1 hz2)))
  have HML := Lib.hid (madeL_succ raw)
  have HLE := Lib.hid (madeL_length raw)
  generalize shs ((secret % 2147483647) :: madeL raw (n - 1)) m = R at *
  have hO0 : w.ownsRow w.heap.size 3 1 (.slice none 0 0) 0 ((madeL raw 0).map (Value.int .i64)) := ⟨rfl, .inl ⟨rfl, rfl⟩⟩
  have HO0 := Lib.hid hO0
  clear hi0 hz0 hz1 hz2 hA hn hm hk hE hO0
  go_enter Tryz.func28, Tryz.ntmps28
  go_wp2_with fail
  rw [HE1.out, HE2.out]
  go_loopw [13, 14, 15] (fun u13 u14 _ wr => ∃ k : Nat, k ≤ n - 1 ∧ u14 = .int .i64 k ∧ Below w.heap.size w wr ∧ wr.ownsRow w.heap.size 3 1 u13 k ((madeL raw k).map (Value.int .i64))) (fun _ u14 _ _ => 6 - (intOf u14).toNat)
  case atStart => exact ⟨0, Nat.zero_le _, rfl, Below.refl _ _, HO0.out⟩
  case round =>
  obtain ⟨k, hk, rfl, hB, hO⟩ := hrel
  have HB := Lib.hid hB; clear hB
  have HO := Lib.hid hO; clear hO
  by_cases hlt : k < n - 1
  case pos =>
    have hlti : (k : Int) < (n : Int) - 1 := by omega
    have step : ∀ (W : World) (x : Int), madeL raw (k + 1) = madeL raw k ++ [x] → ∀ (v1 : Value) (w4 : World), w4.ownsRow w.heap.size 3 1 v1 (k + 1) ((madeL raw k).map (Value.int .i64) ++ [.int .i64 x]) → w4.ownsRow w.heap.size 3 1 v1 (k + 1) ((madeL raw (k + 1)).map (Value.int .i64)) := by
      intro W x hx v1 w4 h
      rw [hx, List.map_append]; exact h
    have STEP := Lib.hid step
    clear step
    by_cases hlr : k < raw.length
    case pos =>
      obtain ⟨x, hx⟩ := get_some raw k hlr
      obtain ⟨bb, off, rfl, hcell⟩ := (HA.out.below HB.out).at_ hx
      have HX : Hid (madeL raw (k + 1) = madeL raw k ++ [x % 2147483647]) := Lib.hid (by rw [HML.out, hx])
      clear hx
      go_wp2_with (first | (go_at_call 27; refine (lelement_any _ _).mono ?_; rintro e w' ⟨rfl, rfl⟩) | (at_builtin; refine wpList_app _ rfl (.tmp 43) (.tmp 45) 22 22 rfl w.heap.size 3 3 i0 _ 1 8 Tryz.underlying22 Tryz.underlying22 HI.out.1 HI.out.2.1 HI.out.2.2.1 HI.out.2.2.2 rfl (by omega) _ k _ rfl (HO.out.alloc _) _ 1 1 [.int .i64 (x % 2147483647)] rfl (Rd_new wr #[.int .i64 (x % 2147483647)] _ 1 1 _ rfl rfl) (by simp [Value.oneCell']) (by simp only [maxLen]; omega) (by omega) (by have := HB.out.size; simp; omega) ?_))
      intro v1 w4 hown4 hg4
      have HB4 : Hid (Below w.heap.size w w4) := Lib.hid ((below_alloc HB.out _).grown hg4 (by have := HB.out.size; simp; omega) (fun j hj => (HO.out.lt j hj).1))
      have HOWN4 := Lib.hid (STEP.out wr _ HX.out v1 w4 hown4)
      clear hown4 hg4
      go_wp2
      go_roundw
      case rel => exact ⟨k + 1, by omega, by go_num, HB4.out, HOWN4.out⟩
      case measure => simp [intOf]; omega
    case neg =>
      have HX : Hid (madeL raw (k + 1) = madeL raw k ++ [(k : Int)]) := Lib.hid (by rw [HML.out, List.getElem?_eq_none (by omega)])
      go_wp2_with (at_builtin; refine wpList_app _ rfl (.tmp 43) (.tmp 45) 22 22 rfl w.heap.size 3 3 i0 _ 1 8 Tryz.underlying22 Tryz.underlying22 HI.out.1 HI.out.2.1 HI.out.2.2.1 HI.out.2.2.2 rfl (by omega) _ k _ rfl (HO.out.alloc _) _ 1 1 [.int .i64 k] rfl (Rd_new wr #[.int .i64 k] _ 1 1 _ rfl rfl) (by simp [Value.oneCell']) (by simp only [maxLen]; omega) (by omega) (by have := HB.out.size; simp; omega) ?_)
      intro v1 w4 hown4 hg4
      have HB4 : Hid (Below w.heap.size w w4) := Lib.hid ((below_alloc HB.out _).grown hg4 (by have := HB.out.size; simp; omega) (fun j hj => (HO.out.lt j hj).1))
      have HOWN4 := Lib.hid (STEP.out wr _ HX.out v1 w4 hown4)
      clear hown4 hg4
      go_wp2
      go_roundw
      case rel => exact ⟨k + 1, by omega, by go_num, HB4.out, HOWN4.out⟩
      case measure => simp [intOf]; omega
  case neg =>
  obtain rfl : k = n - 1 := by omega
  obtain ⟨A1, c1, rfl, -, -, hr1⟩ := Rd.of_own HO.out
  have HS1 := Lib.hid (hsp.out wr A1 c1 (by unfold Ints; rw [HLE.out]; exact hr1))
  clear hr1
  have hge : ¬ (((n - 1 : Nat) : Int) < (n : Int) - 1) := by omega
  go_wp2_with fail
  refine (lelement_any _ _).mono ?_
  rintro e w' ⟨rfl, rfl⟩
  go_wp2_with fail
  refine HS1.out.mono ?_
  rintro e w3 ⟨v3, rfl, ho3, hb3⟩
  have HB3 := Lib.hid (below_trans HB.out hb3)
  have HO3 := Lib.hid (own_mono ho3 HB.out.size)
  obtain ⟨A3, c3, rfl, -, -, -⟩ := Rd.of_own ho3
  clear ho3 hb3
  have hmm : ((m : Int) == (m : Int)) = true := by simp
  go_wp2
  go_ret3
  exact ⟨_, rfl, HO3.out, HB3.out⟩
set_option maxRecDepth 100000 in
set_option maxHeartbeats 8000000 in
theorem wshares_any (secret : Int) (A : Option Addr) (c : Nat) (raw : List Int) (a b : Nat) (w : World) (hA : Ints w A raw) (hraw : raw.length ≤ 9223372036854775807) (ha : a < 256) (hb : b < 256) :
    Calls Tryz.prog 11 #[.int .i64 secret, .slice A raw.length c, .int .u8 a, .int .u8 b] w fun e w' =>
      ∃ v, e = .returned (.tuple #[v, .int .i64 ((1 + a % 4 : Nat) : Int), .bool true]) ∧
        w'.ownsRow w.heap.size 37 2 v (1 + a % 4 + b % 3) (flat2 (shs ((secret % 2147483647) :: madeL raw (a % 4)) (1 + a % 4 + b % 3))) ∧ Below w.heap.size w w' := by
  obtain ⟨n, hn⟩ : ∃ n, n = 1 + a % 4 := ⟨_, rfl⟩
  obtain ⟨m, hm⟩ : ∃ m, m = 1 + a % 4 + b % 3 := ⟨_, rfl⟩
  have hn1 : 1 ≤ n := by omega
  have hn4 : n ≤ 4 := by omega
  have hnm : n ≤ m := by omega
  have hm6 : m ≤ 6 := by omega
  have hk : a % 4 = n - 1 := by omega
  have hE : (1 + (a : Int) % 4 = (n : Int)) ∧ ((n : Int) + (b : Int) % 3 = (m : Int)) := by omega
  have HE1 := Lib.hid hE.1
  have HE2 := Lib.hid hE.2
  rw [← hm, ← hn, hk]
  have hsp : Hid (∀ (W : World) (A' : Option Addr) (c' : Nat), Ints W A' (madeL raw (n - 1)) → Calls Tryz.prog 40 #[.int .i64 (secret % 2147483647), .int .i64 n, .int .i64 m, .slice A' (n - 1) c'] W fun e w' => ∃ v, e = .returned (.tuple #[v, .int .i64 0]) ∧ w'.ownsRow W.heap.size 37 2 v m (flat2 (shs ((secret % 2147483647) :: madeL raw (n - 1)) m)) ∧ Below W.heap.size W w') := Lib.hid (fun W A' c' hI => by
    have hml := madeL_length raw (n - 1)
    have := split_any (secret % 2147483647) n m A' c' (madeL raw (n - 1)) W hI hn1 hnm (by omega) (by omega) (by omega) (by rw [List.all_cons, elemB_mod secret, madeL_elem raw (n - 1) (by omega)]; rfl)
    rw [hml] at this
    exact this)
  have HA := Lib.hid hA
  obtain ⟨i0, hi0, hz0, hz1, hz2⟩ := info_parts info_int
  have HI := Lib.hid (And.intro hi0 (And.intro hz0 (And.intro hz1 hz2)))
  have HML := Lib.hid (madeL_succ raw)
  have HLE := Lib.hid (madeL_length raw)
  generalize shs ((secret % 2147483647) :: madeL raw (n - 1)) m = R at *
  have hO0 : w.ownsRow w.heap.size 3 1 (.slice none 0 0) 0 ((madeL raw 0).map (Value.int .i64)) := ⟨rfl, .inl ⟨rfl, rfl⟩⟩
  have HO0 := Lib.hid hO0
  clear hi0 hz0 hz1 hz2 hA hn hm hk hE hO0
  go_enter Tryz.func11, Tryz.ntmps11
  go_wp2_with fail
  rw [HE1.out, HE2.out]
  go_loopw [13, 14, 15] (fun u13 u14 _ wr => ∃ k : Nat, k ≤ n - 1 ∧ u14 = .int .i64 k ∧ Below w.heap.size w wr ∧ wr.ownsRow w.heap.size 3 1 u13 k ((madeL raw k).map (Value.int .i64))) (fun _ u14 _ _ => 6 - (intOf u14).toNat)
  case atStart => exact ⟨0, Nat.zero_le _, rfl, Below.refl _ _, HO0.out⟩
  case round =>
  obtain ⟨k, hk, rfl, hB, hO⟩ := hrel
  have HB := Lib.hid hB; clear hB
  have HO := Lib.hid hO; clear hO
  by_cases hlt : k < n - 1
  case pos =>
    have hlti : (k : Int) < (n : Int) - 1 := by omega
    have step : ∀ (W : World) (x : Int), madeL raw (k + 1) = madeL raw k ++ [x] → ∀ (v1 : Value) (w4 : World), w4.ownsRow w.heap.size 3 1 v1 (k + 1) ((madeL raw k).map (Value.int .i64) ++ [.int .i64 x]) → w4.ownsRow w.heap.size 3 1 v1 (k + 1) ((madeL raw (k + 1)).map (Value.int .i64)) := by
      intro W x hx v1 w4 h
      rw [hx, List.map_append]; exact h
    have STEP := Lib.hid step
    clear step
    by_cases hlr : k < raw.length
    case pos =>
      obtain ⟨x, hx⟩ := get_some raw k hlr
      obtain ⟨bb, off, rfl, hcell⟩ := (HA.out.below HB.out).at_ hx
      have HX : Hid (madeL raw (k + 1) = madeL raw k ++ [x % 2147483647]) := Lib.hid (by rw [HML.out, hx])
      clear hx
      go_wp2_with (first | (go_at_call 10; refine (welement_any _ _).mono ?_; rintro e w' ⟨rfl, rfl⟩) | (at_builtin; refine wpList_app _ rfl (.tmp 43) (.tmp 45) 22 22 rfl w.heap.size 3 3 i0 _ 1 8 Tryz.underlying22 Tryz.underlying22 HI.out.1 HI.out.2.1 HI.out.2.2.1 HI.out.2.2.2 rfl (by omega) _ k _ rfl (HO.out.alloc _) _ 1 1 [.int .i64 (x % 2147483647)] rfl (Rd_new wr #[.int .i64 (x % 2147483647)] _ 1 1 _ rfl rfl) (by simp [Value.oneCell']) (by simp only [maxLen]; omega) (by omega) (by have := HB.out.size; simp; omega) ?_))
      intro v1 w4 hown4 hg4
      have HB4 : Hid (Below w.heap.size w w4) := Lib.hid ((below_alloc HB.out _).grown hg4 (by have := HB.out.size; simp; omega) (fun j hj => (HO.out.lt j hj).1))
      have HOWN4 := Lib.hid (STEP.out wr _ HX.out v1 w4 hown4)
      clear hown4 hg4
      go_wp2
      go_roundw
      case rel => exact ⟨k + 1, by omega, by go_num, HB4.out, HOWN4.out⟩
      case measure => simp [intOf]; omega
    case neg =>
      have HX : Hid (madeL raw (k + 1) = madeL raw k ++ [(k : Int)]) := Lib.hid (by rw [HML.out, List.getElem?_eq_none (by omega)])
      go_wp2_with (at_builtin; refine wpList_app _ rfl (.tmp 43) (.tmp 45) 22 22 rfl w.heap.size 3 3 i0 _ 1 8 Tryz.underlying22 Tryz.underlying22 HI.out.1 HI.out.2.1 HI.out.2.2.1 HI.out.2.2.2 rfl (by omega) _ k _ rfl (HO.out.alloc _) _ 1 1 [.int .i64 k] rfl (Rd_new wr #[.int .i64 k] _ 1 1 _ rfl rfl) (by simp [Value.oneCell']) (by simp only [maxLen]; omega) (by omega) (by have := HB.out.size; simp; omega) ?_)
      intro v1 w4 hown4 hg4
      have HB4 : Hid (Below w.heap.size w w4) := Lib.hid ((below_alloc HB.out _).grown hg4 (by have := HB.out.size; simp; omega) (fun j hj => (HO.out.lt j hj).1))
      have HOWN4 := Lib.hid (STEP.out wr _ HX.out v1 w4 hown4)
      clear hown4 hg4
      go_wp2
      go_roundw
      case rel => exact ⟨k + 1, by omega, by go_num, HB4.out, HOWN4.out⟩
      case measure => simp [intOf]; omega
  case neg =>
  obtain rfl : k = n - 1 := by omega
  obtain ⟨A1, c1, rfl, -, -, hr1⟩ := Rd.of_own HO.out
  have HS1 := Lib.hid (hsp.out wr A1 c1 (by unfold Ints; rw [HLE.out]; exact hr1))
  clear hr1
  have hge : ¬ (((n - 1 : Nat) : Int) < (n : Int) - 1) := by omega
  go_wp2_with fail
  refine (welement_any _ _).mono ?_
  rintro e w' ⟨rfl, rfl⟩
  go_wp2_with fail
  refine HS1.out.mono ?_
  rintro e w3 ⟨v3, rfl, ho3, hb3⟩
  have HB3 := Lib.hid (below_trans HB.out hb3)
  have HO3 := Lib.hid (own_mono ho3 HB.out.size)
  obtain ⟨A3, c3, rfl, -, -, -⟩ := Rd.of_own ho3
  clear ho3 hb3
  have hmm : ((m : Int) == (m : Int)) = true := by simp
  go_wp2
  go_ret3
  exact ⟨_, rfl, HO3.out, HB3.out⟩
end

section
open Go.RowKit

theorem below_chg {F : List Nat} {w W w' : World} (h : Below w.heap.size w W) (hc : Chg F W w') (hF : ∀ k, k ∈ F → w.heap.size ≤ k) : Below w.heap.size w w' := h.trans (hc.below hF h.size)

set_option maxRecDepth 100000 in
set_option maxHeartbeats 64000000 in
theorem bhead_any (w : World) (hT : Tabs w) : Calls Tryz.prog 16 #[] w fun e w' => e = .returned (.bool true) ∧ Below w.heap.size w w' := by
  have HT : Hid (∀ W, Below w.heap.size w W → Tabs W) := Lib.hid (fun W hW => hT.below hW)
  have HPL0 : Hid (∀ (A : Option Addr) (c k : Nat) (W : World), Prs W A L3 → k < 3 → Tabs W → Calls Tryz.prog 30 #[.slice A 3 c, .int .i64 k] W fun e w' => ∃ A' c', e = .returned (.slice A' (Pk k).length c') ∧ (Pk k).length ≤ c' ∧ Strs w' A' (Pk k) ∧ Below W.heap.size W w') := Lib.hid (fun A c k W hP hk hT => lpath_any A c L3 k W hP (by decide) L3_val hk hT)
  have HRT : Hid (rt (L3.map shLf) = R3) := Lib.hid rfl
  have HRD := Lib.hid R3_D
  have HRS : Hid (R3.size ≤ 1000000000) := Lib.hid (by have := rt_size (L3.map shLf) (shLf_sm _); unfold R3; omega)
  have HPL := Lib.hid Pk_len
  have HPS := Lib.hid Pk_sm
  have O1 := Lib.hid h3_o1
  have O2 := Lib.hid h3_o2
  have O3 := Lib.hid h3_o3
  have O4 := Lib.hid h3_o4
  have S1 := Lib.hid h3_s1
  have S2 := Lib.hid h3_s2
  have S3 := Lib.hid h3_s3
  have S4 := Lib.hid h3_s4
  generalize Pk = P at *
  generalize R3 = R at *
  clear hT
  go_enter Tryz.func16, Tryz.ntmps16
  go_wp2_with fail
  refine (split_any 7 2 3 _ _ [5] _ (Ints_new w #[.int .i64 5] _ _ [5] rfl rfl) (by omega) (by omega) (by omega) (by simp) (by simp) rfl).mono ?_
  rintro e w1 ⟨v1, rfl, hown1, hb1⟩
  obtain ⟨A1, c1, rfl, -, -, hrd1⟩ := Rd.of_own hown1
  rw [ex5] at hrd1
  have HB1 := Lib.hid (below_trans (below_alloc (Below.refl _ _) _) hb1)
  have HP1 : Hid (∀ W, Below w1.heap.size w1 W → Prs W A1 L3) := Lib.hid (fun W hW => Prs.below (show Prs w1 A1 L3 from hrd1) hW)
  clear hown1 hb1 hrd1
  go_wp2_with fail
  refine (sroot_any A1 c1 L3 w1 (HP1.out _ (Below.refl _ _)) (by decide) (by decide) L3_val (HT.out _ HB1.out)).mono ?_
  rintro e w2 ⟨rfl, hb⟩
  have HB2 := Lib.hid (below_trans HB1.out hb)
  have HX2 : Hid (Below w1.heap.size w1 w2) := Lib.hid hb
  clear hb
  rw [HRT.out]
  have HP2 : Hid (∀ W, Below w2.heap.size w2 W → Prs W A1 L3) := Lib.hid (fun W hW => HP1.out W (below_trans HX2.out hW))
  go_wp2_with fail
  refine (vnew_ok 2 3 R w2 HRS.out (by omega) (by omega) (by omega) HRD.out).mono ?_
  rintro e w3 ⟨g, B, rfl, hV, hg, hB, hb⟩
  have HV3 := Lib.hid hV
  have HGB : Hid (∀ k, k ∈ [g, B] → w2.heap.size ≤ k) := Lib.hid (by intro k hk; simp only [List.mem_cons, List.not_mem_nil, or_false] at hk; rcases hk with rfl | rfl <;> assumption)
  have HY3 : Hid (Below w2.heap.size w2 w3) := Lib.hid hb
  clear hV hg hB hb
  have HPT : Hid (∀ (k : Nat) W, k < 3 → Below w2.heap.size w2 W → _) := Lib.hid (fun k W hk hW => HPL0.out A1 c1 k W (HP2.out W hW) hk (HT.out W (below_trans HB2.out hW)))
  have HOF : Hid (∀ (s : Int × Int) (SS : List (Int × Int)) (C : Option Addr) (f k : Nat) W, SS.length ≤ 1000 → PV W g B 2 3 R SS false → Strs W C (P k) → (P k).length ≤ f → Below w2.heap.size w2 W → _) := Lib.hid (fun s SS C f k W hn hV hC hf hW => voffer_any g B 2 3 R SS false s C f (P k) W hV hn hC (HPL.out k) hf (HPS.out k) (HT.out W (below_trans HB2.out hW)))
  clear HRS
  obtain ⟨b, off, rfl, -, -⟩ := (HP2.out _ (Below.refl _ _)).at_ (show L3[0]? = some (1, 12) from rfl)
  go_wp2_with fail
  refine wp_region_held_drew (S := fun W => Below w2.heap.size w2 W) (by kernel_rfl) (HY3.out.drew) (fun hS0 => ?_)
  refine wpAnyH_take (i := 0) (v := ?_) rfl (by kernel_rfl) (by kernel_rfl) (by kernel_rfl) (fun _ _ _ h => h) (Or.inl ⟨by kernel_rfl, ?hy⟩) hS0 ?rest
  case hy => (intro W hSw; clear hSw; go_simp; with_reducible rfl)
  case rest =>
  refine wpAnyH_take (i := 1) (v := ?_) rfl (by kernel_rfl) (by kernel_rfl) (by kernel_rfl) (fun _ _ _ h => h) (Or.inl ⟨by kernel_rfl, ?hy⟩) hS0 ?rest
  case hy => (intro W hSw; clear hSw; go_simp; with_reducible rfl)
  case rest =>
  refine wpAnyH_take (i := 2) (v := ?_) rfl (by kernel_rfl) (by kernel_rfl) (by kernel_rfl) (fun _ _ _ h => h) (Or.inl ⟨by kernel_rfl, ?hy⟩) hS0 ?rest
  case hy => (intro W hSw; clear hSw; go_simp; with_reducible rfl)
  case rest =>
  refine wpAnyH_take (i := 3) (v := ?_) rfl (by kernel_rfl) (by kernel_rfl) (by kernel_rfl) (fun _ _ _ h => h) (Or.inl ⟨by kernel_rfl, ?hy⟩) hS0 ?rest
  case hy => (intro W hSw; obtain ⟨b, off, he, q1, q2⟩ := (HP2.out W hSw).at_ (show L3[0]? = some (1, 12) from rfl); cases he; have ql := lt_of_cell q1; have r1 : W.cell? ⟨b, off, none⟩ = some (.int .i64 1) := q1; have r2 : W.cell? ⟨b, off + 1, none⟩ = some (.int .i64 12) := q2; clear q1 q2 hSw; go_simp; with_reducible rfl)
  case rest =>
  refine wpAnyH_take (i := 4) (v := ?_) rfl (by kernel_rfl) (by kernel_rfl) (by kernel_rfl) (fun _ _ _ h => h) (Or.inl ⟨by kernel_rfl, ?hy⟩) hS0 ?rest
  case hy => (intro W hSw; clear hSw; go_simp; with_reducible rfl)
  case rest =>
  refine wpAnyH_ready (rs := [5]) (by kernel_rfl) (by simp) ?_
  refine AllReadyH.cons rfl (fun K hK => ?_) (AllReadyH.nil)
  go_simp
  refine (HPT.out 0 _ (by omega) HY3.out.drew).mono ?_
  rintro e wp ⟨C, f, rfl, hf, hC, hb⟩
  have HYP := Lib.hid (below_trans HY3.out.drew hb)
  have HVP := Lib.hid (HV3.out.below (below_trans (Below.refl _ _).drew hb))
  have HC := Lib.hid hC
  clear hb hC
  go_simp
  refine hK.out _ _ HYP.out (fun hS1 => ?_)
  clear hK K
  refine wpAnyH_ready (rs := [6]) (by kernel_rfl) (by simp) ?_
  refine AllReadyH.cons rfl (fun K hK => ?_) (AllReadyH.nil)
  go_simp
  refine (HOF.out (1, 12) [] C f 0 wp (by simp) HVP.out HC.out hf HYP.out).mono ?_
  rintro e w4 ⟨rfl, hV, hc⟩
  rw [O1.out]
  rw [S1.out] at hV
  have HV4 := Lib.hid hV
  have HY4 := Lib.hid (below_chg HYP.out hc HGB.out)
  clear hV hc
  go_simp
  refine hK.out _ _ HY4.out (fun hS2 => ?_)
  clear hK K
  refine wpAnyH_take (i := 7) (v := ?_) rfl (by kernel_rfl) (by kernel_rfl) (by kernel_rfl) (fun _ _ _ h => h) (Or.inl ⟨by kernel_rfl, ?hy⟩) hS2 ?rest
  case hy => (intro W hSw; clear hSw; go_simp; with_reducible rfl)
  case rest =>
  refine wpAnyH_done (by kernel_rfl) ?_ _
  clear hS0 hS1 hS2 HYP HVP HC hf
  go_wp2_with fail
  refine (vopen_any g B 2 3 R [(1, 12)] false w4 HV4.out (by omega)).mono ?_
  rintro e w5 ⟨rfl, hV, hc⟩
  rw [h3_j1]
  rw [h3_j1] at hV
  have HV5 := Lib.hid hV
  have HY5 := Lib.hid (below_chg HY4.out hc HGB.out)
  clear hV hc
  skip
  go_wp2_with fail
  refine wp_region_held_drew (S := fun W => Below w2.heap.size w2 W) (by kernel_rfl) (HY5.out.drew) (fun hS0 => ?_)
  refine wpAnyH_take (i := 0) (v := ?_) rfl (by kernel_rfl) (by kernel_rfl) (by kernel_rfl) (fun _ _ _ h => h) (Or.inl ⟨by kernel_rfl, ?hy⟩) hS0 ?rest
  case hy => (intro W hSw; clear hSw; go_simp; with_reducible rfl)
  case rest =>
  refine wpAnyH_take (i := 1) (v := ?_) rfl (by kernel_rfl) (by kernel_rfl) (by kernel_rfl) (fun _ _ _ h => h) (Or.inl ⟨by kernel_rfl, ?hy⟩) hS0 ?rest
  case hy => (intro W hSw; clear hSw; go_simp; with_reducible rfl)
  case rest =>
  refine wpAnyH_take (i := 2) (v := ?_) rfl (by kernel_rfl) (by kernel_rfl) (by kernel_rfl) (fun _ _ _ h => h) (Or.inl ⟨by kernel_rfl, ?hy⟩) hS0 ?rest
  case hy => (intro W hSw; clear hSw; go_simp; with_reducible rfl)
  case rest =>
  refine wpAnyH_take (i := 3) (v := ?_) rfl (by kernel_rfl) (by kernel_rfl) (by kernel_rfl) (fun _ _ _ h => h) (Or.inl ⟨by kernel_rfl, ?hy⟩) hS0 ?rest
  case hy => (intro W hSw; obtain ⟨b, off, he, q1, q2⟩ := (HP2.out W hSw).at_ (show L3[0]? = some (1, 12) from rfl); cases he; have ql := lt_of_cell q1; have r1 : W.cell? ⟨b, off, none⟩ = some (.int .i64 1) := q1; have r2 : W.cell? ⟨b, off + 1, none⟩ = some (.int .i64 12) := q2; clear q1 q2 hSw; go_simp; with_reducible rfl)
  case rest =>
  refine wpAnyH_take (i := 4) (v := ?_) rfl (by kernel_rfl) (by kernel_rfl) (by kernel_rfl) (fun _ _ _ h => h) (Or.inl ⟨by kernel_rfl, ?hy⟩) hS0 ?rest
  case hy => (intro W hSw; clear hSw; go_simp; with_reducible rfl)
  case rest =>
  refine wpAnyH_ready (rs := [5]) (by kernel_rfl) (by simp) ?_
  refine AllReadyH.cons rfl (fun K hK => ?_) (AllReadyH.nil)
  go_simp
  refine (HPT.out 0 _ (by omega) HY5.out.drew).mono ?_
  rintro e wp ⟨C, f, rfl, hf, hC, hb⟩
  have HYP := Lib.hid (below_trans HY5.out.drew hb)
  have HVP := Lib.hid (HV5.out.below (below_trans (Below.refl _ _).drew hb))
  have HC := Lib.hid hC
  clear hb hC
  go_simp
  refine hK.out _ _ HYP.out (fun hS1 => ?_)
  clear hK K
  refine wpAnyH_ready (rs := [6]) (by kernel_rfl) (by simp) ?_
  refine AllReadyH.cons rfl (fun K hK => ?_) (AllReadyH.nil)
  go_simp
  refine (HOF.out (1, 12) [(1, 12)] C f 0 wp (by simp) HVP.out HC.out hf HYP.out).mono ?_
  rintro e w6 ⟨rfl, hV, hc⟩
  rw [O2.out]
  rw [S2.out] at hV
  have HV6 := Lib.hid hV
  have HY6 := Lib.hid (below_chg HYP.out hc HGB.out)
  clear hV hc
  go_simp
  refine hK.out _ _ HY6.out (fun hS2 => ?_)
  clear hK K
  refine wpAnyH_take (i := 7) (v := ?_) rfl (by kernel_rfl) (by kernel_rfl) (by kernel_rfl) (fun _ _ _ h => h) (Or.inl ⟨by kernel_rfl, ?hy⟩) hS2 ?rest
  case hy => (intro W hSw; clear hSw; go_simp; with_reducible rfl)
  case rest =>
  refine wpAnyH_done (by kernel_rfl) ?_ _
  clear hS0 hS1 hS2 HYP HVP HC hf
  go_wp2_with fail
  refine (HPT.out 2 w6 (by omega) HY6.out).mono ?_
  rintro e wp ⟨C, f, rfl, hf, hC, hb⟩
  have HYP := Lib.hid (below_trans HY6.out hb)
  have HVP := Lib.hid (HV6.out.below hb)
  have HC := Lib.hid hC
  clear hb hC
  go_wp2_with fail
  refine (HOF.out (3, 23) [(1, 12)] C f 2 wp (by simp) HVP.out HC.out hf HYP.out).mono ?_
  rintro e w7 ⟨rfl, hV, hc⟩
  rw [O3.out]
  rw [S3.out] at hV
  have HV7 := Lib.hid hV
  have HY7 := Lib.hid (below_chg HYP.out hc HGB.out)
  clear hV hc HYP HVP HC hf
  skip
  go_wp2_with fail
  refine wp_region_held_drew (S := fun W => Below w2.heap.size w2 W) (by kernel_rfl) (HY7.out.drew) (fun hS0 => ?_)
  refine wpAnyH_take (i := 0) (v := ?_) rfl (by kernel_rfl) (by kernel_rfl) (by kernel_rfl) (fun _ _ _ h => h) (Or.inl ⟨by kernel_rfl, ?hy⟩) hS0 ?rest
  case hy => (intro W hSw; clear hSw; go_simp; with_reducible rfl)
  case rest =>
  refine wpAnyH_take (i := 1) (v := ?_) rfl (by kernel_rfl) (by kernel_rfl) (by kernel_rfl) (fun _ _ _ h => h) (Or.inl ⟨by kernel_rfl, ?hy⟩) hS0 ?rest
  case hy => (intro W hSw; clear hSw; go_simp; with_reducible rfl)
  case rest =>
  refine wpAnyH_take (i := 2) (v := ?_) rfl (by kernel_rfl) (by kernel_rfl) (by kernel_rfl) (fun _ _ _ h => h) (Or.inl ⟨by kernel_rfl, ?hy⟩) hS0 ?rest
  case hy => (intro W hSw; clear hSw; go_simp; with_reducible rfl)
  case rest =>
  refine wpAnyH_take (i := 3) (v := ?_) rfl (by kernel_rfl) (by kernel_rfl) (by kernel_rfl) (fun _ _ _ h => h) (Or.inl ⟨by kernel_rfl, ?hy⟩) hS0 ?rest
  case hy => (intro W hSw; obtain ⟨b, off, he, q1, q2⟩ := (HP2.out W hSw).at_ (show L3[2]? = some (3, 22) from rfl); cases he; have ql := lt_of_cell q1; have r1 : W.cell? ⟨b, off + 4, none⟩ = some (.int .i64 3) := q1; have r2 : W.cell? ⟨b, off + 4 + 1, none⟩ = some (.int .i64 22) := q2; have r3 : W.cell? ⟨b, off + 5, none⟩ = some (.int .i64 22) := q2; clear q1 q2 hSw; go_simp; with_reducible rfl)
  case rest =>
  refine wpAnyH_take (i := 4) (v := ?_) rfl (by kernel_rfl) (by kernel_rfl) (by kernel_rfl) (fun _ _ _ h => h) (Or.inl ⟨by kernel_rfl, ?hy⟩) hS0 ?rest
  case hy => (intro W hSw; clear hSw; go_simp; with_reducible rfl)
  case rest =>
  refine wpAnyH_ready (rs := [5]) (by kernel_rfl) (by simp) ?_
  refine AllReadyH.cons rfl (fun K hK => ?_) (AllReadyH.nil)
  go_simp
  refine (HPT.out 2 _ (by omega) HY7.out.drew).mono ?_
  rintro e wp ⟨C, f, rfl, hf, hC, hb⟩
  have HYP := Lib.hid (below_trans HY7.out.drew hb)
  have HVP := Lib.hid (HV7.out.below (below_trans (Below.refl _ _).drew hb))
  have HC := Lib.hid hC
  clear hb hC
  go_simp
  refine hK.out _ _ HYP.out (fun hS1 => ?_)
  clear hK K
  refine wpAnyH_ready (rs := [6]) (by kernel_rfl) (by simp) ?_
  refine AllReadyH.cons rfl (fun K hK => ?_) (AllReadyH.nil)
  go_simp
  refine (HOF.out (3, 22) [(1, 12)] C f 2 wp (by simp) HVP.out HC.out hf HYP.out).mono ?_
  rintro e w8 ⟨rfl, hV, hc⟩
  rw [O4.out]
  rw [S4.out] at hV
  have HV8 := Lib.hid hV
  have HY8 := Lib.hid (below_chg HYP.out hc HGB.out)
  clear hV hc
  go_simp
  refine hK.out _ _ HY8.out (fun hS2 => ?_)
  clear hK K
  refine wpAnyH_take (i := 7) (v := ?_) rfl (by kernel_rfl) (by kernel_rfl) (by kernel_rfl) (fun _ _ _ h => h) (Or.inl ⟨by kernel_rfl, ?hy⟩) hS2 ?rest
  case hy => (intro W hSw; clear hSw; go_simp; with_reducible rfl)
  case rest =>
  refine wpAnyH_done (by kernel_rfl) ?_ _
  clear hS0 hS1 hS2 HYP HVP HC hf
  go_wp2_with fail
  refine (vopen_any g B 2 3 R [(1, 12), (3, 22)] false w8 HV8.out (by omega)).mono ?_
  rintro e w9 ⟨rfl, hV, hc⟩
  rw [h3_j2]
  rw [h3_j2] at hV
  have HV9 := Lib.hid hV
  have HY9 := Lib.hid (below_chg HY8.out hc HGB.out)
  clear hV hc
  go_wp2_with fail
  refine (vopen_any g B 2 3 R [(1, 12), (3, 22)] true w9 HV9.out (by omega)).mono ?_
  rintro e w10 ⟨rfl, hV, hc⟩
  rw [h3_j3]
  rw [h3_j3] at hV
  have HV10 := Lib.hid hV
  have HY10 := Lib.hid (below_chg HY9.out hc HGB.out)
  clear hV hc
  have HBk : Hid (Below w.heap.size w w10) := Lib.hid (below_trans HB2.out HY10.out)
  have hbk := back_ok h3_bl
  have HB1L := Lib.hid hbk.1
  have HB2L := Lib.hid hbk.2
  clear hbk
  go_wp2_with fail
  refine (blind_any (some ⟨w10.heap.size, 0, none⟩) 2 [5, -5] 7 _ (Ints_new w10 #[.int .i64 5, .int .i64 (-5)] _ _ [5, -5] rfl rfl) (by simp) (HT.out _ (below_alloc HBk.out _))).mono ?_
  rintro e wb ⟨vb, rfl, ho, hb⟩
  rw [h3_bl]
  have hlen := blL_len h3_bl
  have hg0 := blL_get h3_bl (show [(5 : Int), -5][0]? = some 5 from rfl)
  have hl0 := offN_lt (7 : Int).toNat 0
  generalize offN (7 : Int).toNat 0 = d0 at *
  obtain ⟨A4, c4, rfl, -, -, hr4⟩ := Rd.of_own ho
  have HI4 : Hid (Ints wb A4 (blL [5, -5] 7)) := Lib.hid hr4
  have HBb := Lib.hid (below_trans (below_alloc HBk.out _) hb)
  have HUN := Lib.hid (unblind_any A4 c4 (blL [5, -5] 7) 7 wb hr4 (by rw [hlen]; simp) (HT.out _ (below_trans (below_alloc HBk.out _) hb)))
  rw [HB1L.out, HB2L.out] at HUN
  rw [hlen] at HUN ⊢
  have HLEN := Lib.hid hlen
  clear ho hb hr4 hlen
  go_wp2_with fail
  refine (HUN.out).mono ?_
  rintro e wu ⟨vu, rfl, ho, hb⟩
  obtain ⟨A5, c5, rfl, -, -, hr5⟩ := Rd.of_own ho
  have HBu := Lib.hid (below_trans HBb.out hb)
  have hI5 : Ints wu A5 [5, -5] := hr5
  obtain ⟨b5, o5, rfl, q50⟩ := hI5.at_ (show [(5 : Int), -5][0]? = some 5 from rfl)
  obtain ⟨b5', o5', he5, q51⟩ := hI5.at_ (show [(5 : Int), -5][1]? = some (-5) from rfl)
  cases he5
  obtain ⟨b4, o4, rfl, q40⟩ := (HI4.out.below hb).at_ hg0
  rw [Nat.add_zero] at q50 q40
  have l5 := lt_of_cell q50
  have l4 := lt_of_cell q40
  clear ho hb hr5 hI5 hg0 HUN
  have hx1 : (5 : Int) ≤ 5 + (d0 : Int) := by omega
  have hx2 : 5 + (d0 : Int) ≤ 1000007 := by omega
  go_wp2
  go_ret
  exact ⟨rfl, HBu.out⟩

  
end

section
open Go.RowKit

theorem info_bool : (Tryz.prog.info? 4).map (fun i => (i.zero, i.size, i.bytes)) = some (some (.bool false), 1, 1) := by kernel_rfl
def BArr (w : World) (B T : Nat) (l : List Bool) : Prop := w.heap[B]? = some (.cells (l.map Value.bool).toArray T (0, 0))
theorem BArr.lt {w : World} {B T : Nat} {l : List Bool} (h : BArr w B T l) : B < w.heap.size := (Array.getElem?_eq_some_iff.1 h).1
theorem BArr.cell {w : World} {B T : Nat} {l : List Bool} (h : BArr w B T l) (j : Nat) (x : Bool) (hx : l[j]? = some x) : w.cell? ⟨B, j, none⟩ = some (.bool x) := by
  rw [cell_of_row w B j _ T (0, 0) h]; simp [hx]
theorem BArr.frozen {w : World} {B T : Nat} {l : List Bool} (h : BArr w B T l) (j : Nat) : w.frozen? ⟨B, j, none⟩ = false := frozen_of_row w B j _ T h
theorem BArr.kept {w w' : World} {B T : Nat} {l : List Bool} (h : BArr w B T l) (hb : w'.heap[B]? = w.heap[B]?) : BArr w' B T l := hb.trans h
theorem BArr.below {w w' : World} {B T : Nat} {l : List Bool} (h : BArr w B T l) (hb : Below w.heap.size w w') : BArr w' B T l := h.kept (hb.block B h.lt)
theorem BArr.set {w : World} {B T : Nat} {l : List Bool} (h : BArr w B T l) (i : Nat) (v : Bool) : BArr (w.setCell ⟨B, i, none⟩ (.bool v)) B T (l.set i v) := by
  have := heap_setCell_same w B i _ T (.bool v) h
  unfold BArr
  rw [this]
  congr 2
  rw [List.map_set]
  simp
theorem BArr.of_made {w : World} {base T n g : Nat} (h : w.ownsRow base T 1 (.slice (some ⟨g, 0, none⟩) n n) n (madeCells #[.bool false] n).toList) : BArr w g T (List.replicate n false) ∧ base ≤ g := by
  obtain ⟨h1, h2⟩ := h
  rcases h2 with ⟨h2, _⟩ | ⟨g', cap, cur, hv, hb, hg, hn, _, hs, ht⟩
  · simp at h2
  · simp only [Value.slice.injEq, Option.some.injEq, Addr.mk.injEq, and_true, true_and] at hv
    obtain ⟨rfl, rfl⟩ := hv
    rw [List.take_of_length_le (by simp [hs])] at ht
    have e : cur = madeCells #[.bool false] n := Array.toList_inj.1 ht
    refine ⟨?_, hb⟩
    unfold BArr
    rw [hg, e]
    congr 2
    apply Array.ext_getElem?
    intro j
    by_cases hj : j < n
    · simp [madeCells, hj, List.getElem?_replicate, Nat.mod_one]
    · simp [madeCells, hj, List.getElem?_replicate]

/-- A slice of bytes. -/
def U8s (w : World) (A : Option Addr) (l : List Nat) : Prop := Rd w 1 A l.length (l.map fun (x : Nat) => Value.int .u8 (x : Int))
theorem U8s.below {w w' : World} {A : Option Addr} {l : List Nat} (h : U8s w A l) (hb : Below w.heap.size w w') : U8s w' A l := Rd.below h hb
theorem U8s.at_ {w : World} {A : Option Addr} {xs : List Nat} (h : U8s w A xs) {k : Nat} {x : Nat} (hk : xs[k]? = some x) :
    ∃ b off, A = some ⟨b, off, none⟩ ∧ w.cell? ⟨b, off + k, none⟩ = some (.int .u8 x) := by
  have hl : k < xs.length := (List.getElem?_eq_some_iff.1 hk).1
  obtain ⟨b, off, e, hc⟩ := h.2 (by omega)
  exact ⟨b, off, e, hc k _ (by simp [hk])⟩
theorem u8s_in {w : World} {A : Option Addr} {c : Nat} {l : List Int} (h : SlC w 1 (IntC .u8) [.slice A l.length c] l) : U8s w A (l.map Int.toNat) ∧ (∀ x, x ∈ l.map Int.toNat → x < 256) ∧ l.length ≤ 9223372036854775807 := by
  obtain ⟨A', c', he, h1, h2, h3⟩ := h
  obtain ⟨rfl, rfl⟩ : A = A' ∧ c = c' := by simpa using he
  refine ⟨⟨by simp, fun hn => ?_⟩, fun y hy => ?_, by unfold maxLen at h2; omega⟩
  · obtain ⟨b, off, rfl, _, hc⟩ := h3 (by simpa using hn)
    refine ⟨b, off, rfl, fun j u hu => ?_⟩
    rw [List.getElem?_map, List.getElem?_map] at hu
    cases hx : l[j]? with
    | none => rw [hx] at hu; cases hu
    | some x =>
      rw [hx] at hu
      obtain ⟨cs', _, hcs, hr, hw⟩ := hc j x hx
      obtain ⟨n, rfl⟩ := wf_u8_ hw
      have := hcs 0 (.int .u8 n.toNat) (by rw [hr]; rfl)
      simp only [Nat.mul_one, Nat.add_zero] at this
      rw [this]
      simpa using hu
  · obtain ⟨x, hx, rfl⟩ := List.mem_map.1 hy
    obtain ⟨j, hj⟩ := List.getElem?_of_mem hx
    obtain ⟨b, off, _, _, hc⟩ := h3 (by have := (List.getElem?_eq_some_iff.1 hj).1; omega)
    obtain ⟨cs', _, hcs, hr, hw⟩ := hc j x hj
    obtain ⟨n, rfl⟩ := wf_u8_ hw
    have := n.toNat_lt
    simpa using this
end

end Go.Proofs.YtdlgejofggbifaaGreatDoor
