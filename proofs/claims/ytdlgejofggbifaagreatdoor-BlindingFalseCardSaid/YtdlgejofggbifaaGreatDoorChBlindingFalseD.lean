/- The examples of observatorylaw52.head: plain facts; blinding and back. blinding: the vault. blinding: the vault's Open. Contracts of the helpers of observatorylaw07: element, made, chosen. Helpers of chapter 52's laws: same, path, made. observatorylaw52.head: the chapter's examples. The reference of layer 2: Texts. The reference of layer 2: Shown. append inside a region that draws (a step of wpAnyH). -/
import Derived.Test.YtdlgejofggbifaaGreatDoorChBlindingFalseC
import Derived.StillTailTactics
import Derived.Deep.RegionHeld3
namespace Go.Proofs.YtdlgejofggbifaaGreatDoor

section
open Go.RowKit

def L3 : List (Int × Int) := [(1, 12), (2, 17), (3, 22)]
def R3 : ByteArray := rt (L3.map shLf)
theorem L3_val : L3.all validB = true := by decide
theorem R3_D : isD R3 = true := isD_rt _ (shLf_D _)
theorem c3_own (k : Nat) (t : Int × Int) (ht : L3[k]? = some t) (hp : t.1 = (k : Int) + 1) : shChk R3 ((3 : Nat) : Int) t (pt (L3.map shLf) k) = true :=
  shChk_own L3 k t (by decide) (by decide) ht hp (List.all_eq_true.1 L3_val t (List.mem_of_getElem? ht))
theorem ne3 : nd (nd (shLf (1, 12)) (shLf (2, 17))) (shLf (3, 23)) ≠ nd (nd (shLf (1, 12)) (shLf (2, 17))) (shLf (3, 22)) :=
  fun h => absurd (decide_eq_true h) (by rw [show decide (nd (nd (shLf (1, 12)) (shLf (2, 17))) (shLf (3, 23)) = nd (nd (shLf (1, 12)) (shLf (2, 17))) (shLf (3, 22))) = false from by kernel_rfl]; simp)
theorem R3_eq : R3 = nd (nd (shLf (1, 12)) (shLf (2, 17))) (shLf (3, 22)) := by
  show rt [shLf (1, 12), shLf (2, 17), shLf (3, 22)] = _
  rw [rt3]
theorem c3_bad : shChk R3 ((3 : Nat) : Int) (3, 23) (pt (L3.map shLf) 2) = false := by
  have e : pt (L3.map shLf) 2 = [nd (shLf (1, 12)) (shLf (2, 17))] := by
    show pt [shLf (1, 12), shLf (2, 17), shLf (3, 22)] 2 = _
    rw [pt32]
  unfold shChk
  rw [e, R3_eq]
  have h : chkB (nd (nd (shLf (1, 12)) (shLf (2, 17))) (shLf (3, 22))) ((3 : Nat) : Int) ((3 : Int) - 1) (shLf (3, 23)) [nd (shLf (1, 12)) (shLf (2, 17))] = false := by
    unfold chkB
    show (decide (((3 : Nat) : Int) ≤ 1000000 ∧ (0 : Int) ≤ 2 ∧ (2 : Int) < ((3 : Nat) : Int)) && allD [nd (shLf (1, 12)) (shLf (2, 17))] && isD (shLf (3, 23)) && (decide (upv 3 2 (shLf (3, 23)) [nd (shLf (1, 12)) (shLf (2, 17))] = nd (nd (shLf (1, 12)) (shLf (2, 17))) (shLf (3, 22))) && decide ([nd (shLf (1, 12)) (shLf (2, 17))].length = plen 3 2))) = false
    rw [up32, decide_eq_false ne3]
    simp
  rw [show ((3, 23) : Int × Int).1 - 1 = (3 : Int) - 1 from rfl, h, Bool.and_false]

def Pk (k : Nat) : List ByteArray := pt (L3.map shLf) k
theorem h3_o1 : offE R3 ((3 : Nat) : Int) [] false (1, 12) (Pk 0) = 0 := by
  unfold offE Pk
  rw [c3_own 0 (1, 12) rfl rfl]; rfl
theorem h3_s1 : offS R3 ((3 : Nat) : Int) [] false (1, 12) (Pk 0) = [(1, 12)] := by unfold offS; rw [h3_o1]; rfl
theorem h3_o2 : offE R3 ((3 : Nat) : Int) [(1, 12)] false (1, 12) (Pk 0) = 8 := by
  unfold offE Pk
  rw [c3_own 0 (1, 12) rfl rfl]; rfl
theorem h3_s2 : offS R3 ((3 : Nat) : Int) [(1, 12)] false (1, 12) (Pk 0) = [(1, 12)] := by unfold offS; rw [h3_o2]; rfl
theorem h3_o3 : offE R3 ((3 : Nat) : Int) [(1, 12)] false (3, 23) (Pk 2) = 24 := by
  unfold offE Pk
  rw [c3_bad]; rfl
theorem h3_s3 : offS R3 ((3 : Nat) : Int) [(1, 12)] false (3, 23) (Pk 2) = [(1, 12)] := by unfold offS; rw [h3_o3]; rfl
theorem h3_o4 : offE R3 ((3 : Nat) : Int) [(1, 12)] false (3, 22) (Pk 2) = 0 := by
  unfold offE Pk
  rw [c3_own 2 (3, 22) rfl rfl]; rfl
theorem h3_s4 : offS R3 ((3 : Nat) : Int) [(1, 12)] false (3, 22) (Pk 2) = [(1, 12), (3, 22)] := by unfold offS; rw [h3_o4]; rfl
theorem on3 : On [7, 5] [(1, 12), (3, 22)] := ⟨by simp, by simp [evp], by decide⟩
theorem h3_j1 : opnR ((2 : Nat) : Int) 3 [(1, 12)] false = (0, 25) := by
  show joinF (ord [(1, 12)] 3) ((2 : Nat) : Int) = _
  rw [show ord [(1, 12)] 3 = [(1, 12)] from rfl]
  exact joinF_on_few [7, 5] 2 _ (on3.sublist (by simp)) (by omega) (by omega) (by simp)
theorem h3_j2 : opnR ((2 : Nat) : Int) 3 [(1, 12), (3, 22)] false = (7, 0) := by
  show joinF (ord [(1, 12), (3, 22)] 3) ((2 : Nat) : Int) = _
  rw [show ord [(1, 12), (3, 22)] 3 = [(1, 12), (3, 22)] from rfl]
  exact joinF_on [7, 5] 2 _ on3 (by omega) (by omega) (by simp) (by simp)
theorem h3_j3 : opnR ((2 : Nat) : Int) 3 [(1, 12), (3, 22)] true = (0, 11) := rfl
theorem Pk_len (k : Nat) : (Pk k).length ≤ 1000000 := by
  unfold Pk
  rw [pt_len]
  have := plen_lt_n (L3.map shLf).length k (by decide)
  have e : (L3.map shLf).length = 3 := rfl
  omega
theorem Pk_sm (k : Nat) : sm (Pk k) := pt_below _ _ (shLf_sm _)

/-! ### blinding and back -/
theorem back_ok {l : List Int} {s : Int} (h : mvOk l s 1000000000 = true) : mvOk (blL l s) s 1001000002 = true ∧ unL (blL l s) s = l := by
  have h0 := h
  simp only [mvOk, Bool.and_eq_true, decide_eq_true_eq, List.all_eq_true] at h
  obtain ⟨⟨h1, h2⟩, h3⟩ := h
  have e : blL l s = mvA l s.toNat 1 := by unfold blL mvL; rw [h0]; rfl
  have hok : mvOk (mvA l s.toNat 1) s 1001000002 = true := by
    simp only [mvOk, Bool.and_eq_true, decide_eq_true_eq, List.all_eq_true]
    refine ⟨⟨by rw [mvA_length]; exact h1, h2⟩, fun y hy => ?_⟩
    obtain ⟨i, hi⟩ := List.getElem?_of_mem hy
    have hil : i < l.length := by have := (List.getElem?_eq_some_iff.1 hi).1; rwa [mvA_length] at this
    obtain ⟨x, hx⟩ := get_some l i hil
    rw [mvA_get s.toNat 1 hx] at hi
    have hy' := Option.some.inj hi
    have hr := h3 x (List.mem_of_getElem? hx)
    have ho := offN_lt s.toNat i
    simp only [mvR, Bool.and_eq_true, decide_eq_true_eq] at hr ⊢
    omega
  refine ⟨by rw [e]; exact hok, ?_⟩
  rw [e]
  unfold unL mvL
  rw [hok, if_pos rfl]
  apply List.ext_getElem?
  intro i
  cases hx : l[i]? with
  | none =>
    rw [List.getElem?_eq_none_iff] at hx ⊢
    rw [mvA_length, mvA_length]; exact hx
  | some x =>
    rw [mvA_get s.toNat (-1) (mvA_get s.toNat 1 hx)]
    congr 1
    omega
theorem blL_get {l : List Int} {s : Int} (h : mvOk l s 1000000000 = true) {i : Nat} {x : Int} (hx : l[i]? = some x) : (blL l s)[i]? = some (x + (offN s.toNat i : Int)) := by
  unfold blL mvL
  rw [h, if_pos rfl, mvA_get s.toNat 1 hx]
  congr 1
  omega
theorem blL_len {l : List Int} {s : Int} (h : mvOk l s 1000000000 = true) : (blL l s).length = l.length := by
  unfold blL mvL
  rw [h, if_pos rfl, mvA_length]
theorem h3_bl : mvOk [5, -5] 7 1000000000 = true := by decide
end

section
open Go.RowKit

/-- A vault in memory: its block g, the block B of the map of the offered shares. -/
def PV (w : World) (g B : Nat) (need total : Nat) (root : ByteArray) (S : List (Int × Int)) (opn : Bool) : Prop :=
  Blk w g 84 #[.int .i64 need, .int .i64 total, .string root, .map (some B), .bool opn] ∧ Offs w B S.length S ∧ g ≠ B
theorem PV.kept {w w' : World} {g B need total : Nat} {root : ByteArray} {S : List (Int × Int)} {opn : Bool} (h : PV w g B need total root S opn) (h1 : w'.heap[g]? = w.heap[g]?) (h2 : w'.heap[B]? = w.heap[B]?) : PV w' g B need total root S opn :=
  ⟨h1.trans h.1, h.2.1.kept h2, h.2.2⟩
theorem PV.lt {w : World} {g B need total : Nat} {root : ByteArray} {S : List (Int × Int)} {opn : Bool} (h : PV w g B need total root S opn) : g < w.heap.size ∧ B < w.heap.size := ⟨h.1.lt, h.2.1.lt⟩
theorem PV.chg {w w' : World} {F : List Nat} {g B need total : Nat} {root : ByteArray} {S : List (Int × Int)} {opn : Bool} (h : PV w g B need total root S opn) (hc : Chg F w w') (hg : g ∉ F) (hB : B ∉ F) : PV w' g B need total root S opn :=
  h.kept (hc.block g h.lt.1 hg) (hc.block B h.lt.2 hB)
theorem PV.below {w w' : World} {g B need total : Nat} {root : ByteArray} {S : List (Int × Int)} {opn : Bool} (h : PV w g B need total root S opn) (hb : Below w.heap.size w w') : PV w' g B need total root S opn :=
  h.kept (hb.block g h.lt.1) (hb.block B h.lt.2)

def newOk (need total : Int) (root : ByteArray) : Bool := decide (1 ≤ total ∧ total ≤ 16 ∧ 1 ≤ need ∧ need ≤ total) && isD root

set_option maxHeartbeats 4000000 in
theorem vnew_ok (need total : Nat) (root : ByteArray) (w : World) (hr : root.size ≤ 1000000000) (h1 : 1 ≤ need) (h2 : need ≤ total) (h3 : total ≤ 16) (hd : isD root = true) :
    Calls Tryz.prog 19 #[.int .i64 need, .string root, .int .i64 total] w fun e w' => ∃ g B, e = .returned (.tuple #[.pointer (some ⟨g, 0, none⟩), .int .i64 0]) ∧ PV w' g B need total root [] false ∧ w.heap.size ≤ g ∧ w.heap.size ≤ B ∧ Below w.heap.size w w' := by
  have HI := Lib.hid (is_any root w hr)
  rw [hd] at HI
  have hmm := @run_makeMap Tryz.prog
  have d1 : decide ((total : Int) < 1) = false := decide_eq_false (by omega)
  have d2 : decide (16 < (total : Int)) = false := decide_eq_false (by omega)
  have d3 : decide ((need : Int) < 1) = false := decide_eq_false (by omega)
  have d4 : decide (total < need) = false := decide_eq_false (by omega)
  clear hd
  go_enter Tryz.func19, Tryz.ntmps19
  go_wp2_with fail
  refine HI.out.mono ?_
  rintro e w1 ⟨rfl, hb⟩
  have HB := Lib.hid hb
  clear hb
  go_wp2
  go_ret2
  refine ⟨_, _, rfl, ⟨Blk.new _ _ _ _ (by simp), (Offs.made w1).below (below_alloc (Below.refl _ _) _), ?_⟩, ?_, ?_, below_trans HB.out (below_alloc (below_alloc (Below.refl _ _) _) _)⟩
  · simp
  · have := HB.out.size; simp; omega
  · have := HB.out.size; simp; omega

set_option maxHeartbeats 4000000 in
theorem vnew_bad (need total : Int) (root : ByteArray) (w : World) (hr : root.size ≤ 1000000000) (h : newOk need total root = false) :
    Calls Tryz.prog 19 #[.int .i64 need, .string root, .int .i64 total] w fun e w' => e = .returned (.tuple #[.pointer none, .int .i64 1]) ∧ Below w.heap.size w w' := by
  have HI := Lib.hid (is_any root w hr)
  by_cases h1 : total < 1
  · have d1 : decide (total < 1) = true := decide_eq_true h1
    go_enter Tryz.func19, Tryz.ntmps19
    go_wp2
    go_ret2
    exact ⟨rfl, Below.refl _ _⟩
  have d1 : decide (total < 1) = false := decide_eq_false h1
  by_cases h2 : 16 < total
  · have d2 : decide (16 < total) = true := decide_eq_true h2
    go_enter Tryz.func19, Tryz.ntmps19
    go_wp2
    go_ret2
    exact ⟨rfl, Below.refl _ _⟩
  have d2 : decide (16 < total) = false := decide_eq_false h2
  by_cases h3 : need < 1
  · have d3 : decide (need < 1) = true := decide_eq_true h3
    go_enter Tryz.func19, Tryz.ntmps19
    go_wp2
    go_ret2
    exact ⟨rfl, Below.refl _ _⟩
  have d3 : decide (need < 1) = false := decide_eq_false h3
  by_cases h4 : total < need
  · have d4 : decide (total < need) = true := decide_eq_true h4
    go_enter Tryz.func19, Tryz.ntmps19
    go_wp2
    go_ret2
    exact ⟨rfl, Below.refl _ _⟩
  have d4 : decide (total < need) = false := decide_eq_false h4
  have hd : isD root = false := by
    have := h
    unfold newOk at this
    rw [decide_eq_true (by omega), Bool.true_and] at this
    exact this
  rw [hd] at HI
  clear hd h
  go_enter Tryz.func19, Tryz.ntmps19
  go_wp2_with fail
  refine HI.out.mono ?_
  rintro e w1 ⟨rfl, hb⟩
  have HB := Lib.hid hb
  clear hb
  go_wp2
  go_ret2
  exact ⟨rfl, HB.out⟩

set_option maxHeartbeats 4000000 in
theorem holds_any (need total : Int) (root : ByteArray) (s : Int × Int) (C : Option Addr) (f : Nat) (p : List ByteArray) (w : World) (hS : Strs w C p) (hbig : p.length ≤ 1000000) (hcap : p.length ≤ f) (hsm : sm p) (hT : Tabs w) :
    Calls Tryz.prog 49 #[.agg #[.int .i64 need, .int .i64 total, .string root], .agg #[.int .i64 s.1, .int .i64 s.2], .slice C p.length f] w fun e w' => e = .returned (.bool (shChk root total s p)) ∧ Below w.heap.size w w' := by
  have H : Hid (∀ W, Below w.heap.size w W → _) := Lib.hid (fun W hW => scheck_any root total s C f p W (hS.below hW) hbig hcap hsm (hT.below hW))
  clear hS hsm hT
  go_enter Tryz.func49, Tryz.ntmps49
  go_wp2_with fail
  refine (H.out _ (below_alloc (below_alloc (Below.refl _ _) _) _)).mono ?_
  rintro e w1 ⟨rfl, hb⟩
  have HB := Lib.hid hb
  clear hb
  go_wp2
  go_ret
  exact ⟨rfl, below_trans (below_alloc (below_alloc (Below.refl _ _) _) _) HB.out⟩
set_option maxRecDepth 100000 in
set_option maxHeartbeats 16000000 in
theorem voffer_any (g B need total : Nat) (root : ByteArray) (S : List (Int × Int)) (opn : Bool) (s : Int × Int) (C : Option Addr) (f : Nat) (p : List ByteArray) (w : World) (hV : PV w g B need total root S opn) (hn : S.length ≤ 1000) (hP : Strs w C p) (hbig : p.length ≤ 1000000) (hcap : p.length ≤ f) (hsm : sm p) (hT : Tabs w) :
    Calls Tryz.prog 25 #[.pointer (some ⟨g, 0, none⟩), .agg #[.int .i64 s.1, .int .i64 s.2], .slice C p.length f] w fun e w' =>
      e = .returned (.int .i64 (offE root total S opn s p)) ∧ PV w' g B need total root (offS root total S opn s p) opn ∧ Chg [g, B] w w' := by
  obtain ⟨w0, hw0⟩ : ∃ w0, w.alloc (.cells #[.int .i64 s.1, .int .i64 s.2] 37) = w0 := ⟨_, rfl⟩
  have HB0 : Hid (Below w.heap.size w w0) := Lib.hid (by rw [← hw0]; exact below_alloc (Below.refl _ _) _)
  have HK : Hid (∀ W, Below w0.heap.size w0 W → W.cell? ⟨w.heap.size, 0, none⟩ = some (.int .i64 s.1) ∧ W.cell? ⟨w.heap.size, 1, none⟩ = some (.int .i64 s.2)) := Lib.hid (fun W hW => by
    have hb : Blk w0 w.heap.size 37 #[.int .i64 s.1, .int .i64 s.2] := by rw [← hw0]; exact Blk.new w _ _ _ rfl
    exact ⟨kept_cell hW (hb.of_cell rfl), kept_cell hW (hb.of_cell rfl)⟩)
  have HV : Hid (∀ W, Below w0.heap.size w0 W → PV W g B need total root S opn) := Lib.hid (fun W hW => (hV.below HB0.out).below hW)
  have HVW := Lib.hid hV
  have HH : Hid (∀ W, Below w0.heap.size w0 W → _) := Lib.hid (fun W hW => holds_any need total root s C f p W ((hP.below HB0.out).below hW) hbig hcap hsm ((hT.below HB0.out).below hW))
  have HW0 := Lib.hid hw0
  have HGC : Hid (∀ W, Below w0.heap.size w0 W → W.cell? ⟨g, 0, none⟩ = some (.int .i64 need) ∧ W.cell? ⟨g, 1, none⟩ = some (.int .i64 total) ∧ W.cell? ⟨g, 2, none⟩ = some (.string root) ∧ W.cell? ⟨g, 3, none⟩ = some (.map (some B)) ∧ W.cell? ⟨g, 4, none⟩ = some (.bool opn)) := Lib.hid (fun W hW => by
    have hb := (HV.out W hW).1
    exact ⟨hb.of_cell rfl, hb.of_cell rfl, hb.of_cell rfl, hb.of_cell rfl, hb.of_cell rfl⟩)
  obtain ⟨er, her⟩ : ∃ er, offE root total S opn s p = er := ⟨_, rfl⟩
  obtain ⟨S', hS'⟩ : ∃ S', offS root total S opn s p = S' := ⟨_, rfl⟩
  have HER := Lib.hid her
  have HS' := Lib.hid hS'
  rw [her, hS']
  obtain ⟨ck, hck⟩ : ∃ ck, shChk root total s p = ck := ⟨_, rfl⟩
  have HCK := Lib.hid hck
  rw [hck] at HH
  clear hw0 hV hP hsm hT her hS' hck
  obtain ⟨c0, c1, c2, c3, c4⟩ := HGC.out w0 (Below.refl _ _)
  have cl := lt_of_cell c0
  cases opn with
  | true =>
    have he : er = 11 := by rw [← HER.out]; rfl
    have hs : S' = S := by rw [← HS'.out]; unfold offS; rw [HER.out, he]; rfl
    subst he
    subst hs
    go_enter Tryz.func25, Tryz.ntmps25
    go_upto_region 1 with (fail)
    rw [HW0.out]
    go_wp2
    go_ret
    exact ⟨rfl, HV.out _ (Below.refl _ _), Chg.of_below HB0.out _⟩
  | false =>
  cases ck with
  | false =>
    have he : er = 24 := by rw [← HER.out]; unfold offE; rw [HCK.out]; rfl
    have hs : S' = S := by rw [← HS'.out]; unfold offS; rw [HER.out, he]; rfl
    subst he
    subst hs
    go_enter Tryz.func25, Tryz.ntmps25
    go_upto_region 1 with (fail)
    rw [HW0.out]
    go_wp2_with fail
    clear c0 c1 c2 c3 c4 cl
    refine wp_region_belowC (by kernel_rfl) (by kernel_rfl) (fun WQ HQS HQN => ?_)
    refine HQS.go (fun K hK => ?_)
    go_simp
    apply Exists.intro
    refine ⟨fun W hW => ?_, hK _ ?_⟩
    · (try go_simp)
      exact rfl
    clear hK K
    refine HQS.go (fun K hK => ?_)
    go_simp
    apply Exists.intro
    refine ⟨fun W hW => ?_, hK _ ?_⟩
    · (try go_simp)
      exact rfl
    clear hK K
    refine HQS.go (fun K hK => ?_)
    go_simp
    apply Exists.intro
    refine ⟨fun W hW => ?_, hK _ ?_⟩
    · (try go_simp)
      exact rfl
    clear hK K
    refine HQS.go (fun K hK => ?_)
    go_simp
    apply Exists.intro
    refine ⟨fun W hW => ?_, hK _ ?_⟩
    · obtain ⟨c0, c1, c2, c3, c4⟩ := HGC.out W hW
      have cl := lt_of_cell c0
      go_simp
      exact rfl
    clear hK K
    refine HQS.go (fun K hK => ?_)
    go_simp
    apply Exists.intro
    refine ⟨fun W hW => ?_, hK _ ?_⟩
    · obtain ⟨q0, q1⟩ := HK.out W hW
      have ql := lt_of_cell q0
      go_simp
      exact rfl
    clear hK K
    refine HQS.go (fun K hK => ?_)
    go_simp
    apply Exists.intro
    refine ⟨fun W hW => ?_, hK _ ?_⟩
    · (try go_simp)
      exact rfl
    clear hK K
    refine HQS.go (fun K hK => ?_)
    go_simp
    apply Exists.intro
    refine ⟨fun W hW => ?_, hK _ ?_⟩
    · exact (HH.out W hW).mono fun _ _ ⟨he, hb⟩ => ⟨he, below_trans hW hb⟩
    clear hK K
    refine HQS.go (fun K hK => ?_)
    go_simp
    apply Exists.intro
    refine ⟨fun W hW => ?_, hK _ ?_⟩
    · (try go_simp)
      exact rfl
    clear hK K
    refine HQS.go (fun K hK => ?_)
    go_simp
    apply Exists.intro
    refine ⟨fun W hW => ?_, hK _ ?_⟩
    · (try go_simp)
      exact rfl
    clear hK K
    refine HQN.go ?_
    intro w2 hW
    have HB2 := Lib.hid hW
    clear hW
    go_wp2
    go_ret
    exact ⟨rfl, HV.out _ HB2.out, Chg.of_below (below_trans HB0.out HB2.out) _⟩
  | true =>
  have hvp : 1 ≤ s.1 ∧ s.1 ≤ 16 := by
      have h1 := HCK.out
      unfold shChk at h1
      simp only [Bool.and_eq_true] at h1
      have := (validB_iff s).1 h1.1.2
      omega
  have HFL : Hid (∀ W, Below w0.heap.size w0 W → (Instr.lookup 82 (.map (some B)) (.int .i64 s.1) true).run Tryz.prog W = .ok (.tuple #[match fnd S s.1 with | some s => .agg #[.int .i64 s.1, .int .i64 s.2] | none => .agg #[.int .i64 0, .int .i64 0], .bool (fnd S s.1).isSome]) W) := Lib.hid (fun W hW => (HV.out W hW).2.1.look s.1 (WalkArith.wf_i64 (by omega)))
  cases hf : fnd S s.1 with
  | some t =>
    have he : er = 8 := by rw [← HER.out]; unfold offE; rw [HCK.out, hf]; rfl
    have hs : S' = S := by rw [← HS'.out]; unfold offS; rw [HER.out, he]; rfl
    subst he
    subst hs
    rw [hf] at HFL
    have HFL' : Hid (∀ W, Below w0.heap.size w0 W → (Instr.lookup 82 (.map (some B)) (.int .i64 s.1) true).run Tryz.prog W = .ok (.tuple #[.agg #[.int .i64 t.1, .int .i64 t.2], .bool true]) W) := HFL
    clear HFL hf
    go_enter Tryz.func25, Tryz.ntmps25
    go_upto_region 1 with (fail)
    rw [HW0.out]
    go_wp2_with fail
    clear c0 c1 c2 c3 c4 cl
    refine wp_region_belowC (by kernel_rfl) (by kernel_rfl) (fun WQ HQS HQN => ?_)
    refine HQS.go (fun K hK => ?_)
    go_simp
    apply Exists.intro
    refine ⟨fun W hW => ?_, hK _ ?_⟩
    · (try go_simp)
      exact rfl
    clear hK K
    refine HQS.go (fun K hK => ?_)
    go_simp
    apply Exists.intro
    refine ⟨fun W hW => ?_, hK _ ?_⟩
    · (try go_simp)
      exact rfl
    clear hK K
    refine HQS.go (fun K hK => ?_)
    go_simp
    apply Exists.intro
    refine ⟨fun W hW => ?_, hK _ ?_⟩
    · (try go_simp)
      exact rfl
    clear hK K
    refine HQS.go (fun K hK => ?_)
    go_simp
    apply Exists.intro
    refine ⟨fun W hW => ?_, hK _ ?_⟩
    · obtain ⟨c0, c1, c2, c3, c4⟩ := HGC.out W hW
      have cl := lt_of_cell c0
      go_simp
      exact rfl
    clear hK K
    refine HQS.go (fun K hK => ?_)
    go_simp
    apply Exists.intro
    refine ⟨fun W hW => ?_, hK _ ?_⟩
    · obtain ⟨q0, q1⟩ := HK.out W hW
      have ql := lt_of_cell q0
      go_simp
      exact rfl
    clear hK K
    refine HQS.go (fun K hK => ?_)
    go_simp
    apply Exists.intro
    refine ⟨fun W hW => ?_, hK _ ?_⟩
    · (try go_simp)
      exact rfl
    clear hK K
    refine HQS.go (fun K hK => ?_)
    go_simp
    apply Exists.intro
    refine ⟨fun W hW => ?_, hK _ ?_⟩
    · exact (HH.out W hW).mono fun _ _ ⟨he, hb⟩ => ⟨he, below_trans hW hb⟩
    clear hK K
    refine HQS.go (fun K hK => ?_)
    go_simp
    apply Exists.intro
    refine ⟨fun W hW => ?_, hK _ ?_⟩
    · (try go_simp)
      exact rfl
    clear hK K
    refine HQS.go (fun K hK => ?_)
    go_simp
    apply Exists.intro
    refine ⟨fun W hW => ?_, hK _ ?_⟩
    · (try go_simp)
      exact rfl
    clear hK K
    refine HQN.go ?_
    intro w2 hW
    have HB2 := Lib.hid hW
    clear hW
    obtain ⟨c0, c1, c2, c3, c4⟩ := HGC.out w2 HB2.out
    have cl := lt_of_cell c0
    go_wp2_with fail
    clear c0 c1 c2 c3 c4 cl
    refine wp_region_held_drew (S := fun W => Below w2.heap.size w2 W) (by kernel_rfl) ((Below.refl _ _).drew) (fun hS0 => ?_)
    refine wpAnyH_take (i := 0) (v := ?_) rfl (by kernel_rfl) (by kernel_rfl) (by kernel_rfl) (fun _ _ _ h => h) (Or.inl ⟨by kernel_rfl, ?hy⟩) hS0 ?rest
    case hy => (intro W hSw; clear hSw; go_simp; try with_reducible rfl)
    case rest =>
    refine wpAnyH_take (i := 1) (v := ?_) rfl (by kernel_rfl) (by kernel_rfl) (by kernel_rfl) (fun _ _ _ h => h) (Or.inl ⟨by kernel_rfl, ?hy⟩) hS0 ?rest
    case hy => (intro W hSw; clear hSw; go_simp; try with_reducible rfl)
    case rest =>
    refine wpAnyH_take (i := 2) (v := ?_) rfl (by kernel_rfl) (by kernel_rfl) (by kernel_rfl) (fun _ _ _ h => h) (Or.inl ⟨by kernel_rfl, ?hy⟩) hS0 ?rest
    case hy => (intro W hSw; clear hSw; go_simp; try with_reducible rfl)
    case rest =>
    refine wpAnyH_take (i := 3) (v := ?_) rfl (by kernel_rfl) (by kernel_rfl) (by kernel_rfl) (fun _ _ _ h => h) (Or.inl ⟨by kernel_rfl, ?hy⟩) hS0 ?rest
    case hy => (intro W hSw; obtain ⟨c0, c1, c2, c3, c4⟩ := HGC.out W (below_trans HB2.out hSw); have cl := lt_of_cell c0; clear hSw; go_simp; try with_reducible rfl)
    case rest =>
    refine wpAnyH_take (i := 4) (v := ?_) rfl (by kernel_rfl) (by kernel_rfl) (by kernel_rfl) (fun _ _ _ h => h) (Or.inl ⟨by kernel_rfl, ?hy⟩) hS0 ?rest
    case hy => (intro W hSw; clear hSw; go_simp; try with_reducible rfl)
    case rest =>
    refine wpAnyH_take (i := 5) (v := ?_) rfl (by kernel_rfl) (by kernel_rfl) (by kernel_rfl) (fun _ _ _ h => h) (Or.inl ⟨by kernel_rfl, ?hy⟩) hS0 ?rest
    case hy => (intro W hSw; obtain ⟨q0, q1⟩ := HK.out W (below_trans HB2.out hSw); have ql := lt_of_cell q0; clear hSw; go_simp; try with_reducible rfl)
    case rest =>
    refine wpAnyH_take (i := 6) (v := ?_) rfl (by kernel_rfl) (by kernel_rfl) (by kernel_rfl) (fun _ _ _ h => h) (Or.inl ⟨by kernel_rfl, ?hy⟩) hS0 ?rest
    case hy => (intro W hSw; have q := HFL'.out W (below_trans HB2.out hSw); clear hSw; go_simp; try with_reducible rfl)
    case rest =>
    refine wpAnyH_take (i := 7) (v := ?_) rfl (by kernel_rfl) (by kernel_rfl) (by kernel_rfl) (fun _ _ _ h => h) (Or.inl ⟨by kernel_rfl, ?hy⟩) hS0 ?rest
    case hy => (intro W hSw; clear hSw; go_simp; try with_reducible rfl)
    case rest =>
    refine wpAnyH_take (i := 8) (v := ?_) rfl (by kernel_rfl) (by kernel_rfl) (by kernel_rfl) (fun _ _ _ h => h) (Or.inl ⟨by kernel_rfl, ?hy⟩) hS0 ?rest
    case hy => (intro W hSw; clear hSw; go_simp; try with_reducible rfl)
    case rest =>
    refine wpAnyH_take (i := 9) (v := ?_) rfl (by kernel_rfl) (by kernel_rfl) (by kernel_rfl) (fun _ _ _ h => h) (Or.inl ⟨by kernel_rfl, ?hy⟩) hS0 ?rest
    case hy => (intro W hSw; clear hSw; go_simp; try with_reducible rfl)
    case rest =>
    refine wpAnyH_ready (rs := [10]) (by kernel_rfl) (by simp) ?_
    refine AllReadyH.cons rfl (fun K hK => ?_) (AllReadyH.nil)
    go_simp
    refine hK.out _ _ (below_alloc (Below.refl _ _).drew _) (fun hS1 => ?_)
    clear hK K
    refine wpAnyH_ready (rs := [11]) (by kernel_rfl) (by simp) ?_
    refine AllReadyH.cons rfl (fun K hK => ?_) (AllReadyH.nil)
    go_simp
    refine hK.out _ _ (below_alloc (Below.refl _ _).drew _) (fun hS2 => ?_)
    clear hK K
    refine wpAnyH_take (i := 12) (v := ?_) rfl (by kernel_rfl) (by kernel_rfl) (by kernel_rfl) (fun _ _ _ h => h) (Or.inl ⟨by kernel_rfl, ?hy⟩) hS2 ?rest
    case hy => (intro W hSw; clear hSw; go_simp; try with_reducible rfl)
    case rest =>
    refine wpAnyH_done (by kernel_rfl) ?_ _
    have HB3 : Hid (Below w0.heap.size w0 _) := Lib.hid (below_trans HB2.out hS2)
    clear hS0 hS1 hS2
    go_wp2
    go_ret
    exact ⟨rfl, HV.out _ HB3.out, Chg.of_below (below_trans HB0.out HB3.out) _⟩
  | none =>
    have he : er = 0 := by rw [← HER.out]; unfold offE; rw [HCK.out, hf]; rfl
    have hs : S' = S ++ [s] := by rw [← HS'.out]; unfold offS; rw [HER.out, he]; rfl
    subst he
    subst hs
    rw [hf] at HFL
    have HFL' : Hid (∀ W, Below w0.heap.size w0 W → (Instr.lookup 82 (.map (some B)) (.int .i64 s.1) true).run Tryz.prog W = .ok (.tuple #[.agg #[.int .i64 0, .int .i64 0], .bool false]) W) := HFL
    have HF := Lib.hid hf
    clear HFL hf
    go_enter Tryz.func25, Tryz.ntmps25
    go_upto_region 1 with (fail)
    rw [HW0.out]
    go_wp2_with fail
    clear c0 c1 c2 c3 c4 cl
    refine wp_region_belowC (by kernel_rfl) (by kernel_rfl) (fun WQ HQS HQN => ?_)
    refine HQS.go (fun K hK => ?_)
    go_simp
    apply Exists.intro
    refine ⟨fun W hW => ?_, hK _ ?_⟩
    · (try go_simp)
      exact rfl
    clear hK K
    refine HQS.go (fun K hK => ?_)
    go_simp
    apply Exists.intro
    refine ⟨fun W hW => ?_, hK _ ?_⟩
    · (try go_simp)
      exact rfl
    clear hK K
    refine HQS.go (fun K hK => ?_)
    go_simp
    apply Exists.intro
    refine ⟨fun W hW => ?_, hK _ ?_⟩
    · (try go_simp)
      exact rfl
    clear hK K
    refine HQS.go (fun K hK => ?_)
    go_simp
    apply Exists.intro
    refine ⟨fun W hW => ?_, hK _ ?_⟩
    · obtain ⟨c0, c1, c2, c3, c4⟩ := HGC.out W hW
      have cl := lt_of_cell c0
      go_simp
      exact rfl
    clear hK K
    refine HQS.go (fun K hK => ?_)
    go_simp
    apply Exists.intro
    refine ⟨fun W hW => ?_, hK _ ?_⟩
    · obtain ⟨q0, q1⟩ := HK.out W hW
      have ql := lt_of_cell q0
      go_simp
      exact rfl
    clear hK K
    refine HQS.go (fun K hK => ?_)
    go_simp
    apply Exists.intro
    refine ⟨fun W hW => ?_, hK _ ?_⟩
    · (try go_simp)
      exact rfl
    clear hK K
    refine HQS.go (fun K hK => ?_)
    go_simp
    apply Exists.intro
    refine ⟨fun W hW => ?_, hK _ ?_⟩
    · exact (HH.out W hW).mono fun _ _ ⟨he, hb⟩ => ⟨he, below_trans hW hb⟩
    clear hK K
    refine HQS.go (fun K hK => ?_)
    go_simp
    apply Exists.intro
    refine ⟨fun W hW => ?_, hK _ ?_⟩
    · (try go_simp)
      exact rfl
    clear hK K
    refine HQS.go (fun K hK => ?_)
    go_simp
    apply Exists.intro
    refine ⟨fun W hW => ?_, hK _ ?_⟩
    · (try go_simp)
      exact rfl
    clear hK K
    refine HQN.go ?_
    intro w2 hW
    have HB2 := Lib.hid hW
    clear hW
    obtain ⟨c0, c1, c2, c3, c4⟩ := HGC.out w2 HB2.out
    have cl := lt_of_cell c0
    go_wp2_with fail
    clear c0 c1 c2 c3 c4 cl
    refine wp_region_held_drew (S := fun W => Below w2.heap.size w2 W) (by kernel_rfl) ((Below.refl _ _).drew) (fun hS0 => ?_)
    refine wpAnyH_take (i := 0) (v := ?_) rfl (by kernel_rfl) (by kernel_rfl) (by kernel_rfl) (fun _ _ _ h => h) (Or.inl ⟨by kernel_rfl, ?hy⟩) hS0 ?rest
    case hy => (intro W hSw; clear hSw; go_simp; try with_reducible rfl)
    case rest =>
    refine wpAnyH_take (i := 1) (v := ?_) rfl (by kernel_rfl) (by kernel_rfl) (by kernel_rfl) (fun _ _ _ h => h) (Or.inl ⟨by kernel_rfl, ?hy⟩) hS0 ?rest
    case hy => (intro W hSw; clear hSw; go_simp; try with_reducible rfl)
    case rest =>
    refine wpAnyH_take (i := 2) (v := ?_) rfl (by kernel_rfl) (by kernel_rfl) (by kernel_rfl) (fun _ _ _ h => h) (Or.inl ⟨by kernel_rfl, ?hy⟩) hS0 ?rest
    case hy => (intro W hSw; clear hSw; go_simp; try with_reducible rfl)
    case rest =>
    refine wpAnyH_take (i := 3) (v := ?_) rfl (by kernel_rfl) (by kernel_rfl) (by kernel_rfl) (fun _ _ _ h => h) (Or.inl ⟨by kernel_rfl, ?hy⟩) hS0 ?rest
    case hy => (intro W hSw; obtain ⟨c0, c1, c2, c3, c4⟩ := HGC.out W (below_trans HB2.out hSw); have cl := lt_of_cell c0; clear hSw; go_simp; try with_reducible rfl)
    case rest =>
    refine wpAnyH_take (i := 4) (v := ?_) rfl (by kernel_rfl) (by kernel_rfl) (by kernel_rfl) (fun _ _ _ h => h) (Or.inl ⟨by kernel_rfl, ?hy⟩) hS0 ?rest
    case hy => (intro W hSw; clear hSw; go_simp; try with_reducible rfl)
    case rest =>
    refine wpAnyH_take (i := 5) (v := ?_) rfl (by kernel_rfl) (by kernel_rfl) (by kernel_rfl) (fun _ _ _ h => h) (Or.inl ⟨by kernel_rfl, ?hy⟩) hS0 ?rest
    case hy => (intro W hSw; obtain ⟨q0, q1⟩ := HK.out W (below_trans HB2.out hSw); have ql := lt_of_cell q0; clear hSw; go_simp; try with_reducible rfl)
    case rest =>
    refine wpAnyH_take (i := 6) (v := ?_) rfl (by kernel_rfl) (by kernel_rfl) (by kernel_rfl) (fun _ _ _ h => h) (Or.inl ⟨by kernel_rfl, ?hy⟩) hS0 ?rest
    case hy => (intro W hSw; have q := HFL'.out W (below_trans HB2.out hSw); clear hSw; go_simp; try with_reducible rfl)
    case rest =>
    refine wpAnyH_take (i := 7) (v := ?_) rfl (by kernel_rfl) (by kernel_rfl) (by kernel_rfl) (fun _ _ _ h => h) (Or.inl ⟨by kernel_rfl, ?hy⟩) hS0 ?rest
    case hy => (intro W hSw; clear hSw; go_simp; try with_reducible rfl)
    case rest =>
    refine wpAnyH_take (i := 8) (v := ?_) rfl (by kernel_rfl) (by kernel_rfl) (by kernel_rfl) (fun _ _ _ h => h) (Or.inl ⟨by kernel_rfl, ?hy⟩) hS0 ?rest
    case hy => (intro W hSw; clear hSw; go_simp; try with_reducible rfl)
    case rest =>
    refine wpAnyH_take (i := 9) (v := ?_) rfl (by kernel_rfl) (by kernel_rfl) (by kernel_rfl) (fun _ _ _ h => h) (Or.inl ⟨by kernel_rfl, ?hy⟩) hS0 ?rest
    case hy => (intro W hSw; clear hSw; go_simp; try with_reducible rfl)
    case rest =>
    refine wpAnyH_ready (rs := [10]) (by kernel_rfl) (by simp) ?_
    refine AllReadyH.cons rfl (fun K hK => ?_) (AllReadyH.nil)
    go_simp
    refine hK.out _ _ (below_alloc (Below.refl _ _).drew _) (fun hS1 => ?_)
    clear hK K
    refine wpAnyH_ready (rs := [11]) (by kernel_rfl) (by simp) ?_
    refine AllReadyH.cons rfl (fun K hK => ?_) (AllReadyH.nil)
    go_simp
    refine hK.out _ _ (below_alloc (Below.refl _ _).drew _) (fun hS2 => ?_)
    clear hK K
    refine wpAnyH_take (i := 12) (v := ?_) rfl (by kernel_rfl) (by kernel_rfl) (by kernel_rfl) (fun _ _ _ h => h) (Or.inl ⟨by kernel_rfl, ?hy⟩) hS2 ?rest
    case hy => (intro W hSw; clear hSw; go_simp; try with_reducible rfl)
    case rest =>
    refine wpAnyH_done (by kernel_rfl) ?_ _
    have HB3 : Hid (Below w0.heap.size w0 _) := Lib.hid (below_trans HB2.out hS2)
    clear hS0 hS1 hS2
    generalize (w2.alloc (.cells #[.int .i64 0, .int .i64 0] 37)).drew = w3 at *
    go_wp2_with fail
    refine wp_region_still_tail 7 (by kernel_rfl) (by kernel_rfl) ?_
    simp only [List.take_succ_cons, List.take_zero, List.drop_succ_cons, List.drop_zero]
    change wpStill _ _ (World.drew _) _ _ _
    have HD3 : Hid (Below w0.heap.size w0 w3.drew) := Lib.hid HB3.out.drew
    obtain ⟨c0, c1, c2, c3, c4⟩ := HGC.out w3.drew HD3.out
    obtain ⟨q0, q1⟩ := HK.out w3.drew HD3.out
    have cl := lt_of_cell c0
    have ql := lt_of_cell q0
    repeat still_step
    clear c0 c1 c2 c3 c4 q0 q1 cl ql
    refine wpStill_nil ?_
    change wpList _ _ _ _ _ (World.drew _)
    obtain ⟨w4, hw4, ho4, hg4⟩ := (HV.out _ (HB3.out.drew)).2.1.put s (WalkArith.wf_i64 (by omega)) (by omega) HF.out
    have HO4 := Lib.hid ho4
    have HG4 := Lib.hid hg4
    have HP4 : Hid (PV w4 g B need total root (S ++ [s]) false) := Lib.hid ⟨(HV.out _ (HB3.out.drew)).1.grown hg4 (by have := HVW.out.2.2; simpa using this), by rw [List.length_append]; exact ho4, HVW.out.2.2⟩
    clear ho4 hg4
    go_wp2
    go_ret
    exact ⟨rfl, HP4.out, ((Chg.of_below (below_trans HB0.out HB3.out) [g, B]).drew).grown HG4.out (fun k hk => .inl (by cases hk; simp))⟩

    
end

section
open Go.RowKit

set_option maxRecDepth 100000 in
set_option maxHeartbeats 16000000 in
theorem vopen_any (g B need total : Nat) (root : ByteArray) (S : List (Int × Int)) (opn : Bool) (w : World) (hV : PV w g B need total root S opn) (ht : total ≤ 16) :
    Calls Tryz.prog 23 #[.pointer (some ⟨g, 0, none⟩)] w fun e w' =>
      e = .returned (.tuple #[.int .i64 (opnR need total S opn).1, .int .i64 (opnR need total S opn).2]) ∧ PV w' g B need total root S (opn || ((opnR need total S opn).2 == 0)) ∧ Chg [g, B] w w' := by
  have HV : Hid (∀ W, Below w.heap.size w W → PV W g B need total root S opn) := Lib.hid (fun W hW => hV.below hW)
  have HGC : Hid (∀ W, Below w.heap.size w W → W.cell? ⟨g, 0, none⟩ = some (.int .i64 need) ∧ W.cell? ⟨g, 1, none⟩ = some (.int .i64 total) ∧ W.cell? ⟨g, 2, none⟩ = some (.string root) ∧ W.cell? ⟨g, 3, none⟩ = some (.map (some B)) ∧ W.cell? ⟨g, 4, none⟩ = some (.bool opn)) := Lib.hid (fun W hW => by
    have hb := (HV.out W hW).1
    exact ⟨hb.of_cell rfl, hb.of_cell rfl, hb.of_cell rfl, hb.of_cell rfl, hb.of_cell rfl⟩)
  clear hV
  obtain ⟨c0, c1, c2, c3, c4⟩ := HGC.out w (Below.refl _ _)
  have cl := lt_of_cell c0
  cases opn with
  | true =>
    have e1 : opnR need total S true = (0, 11) := rfl
    rw [e1]
    clear e1
    go_enter Tryz.func23, Tryz.ntmps23
    go_wp2
    go_ret2
    exact ⟨rfl, HV.out _ (Below.refl _ _), Chg.refl _ _⟩
  | false =>
  have e1 : opnR need total S false = joinF (ord S total) need := rfl
  rw [e1]
  clear e1
  obtain ⟨l, hl⟩ : ∃ l, ord S total = l := ⟨_, rfl⟩
  have hlen : l.length ≤ 16 := by rw [← hl]; exact Nat.le_trans (ord_len _ _) ht
  have HL := Lib.hid hl
  rw [hl]
  have HJ : Hid (∀ (W : World) (A : Option Addr) (c : Nat), l.length ≤ c → Prs W A l → _) := Lib.hid (fun W A c hc hP => join_full A c l need W hP (by omega) hc)
  obtain ⟨⟨j1, j2⟩, hjj⟩ : ∃ jj, joinF l need = jj := ⟨_, rfl⟩
  rw [hjj] at HJ ⊢
  obtain ⟨i1, hj0, hy0, hy1, hy2⟩ := info_parts info_share
  have HI := Lib.hid (And.intro hj0 (And.intro hy0 (And.intro hy1 hy2)))
  have HO0 : Hid (w.ownsRow w.heap.size 37 2 (.slice none 0 0) 0 []) := ⟨rfl, .inl ⟨rfl, rfl⟩⟩
  have HOL : Hid (∀ k, (ord S k).length ≤ k) := Lib.hid (ord_len S)
  clear hj0 hy0 hy1 hy2 hjj hl
  simp only []
  go_enter Tryz.func23, Tryz.ntmps23
  go_wp2_with fail
  clear c0 c1 c2 c3 c4 cl
  go_loopw [4, 23] (fun u4 u23 wr => ∃ k : Nat, k ≤ total ∧ u23 = .int .i64 k ∧ Below w.heap.size w wr ∧ wr.ownsRow w.heap.size 37 2 u4 (ord S k).length (flat2 (ord S k))) (fun _ u23 _ => total - (intOf u23).toNat)
  case atStart => exact ⟨0, Nat.zero_le _, rfl, Below.refl _ _, HO0.out⟩
  case round =>
  obtain ⟨k, hk, rfl, hb, ho⟩ := hrel
  have HB := Lib.hid hb
  have HOW := Lib.hid ho
  clear hb ho
  by_cases hlt : k < total
  case pos =>
    obtain ⟨c0, c1, c2, c3, c4⟩ := HGC.out wr HB.out
    have cl := lt_of_cell c0
    have hol := HOL.out k
    have hki : (k : Int) < (total : Int) := by omega
    have hlk := (HV.out wr HB.out).2.1.look ((k : Int) + 1) (WalkArith.wf_i64 (by omega))
    cases hf : fnd S ((k : Int) + 1) with
    | none =>
      rw [hf] at hlk
      have hlk' : (Instr.lookup 82 (.map (some B)) (.int .i64 ((k : Int) + 1)) true).run Tryz.prog wr = .ok (.tuple #[.agg #[.int .i64 0, .int .i64 0], .bool false]) wr := hlk
      have HE : Hid (ord S (k + 1) = ord S k) := Lib.hid (by rw [ord_succ, hf]; simp)
      clear hlk hf
      go_wp2_with fail
      go_roundw
      case rel => exact ⟨k + 1, by omega, by go_num, below_alloc HB.out _, by rw [HE.out]; exact row_below HOW.out (below_alloc (Below.refl _ _) _)⟩
      case measure => simp [intOf]; omega
    | some s =>
      rw [hf] at hlk
      have hlk' : (Instr.lookup 82 (.map (some B)) (.int .i64 ((k : Int) + 1)) true).run Tryz.prog wr = .ok (.tuple #[.agg #[.int .i64 s.1, .int .i64 s.2], .bool true]) wr := hlk
      have HE : Hid (ord S (k + 1) = ord S k ++ [s]) := Lib.hid (by rw [ord_succ, hf]; rfl)
      clear hlk hf
      have HO2 : Hid (((wr.alloc (.cells #[.int .i64 s.1, .int .i64 s.2] 37)).alloc (.cells #[.int .i64 s.1, .int .i64 s.2] 37)).ownsRow w.heap.size 37 2 u4 (ord S k).length (flat2 (ord S k))) := Lib.hid (row_below HOW.out (below_alloc (below_alloc (Below.refl _ _) _) _))
      go_wp2_with (at_builtin; refine wpList_app _ rfl (.tmp 37) (.tmp 39) 28 28 rfl w.heap.size 37 37 i1 _ 2 16 Tryz.underlying28 Tryz.underlying28 HI.out.1 HI.out.2.1 HI.out.2.2.1 HI.out.2.2.2 rfl (by omega) u4 (ord S k).length _ rfl HO2.out _ 1 1 [.int .i64 s.1, .int .i64 s.2] rfl (Rd_new (wr.alloc (.cells #[.int .i64 s.1, .int .i64 s.2] 37)) #[.int .i64 s.1, .int .i64 s.2] _ 2 1 _ rfl (by simp)) (by simp [Value.oneCell']) (by simp only [maxLen]; omega) (by omega) (by have := HB.out.size; simp; omega) ?_)
      intro v4 w4 hown4 hg4
      have HB4 : Hid (Below w.heap.size w w4) := Lib.hid ((below_alloc (below_alloc HB.out _) _).grown hg4 (by have := HB.out.size; simp; omega) (fun j hj => (HO2.out.lt j hj).1))
      have HO4 := Lib.hid hown4
      clear hown4 hg4 c0 c1 c2 c3 c4 cl hlk'
      go_wp2
      go_roundw
      case rel => exact ⟨k + 1, by omega, by go_num, HB4.out, by rw [HE.out, flat2_append, List.length_append]; exact HO4.out⟩
      case measure => simp [intOf]; omega
  case neg =>
  obtain rfl : k = total := by omega
  rw [HL.out] at HOW
  obtain ⟨A1, c1', rfl, hc1', -, hrd1⟩ := Rd.of_own HOW.out
  have HJ1 := Lib.hid (HJ.out wr A1 c1' hc1' hrd1)
  obtain ⟨c0, c1, c2, c3, c4⟩ := HGC.out wr HB.out
  have cl := lt_of_cell c0
  clear hrd1 HOW
  go_wp2_with fail
  refine HJ1.out.mono ?_
  rintro e w5 ⟨rfl, hb5⟩
  have HB5 := Lib.hid (below_trans HB.out hb5)
  clear hb5 c0 c1 c2 c3 c4 cl
  obtain ⟨c0, c1, c2, c3, c4⟩ := HGC.out w5 HB5.out
  have cl := lt_of_cell c0
  have hfz := (HV.out w5 HB5.out).1.frozen 4
  go_wp2
  go_ret2
  have h5 := HV.out w5 HB5.out
  refine ⟨rfl, ⟨h5.1.set 4 _, h5.2.1.kept (Below.heap_setCell w5 ⟨g, 4, none⟩ _ B (fun e => h5.2.2 e.symm)), h5.2.2⟩, (Chg.of_below HB5.out [g, B]).setCell (.inl (by simp)) _⟩
end

section
open Go.RowKit

theorem lelement_any (a : Int) (w : World) :
    Calls Tryz.prog 27 #[.int .i64 a] w fun e w' => e = .returned (.int .i64 (a % 2147483647)) ∧ w = w' := by
  have h : a.tmod 2147483647 = if 0 ≤ a then a % 2147483647 else -((-a) % 2147483647) := by
    by_cases ha : 0 ≤ a
    · rw [if_pos ha, Int.tmod_eq_emod_of_nonneg ha]
    · rw [if_neg ha, ← Int.tmod_eq_emod_of_nonneg (show 0 ≤ -a by omega), Int.neg_tmod, Int.neg_neg]
  have hb : -2147483647 < a.tmod 2147483647 ∧ a.tmod 2147483647 < 2147483647 := by rw [h]; split <;> omega
  obtain ⟨hb1, hb2⟩ := hb
  by_cases hneg : a.tmod 2147483647 < 0
  · have e : a.tmod 2147483647 + 2147483647 = a % 2147483647 := by rw [h] at hneg ⊢; split at hneg <;> (try split) <;> omega
    have E := Lib.hid e; clear e
    have H := Lib.hid h; clear h
    go_enter Tryz.func27, Tryz.ntmps27
    go_wp2
    go_ret
    exact ⟨ret_int E.out, rfl⟩
  · have e : a.tmod 2147483647 = a % 2147483647 := by rw [h] at hneg ⊢; split at hneg <;> (try split) <;> omega
    have E := Lib.hid e; clear e
    have H := Lib.hid h; clear h
    go_enter Tryz.func27, Tryz.ntmps27
    go_wp2
    go_ret
    exact ⟨ret_int E.out, rfl⟩

theorem welement_any (a : Int) (w : World) :
    Calls Tryz.prog 10 #[.int .i64 a] w fun e w' => e = .returned (.int .i64 (a % 2147483647)) ∧ w = w' := by
  have h : a.tmod 2147483647 = if 0 ≤ a then a % 2147483647 else -((-a) % 2147483647) := by
    by_cases ha : 0 ≤ a
    · rw [if_pos ha, Int.tmod_eq_emod_of_nonneg ha]
    · rw [if_neg ha, ← Int.tmod_eq_emod_of_nonneg (show 0 ≤ -a by omega), Int.neg_tmod, Int.neg_neg]
  have hb : -2147483647 < a.tmod 2147483647 ∧ a.tmod 2147483647 < 2147483647 := by rw [h]; split <;> omega
  obtain ⟨hb1, hb2⟩ := hb
  by_cases hneg : a.tmod 2147483647 < 0
  · have e : a.tmod 2147483647 + 2147483647 = a % 2147483647 := by rw [h] at hneg ⊢; split at hneg <;> (try split) <;> omega
    have E := Lib.hid e; clear e
    have H := Lib.hid h; clear h
    go_enter Tryz.func10, Tryz.ntmps10
    go_wp2
    go_ret
    exact ⟨ret_int E.out, rfl⟩
  · have e : a.tmod 2147483647 = a % 2147483647 := by rw [h] at hneg ⊢; split at hneg <;> (try split) <;> omega
    have E := Lib.hid e; clear e
    have H := Lib.hid h; clear h
    go_enter Tryz.func10, Tryz.ntmps10
    go_wp2
    go_ret
    exact ⟨ret_int E.out, rfl⟩

/-- The elements that made takes out of a list. -/
def madeL (raw : List Int) (k : Nat) : List Int := (List.range k).map fun (i : Nat) => match raw[i]? with | some x => x % 2147483647 | none => (i : Int)

theorem madeL_length (raw : List Int) (k : Nat) : (madeL raw k).length = k := by simp [madeL]

theorem madeL_succ (raw : List Int) (k : Nat) : madeL raw (k + 1) = madeL raw k ++ [match raw[k]? with | some x => x % 2147483647 | none => (k : Int)] := by
  simp [madeL, List.range_succ]

theorem madeL_elem (raw : List Int) (k : Nat) (hk : k ≤ 1000) : (madeL raw k).all elemB = true := by
  rw [List.all_eq_true]
  intro x hx
  obtain ⟨i, hi, rfl⟩ := List.mem_map.1 hx
  have := List.mem_range.1 hi
  rw [elemB_iff]
  split <;> omega
end

section
open Go.RowKit
set_option maxRecDepth 100000 in
set_option maxHeartbeats 4000000 in
theorem isame_any (A B : Option Addr) (c d : Nat) (l m : List Int) (w : World) (hA : Ints w A l) (hB : Ints w B m) (hl : l.length ≤ 1000000) (hm : m.length ≤ 1000000) :
    Calls Tryz.prog 21 #[.slice A l.length c, .slice B m.length d] w fun e w' => e = .returned (.bool (decide (l = m))) ∧ Below w.heap.size w w' := by
  have HA := Lib.hid hA; clear hA
  have HB := Lib.hid hB; clear hB
  by_cases hlen : l.length = m.length
  case neg =>
    have h1 : (((l.length : Int)) == (m.length : Int)) = false := by simp; omega
    have h2 : (((l.length : Int)) != (m.length : Int)) = true := by simp; omega
    have hne : decide (l = m) = false := by
      rw [decide_eq_false_iff_not]
      intro e
      exact hlen (by rw [e])
    have HNE := Lib.hid hne; clear hne hlen
    go_enter Tryz.func21, Tryz.ntmps21
    go_wp2
    go_ret
    rw [HNE.out]
    exact ⟨rfl, Below.refl _ _⟩
  case pos =>
  have h1 : (((l.length : Int)) == (m.length : Int)) = true := by simp [hlen]
  have h2 : (((l.length : Int)) != (m.length : Int)) = false := by simp [hlen]
  have HL := Lib.hid hlen; clear hlen
  go_enter Tryz.func21, Tryz.ntmps21
  go_wp2_with fail
  go_loopw [5] (fun u5 wr => ∃ (k q : Nat), k ≤ l.length ∧ u5 = .int .i64 k ∧ wr = w.drewN q ∧ l.take k = m.take k) (fun u5 _ => l.length - (intOf u5).toNat)
  case atStart => exact ⟨0, 0, Nat.zero_le _, rfl, rfl, rfl⟩
  case round =>
  obtain ⟨k, q, hk, rfl, rfl, hkm⟩ := hrel
  have HKM := Lib.hid hkm; clear hkm
  by_cases hlt : k < l.length
  case neg =>
    have he : decide (l = m) = true := by
      have := HKM.out
      have hl := HL.out
      rw [List.take_of_length_le (by omega), List.take_of_length_le (by omega)] at this
      simpa using this
    have HE := Lib.hid he; clear he
    go_wp2
    go_ret
    rw [HE.out]
    exact ⟨rfl, below_drewN (Below.refl _ _) _⟩
  case pos =>
  obtain ⟨s, hs⟩ := get_some l k hlt
  obtain ⟨t, ht⟩ := get_some m k (by rw [← HL.out]; exact hlt)
  have hmk : k < m.length := (List.getElem?_eq_some_iff.1 ht).1
  obtain ⟨b, off, rfl, hc1⟩ := HA.out.at_ hs
  obtain ⟨b', off', rfl, hd1⟩ := HB.out.at_ ht
  have HS := Lib.hid hs
  have HT := Lib.hid ht
  clear hs ht
  by_cases hst : s = t
  case pos =>
    have e1 : (s == t) = true := by simp [hst]
    have e2 : (s != t) = false := by simp [hst]
    have HST := Lib.hid hst; clear hst
    go_wp2
    go_quiet (fail)
    go_wp2
    go_roundw
    case rel => exact ⟨k + 1, _, by omega, by go_num, rfl, by rw [take_snoc l k s HS.out, take_snoc m k t HT.out, HKM.out, HST.out]⟩
    case measure => simp [intOf]; omega
  case neg =>
    have hne : decide (l = m) = false := by
      rw [decide_eq_false_iff_not]
      intro e
      have h1 := HS.out
      have h2 := HT.out
      rw [e, h2] at h1
      exact hst (Option.some.inj h1).symm
    have HNE := Lib.hid hne; clear hne
    have e1 : (s == t) = false := by simp [hst]
    have e2 : (s != t) = true := by simp [hst]
    clear hst
    go_wp2
    go_quiet (fail)
    go_wp2
    go_ret
    rw [HNE.out]
    exact ⟨rfl, below_drewN (below_drewN (Below.refl _ _) _) _⟩
set_option maxRecDepth 100000 in
set_option maxHeartbeats 4000000 in
theorem wsame_any (A B : Option Addr) (c d : Nat) (l m : List Int) (w : World) (hA : Ints w A l) (hB : Ints w B m) (hl : l.length ≤ 1000000) (hm : m.length ≤ 1000000) :
    Calls Tryz.prog 14 #[.slice A l.length c, .slice B m.length d] w fun e w' => e = .returned (.bool (decide (l = m))) ∧ Below w.heap.size w w' := by
  have HA := Lib.hid hA; clear hA
  have HB := Lib.hid hB; clear hB
  by_cases hlen : l.length = m.length
  case neg =>
    have h1 : (((l.length : Int)) == (m.length : Int)) = false := by simp; omega
    have h2 : (((l.length : Int)) != (m.length : Int)) = true := by simp; omega
    have hne : decide (l = m) = false := by
      rw [decide_eq_false_iff_not]
      intro e
      exact hlen (by rw [e])
    have HNE := Lib.hid hne; clear hne hlen
    go_enter Tryz.func14, Tryz.ntmps14
    go_wp2
    go_ret
    rw [HNE.out]
    exact ⟨rfl, Below.refl _ _⟩
  case pos =>
  have h1 : (((l.length : Int)) == (m.length : Int)) = true := by simp [hlen]
  have h2 : (((l.length : Int)) != (m.length : Int)) = false := by simp [hlen]
  have HL := Lib.hid hlen; clear hlen
  go_enter Tryz.func14, Tryz.ntmps14
  go_wp2_with fail
  go_loopw [5] (fun u5 wr => ∃ (k q : Nat), k ≤ l.length ∧ u5 = .int .i64 k ∧ wr = w.drewN q ∧ l.take k = m.take k) (fun u5 _ => l.length - (intOf u5).toNat)
  case atStart => exact ⟨0, 0, Nat.zero_le _, rfl, rfl, rfl⟩
  case round =>
  obtain ⟨k, q, hk, rfl, rfl, hkm⟩ := hrel
  have HKM := Lib.hid hkm; clear hkm
  by_cases hlt : k < l.length
  case neg =>
    have he : decide (l = m) = true := by
      have := HKM.out
      have hl := HL.out
      rw [List.take_of_length_le (by omega), List.take_of_length_le (by omega)] at this
      simpa using this
    have HE := Lib.hid he; clear he
    go_wp2
    go_ret
    rw [HE.out]
    exact ⟨rfl, below_drewN (Below.refl _ _) _⟩
  case pos =>
  obtain ⟨s, hs⟩ := get_some l k hlt
  obtain ⟨t, ht⟩ := get_some m k (by rw [← HL.out]; exact hlt)
  have hmk : k < m.length := (List.getElem?_eq_some_iff.1 ht).1
  obtain ⟨b, off, rfl, hc1⟩ := HA.out.at_ hs
  obtain ⟨b', off', rfl, hd1⟩ := HB.out.at_ ht
  have HS := Lib.hid hs
  have HT := Lib.hid ht
  clear hs ht
  by_cases hst : s = t
  case pos =>
    have e1 : (s == t) = true := by simp [hst]
    have e2 : (s != t) = false := by simp [hst]
    have HST := Lib.hid hst; clear hst
    go_wp2
    go_quiet (fail)
    go_wp2
    go_roundw
    case rel => exact ⟨k + 1, _, by omega, by go_num, rfl, by rw [take_snoc l k s HS.out, take_snoc m k t HT.out, HKM.out, HST.out]⟩
    case measure => simp [intOf]; omega
  case neg =>
    have hne : decide (l = m) = false := by
      rw [decide_eq_false_iff_not]
      intro e
      have h1 := HS.out
      have h2 := HT.out
      rw [e, h2] at h1
      exact hst (Option.some.inj h1).symm
    have HNE := Lib.hid hne; clear hne
    have e1 : (s == t) = false := by simp [hst]
    have e2 : (s != t) = true := by simp [hst]
    clear hst
    go_wp2
    go_quiet (fail)
    go_wp2
    go_ret
    rw [HNE.out]
    exact ⟨rfl, below_drewN (below_drewN (Below.refl _ _) _) _⟩
theorem lpath_any (A : Option Addr) (c : Nat) (l : List (Int × Int)) (k : Nat) (w : World) (hA : Prs w A l) (hl : l.length ≤ 16) (hv : l.all validB = true) (hk : k < l.length) (hT : Tabs w) :
    Calls Tryz.prog 30 #[.slice A l.length c, .int .i64 k] w fun e w' => ∃ A' c', e = .returned (.slice A' (pt (l.map shLf) k).length c') ∧ (pt (l.map shLf) k).length ≤ c' ∧ Strs w' A' (pt (l.map shLf) k) ∧ Below w.heap.size w w' := by
  have H1 := Lib.hid (rleaves_any A c l w hA (by omega) hv)
  have H2 : Hid (∀ (W : World) (A' : Option Addr) (c' : Nat), Below w.heap.size w W → l.length ≤ c' → Strs W A' (l.map shLf) → Calls Tryz.prog 41 #[.slice A' l.length c', .int .i64 k] W fun e w' => ∃ A'' c'', e = .returned (.tuple #[.slice A'' (pt (l.map shLf) k).length c'', .int .i64 0]) ∧ (pt (l.map shLf) k).length ≤ c'' ∧ Strs w' A'' (pt (l.map shLf) k) ∧ Below W.heap.size W w') := Lib.hid (fun W A' c' hW hc hS => by
    have := tpath_any A' c' (l.map shLf) k W (by rw [List.length_map]; omega) (by rw [List.length_map]; exact hc) hS (shLf_sm l) (hT.below hW) (shLf_D l) (by omega) (by rw [List.length_map]; omega)
    rw [Int.toNat_natCast, List.length_map] at this
    exact this.mono fun _ _ ⟨A1, c1, h1, h2, h3, _, h5⟩ => ⟨A1, c1, h1, h2, h3, h5⟩)
  clear hA hv hT
  generalize pt (l.map shLf) k = P at *
  go_enter Tryz.func30, Tryz.ntmps30
  go_wp2_with fail
  refine H1.out.mono ?_
  rintro e w1 ⟨v1, rfl, ho, hb⟩
  have HB := Lib.hid hb
  obtain ⟨A1, c1, rfl, hc1, -, hr1⟩ := Rd.of_own ho
  have H3 := Lib.hid (H2.out w1 A1 c1 hb hc1 (by unfold Strs; rw [List.length_map]; exact hr1))
  clear ho hb hr1
  go_wp2_with fail
  refine H3.out.mono ?_
  rintro e w2 ⟨A2, c2, rfl, hc2, hs2, hb⟩
  have HB2 := Lib.hid (below_trans HB.out hb)
  have HS2 := Lib.hid hs2
  clear hb hs2
  go_wp2
  go_ret
  exact ⟨_, _, rfl, hc2, HS2.out, HB2.out⟩
set_option maxRecDepth 100000 in
set_option maxHeartbeats 8000000 in
theorem made_any (secret : Int) (A : Option Addr) (c : Nat) (raw : List Int) (a b : Nat) (w : World) (hA : Ints w A raw) (hraw : raw.length ≤ 9223372036854775807) (ha : a < 256) (hb : b < 256) :
    Calls Tryz.prog 28 #[.int .i64 secret, .slice A raw.length c, .int .u8 a, .int .u8 b] w fun e w' =>
      ∃ v, e = .returned (.tuple #[v, .int .i64 ((1 + a % 4 : Nat) : Int), .bool true]) ∧
        w'.ownsRow w.heap.size 37 2 v (1 + a % 4 + b % 3) (flat2 (shs ((secret % 2147483647) :: madeL raw (a % 4)) (1 + a % 4 + b % 3))) ∧ Below w.heap.size w w' := by
  obtain ⟨n, hn⟩ : ∃ n, n = 1 + a % 4 := ⟨_, rfl⟩
  obtain ⟨m, hm⟩ : ∃ m, m = 1 + a % 4 + b % 3 := ⟨_, rfl⟩
  have hn1 : 1 ≤ n := by omega
  have hn4 : n ≤ 4 := by omega
  have hnm : n ≤ m := by omega
  have hm6 : m ≤ 6 := by omega
  have hk : a % 4 = n - 1 := by omega
  have hE : (1 + (a : Int) % 4 = (n : Int)) ∧ ((n : Int) + (b : Int) % 3 = (m : Int)) := by omega
  have HE1 := Lib.hid hE.1
  have HE2 := Lib.hid hE.2
  rw [← hm, ← hn, hk]
  have hsp : Hid (∀ (W : World) (A' : Option Addr) (c' : Nat), Ints W A' (madeL raw (n - 1)) → Calls Tryz.prog 40 #[.int .i64 (secret % 2147483647), .int .i64 n, .int .i64 m, .slice A' (n - 1) c'] W fun e w' => ∃ v, e = .returned (.tuple #[v, .int .i64 0]) ∧ w'.ownsRow W.heap.size 37 2 v m (flat2 (shs ((secret % 2147483647) :: madeL raw (n - 1)) m)) ∧ Below W.heap.size W w') := Lib.hid (fun W A' c' hI => by
    have hml := madeL_length raw (n - 1)
    have := split_any (secret % 2147483647) n m A' c' (madeL raw (n - 1)) W hI hn1 hnm (by omega) (by omega) (by omega) (by rw [List.all_cons, elemB_mod secret, madeL_elem raw (n - 1) (by omega)]; rfl)
    rw [hml] at this
    exact this)
  have HA := Lib.hid hA
  obtain ⟨i0, hi0, hz0, hz1, hz2⟩ := info_parts info_int
  have HI := Lib.hid (And.intro hi0 (And.intro hz0 (And.intro hz1 hz2)))
  have HML := Lib.hid (madeL_succ raw)
  have HLE := Lib.hid (madeL_length raw)
  generalize shs ((secret % 2147483647) :: madeL raw (n - 1)) m = R at *
  have hO0 : w.ownsRow w.heap.size 3 1 (.slice none 0 0) 0 ((madeL raw 0).map (Value.int .i64)) := ⟨rfl, .inl ⟨rfl, rfl⟩⟩
  have HO0 := Lib.hid hO0
  clear hi0 hz0 hz1 hz2 hA hn hm hk hE hO0
  go_enter Tryz.func28, Tryz.ntmps28
  go_wp2_with fail
  rw [HE1.out, HE2.out]
  go_loopw [13, 14, 15] (fun u13 u14 _ wr => ∃ k : Nat, k ≤ n - 1 ∧ u14 = .int .i64 k ∧ Below w.heap.size w wr ∧ wr.ownsRow w.heap.size 3 1 u13 k ((madeL raw k).map (Value.int .i64))) (fun _ u14 _ _ => 6 - (intOf u14).toNat)
  case atStart => exact ⟨0, Nat.zero_le _, rfl, Below.refl _ _, HO0.out⟩
  case round =>
  obtain ⟨k, hk, rfl, hB, hO⟩ := hrel
  have HB := Lib.hid hB; clear hB
  have HO := Lib.hid hO; clear hO
  by_cases hlt : k < n - 1
  case pos =>
    have hlti : (k : Int) < (n : Int) - 1 := by omega
    have step : ∀ (W : World) (x : Int), madeL raw (k + 1) = madeL raw k ++ [x] → ∀ (v1 : Value) (w4 : World), w4.ownsRow w.heap.size 3 1 v1 (k + 1) ((madeL raw k).map (Value.int .i64) ++ [.int .i64 x]) → w4.ownsRow w.heap.size 3 1 v1 (k + 1) ((madeL raw (k + 1)).map (Value.int .i64)) := by
      intro W x hx v1 w4 h
      rw [hx, List.map_append]; exact h
    have STEP := Lib.hid step
    clear step
    by_cases hlr : k < raw.length
    case pos =>
      obtain ⟨x, hx⟩ := get_some raw k hlr
      obtain ⟨bb, off, rfl, hcell⟩ := (HA.out.below HB.out).at_ hx
      have HX : Hid (madeL raw (k + 1) = madeL raw k ++ [x % 2147483647]) := Lib.hid (by rw [HML.out, hx])
      clear hx
      go_wp2_with (first | (go_at_call 27; refine (lelement_any _ _).mono ?_; rintro e w' ⟨rfl, rfl⟩) | (at_builtin; refine wpList_app _ rfl (.tmp 43) (.tmp 45) 22 22 rfl w.heap.size 3 3 i0 _ 1 8 Tryz.underlying22 Tryz.underlying22 HI.out.1 HI.out.2.1 HI.out.2.2.1 HI.out.2.2.2 rfl (by omega) _ k _ rfl (HO.out.alloc _) _ 1 1 [.int .i64 (x % 2147483647)] rfl (Rd_new wr #[.int .i64 (x % 2147483647)] _ 1 1 _ rfl rfl) (by simp [Value.oneCell']) (by simp only [maxLen]; omega) (by omega) (by have := HB.out.size; simp; omega) ?_))
      intro v1 w4 hown4 hg4
      have HB4 : Hid (Below w.heap.size w w4) := Lib.hid ((below_alloc HB.out _).grown hg4 (by have := HB.out.size; simp; omega) (fun j hj => (HO.out.lt j hj).1))
      have HOWN4 := Lib.hid (STEP.out wr _ HX.out v1 w4 hown4)
      clear hown4 hg4
      go_wp2
      go_roundw
      case rel => exact ⟨k + 1, by omega, by go_num, HB4.out, HOWN4.out⟩
      case measure => simp [intOf]; omega
    case neg =>
      have HX : Hid (madeL raw (k + 1) = madeL raw k ++ [(k : Int)]) := Lib.hid (by rw [HML.out, List.getElem?_eq_none (by omega)])
      go_wp2_with (at_builtin; refine wpList_app _ rfl (.tmp 43) (.tmp 45) 22 22 rfl w.heap.size 3 3 i0 _ 1 8 Tryz.underlying22 Tryz.underlying22 HI.out.1 HI.out.2.1 HI.out.2.2.1 HI.out.2.2.2 rfl (by omega) _ k _ rfl (HO.out.alloc _) _ 1 1 [.int .i64 k] rfl (Rd_new wr #[.int .i64 k] _ 1 1 _ rfl rfl) (by simp [Value.oneCell']) (by simp only [maxLen]; omega) (by omega) (by have := HB.out.size; simp; omega) ?_)
      intro v1 w4 hown4 hg4
      have HB4 : Hid (Below w.heap.size w w4) := Lib.hid ((below_alloc HB.out _).grown hg4 (by have := HB.out.size; simp; omega) (fun j hj => (HO.out.lt j hj).1))
      have HOWN4 := Lib.hid (STEP.out wr _ HX.out v1 w4 hown4)
      clear hown4 hg4
      go_wp2
      go_roundw
      case rel => exact ⟨k + 1, by omega, by go_num, HB4.out, HOWN4.out⟩
      case measure => simp [intOf]; omega
  case neg =>
  obtain rfl : k = n - 1 := by omega
  obtain ⟨A1, c1, rfl, -, -, hr1⟩ := Rd.of_own HO.out
  have HS1 := Lib.hid (hsp.out wr A1 c1 (by unfold Ints; rw [HLE.out]; exact hr1))
  clear hr1
  have hge : ¬ (((n - 1 : Nat) : Int) < (n : Int) - 1) := by omega
  go_wp2_with fail
  refine (lelement_any _ _).mono ?_
  rintro e w' ⟨rfl, rfl⟩
  go_wp2_with fail
  refine HS1.out.mono ?_
  rintro e w3 ⟨v3, rfl, ho3, hb3⟩
  have HB3 := Lib.hid (below_trans HB.out hb3)
  have HO3 := Lib.hid (own_mono ho3 HB.out.size)
  obtain ⟨A3, c3, rfl, -, -, -⟩ := Rd.of_own ho3
  clear ho3 hb3
  have hmm : ((m : Int) == (m : Int)) = true := by simp
  go_wp2
  go_ret3
  exact ⟨_, rfl, HO3.out, HB3.out⟩
set_option maxRecDepth 100000 in
set_option maxHeartbeats 8000000 in
theorem wshares_any (secret : Int) (A : Option Addr) (c : Nat) (raw : List Int) (a b : Nat) (w : World) (hA : Ints w A raw) (hraw : raw.length ≤ 9223372036854775807) (ha : a < 256) (hb : b < 256) :
    Calls Tryz.prog 11 #[.int .i64 secret, .slice A raw.length c, .int .u8 a, .int .u8 b] w fun e w' =>
      ∃ v, e = .returned (.tuple #[v, .int .i64 ((1 + a % 4 : Nat) : Int), .bool true]) ∧
        w'.ownsRow w.heap.size 37 2 v (1 + a % 4 + b % 3) (flat2 (shs ((secret % 2147483647) :: madeL raw (a % 4)) (1 + a % 4 + b % 3))) ∧ Below w.heap.size w w' := by
  obtain ⟨n, hn⟩ : ∃ n, n = 1 + a % 4 := ⟨_, rfl⟩
  obtain ⟨m, hm⟩ : ∃ m, m = 1 + a % 4 + b % 3 := ⟨_, rfl⟩
  have hn1 : 1 ≤ n := by omega
  have hn4 : n ≤ 4 := by omega
  have hnm : n ≤ m := by omega
  have hm6 : m ≤ 6 := by omega
  have hk : a % 4 = n - 1 := by omega
  have hE : (1 + (a : Int) % 4 = (n : Int)) ∧ ((n : Int) + (b : Int) % 3 = (m : Int)) := by omega
  have HE1 := Lib.hid hE.1
  have HE2 := Lib.hid hE.2
  rw [← hm, ← hn, hk]
  have hsp : Hid (∀ (W : World) (A' : Option Addr) (c' : Nat), Ints W A' (madeL raw (n - 1)) → Calls Tryz.prog 40 #[.int .i64 (secret % 2147483647), .int .i64 n, .int .i64 m, .slice A' (n - 1) c'] W fun e w' => ∃ v, e = .returned (.tuple #[v, .int .i64 0]) ∧ w'.ownsRow W.heap.size 37 2 v m (flat2 (shs ((secret % 2147483647) :: madeL raw (n - 1)) m)) ∧ Below W.heap.size W w') := Lib.hid (fun W A' c' hI => by
    have hml := madeL_length raw (n - 1)
    have := split_any (secret % 2147483647) n m A' c' (madeL raw (n - 1)) W hI hn1 hnm (by omega) (by omega) (by omega) (by rw [List.all_cons, elemB_mod secret, madeL_elem raw (n - 1) (by omega)]; rfl)
    rw [hml] at this
    exact this)
  have HA := Lib.hid hA
  obtain ⟨i0, hi0, hz0, hz1, hz2⟩ := info_parts info_int
  have HI := Lib.hid (And.intro hi0 (And.intro hz0 (And.intro hz1 hz2)))
  have HML := Lib.hid (madeL_succ raw)
  have HLE := Lib.hid (madeL_length raw)
  generalize shs ((secret % 2147483647) :: madeL raw (n - 1)) m = R at *
  have hO0 : w.ownsRow w.heap.size 3 1 (.slice none 0 0) 0 ((madeL raw 0).map (Value.int .i64)) := ⟨rfl, .inl ⟨rfl, rfl⟩⟩
  have HO0 := Lib.hid hO0
  clear hi0 hz0 hz1 hz2 hA hn hm hk hE hO0
  go_enter Tryz.func11, Tryz.ntmps11
  go_wp2_with fail
  rw [HE1.out, HE2.out]
  go_loopw [13, 14, 15] (fun u13 u14 _ wr => ∃ k : Nat, k ≤ n - 1 ∧ u14 = .int .i64 k ∧ Below w.heap.size w wr ∧ wr.ownsRow w.heap.size 3 1 u13 k ((madeL raw k).map (Value.int .i64))) (fun _ u14 _ _ => 6 - (intOf u14).toNat)
  case atStart => exact ⟨0, Nat.zero_le _, rfl, Below.refl _ _, HO0.out⟩
  case round =>
  obtain ⟨k, hk, rfl, hB, hO⟩ := hrel
  have HB := Lib.hid hB; clear hB
  have HO := Lib.hid hO; clear hO
  by_cases hlt : k < n - 1
  case pos =>
    have hlti : (k : Int) < (n : Int) - 1 := by omega
    have step : ∀ (W : World) (x : Int), madeL raw (k + 1) = madeL raw k ++ [x] → ∀ (v1 : Value) (w4 : World), w4.ownsRow w.heap.size 3 1 v1 (k + 1) ((madeL raw k).map (Value.int .i64) ++ [.int .i64 x]) → w4.ownsRow w.heap.size 3 1 v1 (k + 1) ((madeL raw (k + 1)).map (Value.int .i64)) := by
      intro W x hx v1 w4 h
      rw [hx, List.map_append]; exact h
    have STEP := Lib.hid step
    clear step
    by_cases hlr : k < raw.length
    case pos =>
      obtain ⟨x, hx⟩ := get_some raw k hlr
      obtain ⟨bb, off, rfl, hcell⟩ := (HA.out.below HB.out).at_ hx
      have HX : Hid (madeL raw (k + 1) = madeL raw k ++ [x % 2147483647]) := Lib.hid (by rw [HML.out, hx])
      clear hx
      go_wp2_with (first | (go_at_call 10; refine (welement_any _ _).mono ?_; rintro e w' ⟨rfl, rfl⟩) | (at_builtin; refine wpList_app _ rfl (.tmp 43) (.tmp 45) 22 22 rfl w.heap.size 3 3 i0 _ 1 8 Tryz.underlying22 Tryz.underlying22 HI.out.1 HI.out.2.1 HI.out.2.2.1 HI.out.2.2.2 rfl (by omega) _ k _ rfl (HO.out.alloc _) _ 1 1 [.int .i64 (x % 2147483647)] rfl (Rd_new wr #[.int .i64 (x % 2147483647)] _ 1 1 _ rfl rfl) (by simp [Value.oneCell']) (by simp only [maxLen]; omega) (by omega) (by have := HB.out.size; simp; omega) ?_))
      intro v1 w4 hown4 hg4
      have HB4 : Hid (Below w.heap.size w w4) := Lib.hid ((below_alloc HB.out _).grown hg4 (by have := HB.out.size; simp; omega) (fun j hj => (HO.out.lt j hj).1))
      have HOWN4 := Lib.hid (STEP.out wr _ HX.out v1 w4 hown4)
      clear hown4 hg4
      go_wp2
      go_roundw
      case rel => exact ⟨k + 1, by omega, by go_num, HB4.out, HOWN4.out⟩
      case measure => simp [intOf]; omega
    case neg =>
      have HX : Hid (madeL raw (k + 1) = madeL raw k ++ [(k : Int)]) := Lib.hid (by rw [HML.out, List.getElem?_eq_none (by omega)])
      go_wp2_with (at_builtin; refine wpList_app _ rfl (.tmp 43) (.tmp 45) 22 22 rfl w.heap.size 3 3 i0 _ 1 8 Tryz.underlying22 Tryz.underlying22 HI.out.1 HI.out.2.1 HI.out.2.2.1 HI.out.2.2.2 rfl (by omega) _ k _ rfl (HO.out.alloc _) _ 1 1 [.int .i64 k] rfl (Rd_new wr #[.int .i64 k] _ 1 1 _ rfl rfl) (by simp [Value.oneCell']) (by simp only [maxLen]; omega) (by omega) (by have := HB.out.size; simp; omega) ?_)
      intro v1 w4 hown4 hg4
      have HB4 : Hid (Below w.heap.size w w4) := Lib.hid ((below_alloc HB.out _).grown hg4 (by have := HB.out.size; simp; omega) (fun j hj => (HO.out.lt j hj).1))
      have HOWN4 := Lib.hid (STEP.out wr _ HX.out v1 w4 hown4)
      clear hown4 hg4
      go_wp2
      go_roundw
      case rel => exact ⟨k + 1, by omega, by go_num, HB4.out, HOWN4.out⟩
      case measure => simp [intOf]; omega
  case neg =>
  obtain rfl : k = n - 1 := by omega
  obtain ⟨A1, c1, rfl, -, -, hr1⟩ := Rd.of_own HO.out
  have HS1 := Lib.hid (hsp.out wr A1 c1 (by unfold Ints; rw [HLE.out]; exact hr1))
  clear hr1
  have hge : ¬ (((n - 1 : Nat) : Int) < (n : Int) - 1) := by omega
  go_wp2_with fail
  refine (welement_any _ _).mono ?_
  rintro e w' ⟨rfl, rfl⟩
  go_wp2_with fail
  refine HS1.out.mono ?_
  rintro e w3 ⟨v3, rfl, ho3, hb3⟩
  have HB3 := Lib.hid (below_trans HB.out hb3)
  have HO3 := Lib.hid (own_mono ho3 HB.out.size)
  obtain ⟨A3, c3, rfl, -, -, -⟩ := Rd.of_own ho3
  clear ho3 hb3
  have hmm : ((m : Int) == (m : Int)) = true := by simp
  go_wp2
  go_ret3
  exact ⟨_, rfl, HO3.out, HB3.out⟩
end

section
open Go.RowKit

theorem below_chg {F : List Nat} {w W w' : World} (h : Below w.heap.size w W) (hc : Chg F W w') (hF : ∀ k, k ∈ F → w.heap.size ≤ k) : Below w.heap.size w w' := h.trans (hc.below hF h.size)

set_option maxRecDepth 100000 in
set_option maxHeartbeats 64000000 in
theorem bhead_any (w : World) (hT : Tabs w) : Calls Tryz.prog 16 #[] w fun e w' => e = .returned (.bool true) ∧ Below w.heap.size w w' := by
  have HT : Hid (∀ W, Below w.heap.size w W → Tabs W) := Lib.hid (fun W hW => hT.below hW)
  have HPL0 : Hid (∀ (A : Option Addr) (c k : Nat) (W : World), Prs W A L3 → k < 3 → Tabs W → Calls Tryz.prog 30 #[.slice A 3 c, .int .i64 k] W fun e w' => ∃ A' c', e = .returned (.slice A' (Pk k).length c') ∧ (Pk k).length ≤ c' ∧ Strs w' A' (Pk k) ∧ Below W.heap.size W w') := Lib.hid (fun A c k W hP hk hT => lpath_any A c L3 k W hP (by decide) L3_val hk hT)
  have HRT : Hid (rt (L3.map shLf) = R3) := Lib.hid rfl
  have HRD := Lib.hid R3_D
  have HRS : Hid (R3.size ≤ 1000000000) := Lib.hid (by have := rt_size (L3.map shLf) (shLf_sm _); unfold R3; omega)
  have HPL := Lib.hid Pk_len
  have HPS := Lib.hid Pk_sm
  have O1 := Lib.hid h3_o1
  have O2 := Lib.hid h3_o2
  have O3 := Lib.hid h3_o3
  have O4 := Lib.hid h3_o4
  have S1 := Lib.hid h3_s1
  have S2 := Lib.hid h3_s2
  have S3 := Lib.hid h3_s3
  have S4 := Lib.hid h3_s4
  generalize Pk = P at *
  generalize R3 = R at *
  clear hT
  go_enter Tryz.func16, Tryz.ntmps16
  go_wp2_with fail
  refine (split_any 7 2 3 _ _ [5] _ (Ints_new w #[.int .i64 5] _ _ [5] rfl rfl) (by omega) (by omega) (by omega) (by simp) (by simp) rfl).mono ?_
  rintro e w1 ⟨v1, rfl, hown1, hb1⟩
  obtain ⟨A1, c1, rfl, -, -, hrd1⟩ := Rd.of_own hown1
  rw [ex5] at hrd1
  have HB1 := Lib.hid (below_trans (below_alloc (Below.refl _ _) _) hb1)
  have HP1 : Hid (∀ W, Below w1.heap.size w1 W → Prs W A1 L3) := Lib.hid (fun W hW => Prs.below (show Prs w1 A1 L3 from hrd1) hW)
  clear hown1 hb1 hrd1
  go_wp2_with fail
  refine (sroot_any A1 c1 L3 w1 (HP1.out _ (Below.refl _ _)) (by decide) (by decide) L3_val (HT.out _ HB1.out)).mono ?_
  rintro e w2 ⟨rfl, hb⟩
  have HB2 := Lib.hid (below_trans HB1.out hb)
  have HX2 : Hid (Below w1.heap.size w1 w2) := Lib.hid hb
  clear hb
  rw [HRT.out]
  have HP2 : Hid (∀ W, Below w2.heap.size w2 W → Prs W A1 L3) := Lib.hid (fun W hW => HP1.out W (below_trans HX2.out hW))
  go_wp2_with fail
  refine (vnew_ok 2 3 R w2 HRS.out (by omega) (by omega) (by omega) HRD.out).mono ?_
  rintro e w3 ⟨g, B, rfl, hV, hg, hB, hb⟩
  have HV3 := Lib.hid hV
  have HGB : Hid (∀ k, k ∈ [g, B] → w2.heap.size ≤ k) := Lib.hid (by intro k hk; simp only [List.mem_cons, List.not_mem_nil, or_false] at hk; rcases hk with rfl | rfl <;> assumption)
  have HY3 : Hid (Below w2.heap.size w2 w3) := Lib.hid hb
  clear hV hg hB hb
  have HPT : Hid (∀ (k : Nat) W, k < 3 → Below w2.heap.size w2 W → _) := Lib.hid (fun k W hk hW => HPL0.out A1 c1 k W (HP2.out W hW) hk (HT.out W (below_trans HB2.out hW)))
  have HOF : Hid (∀ (s : Int × Int) (SS : List (Int × Int)) (C : Option Addr) (f k : Nat) W, SS.length ≤ 1000 → PV W g B 2 3 R SS false → Strs W C (P k) → (P k).length ≤ f → Below w2.heap.size w2 W → _) := Lib.hid (fun s SS C f k W hn hV hC hf hW => voffer_any g B 2 3 R SS false s C f (P k) W hV hn hC (HPL.out k) hf (HPS.out k) (HT.out W (below_trans HB2.out hW)))
  clear HRS
  obtain ⟨b, off, rfl, -, -⟩ := (HP2.out _ (Below.refl _ _)).at_ (show L3[0]? = some (1, 12) from rfl)
  go_wp2_with fail
  refine wp_region_held_drew (S := fun W => Below w2.heap.size w2 W) (by kernel_rfl) (HY3.out.drew) (fun hS0 => ?_)
  refine wpAnyH_take (i := 0) (v := ?_) rfl (by kernel_rfl) (by kernel_rfl) (by kernel_rfl) (fun _ _ _ h => h) (Or.inl ⟨by kernel_rfl, ?hy⟩) hS0 ?rest
  case hy => (intro W hSw; clear hSw; go_simp; with_reducible rfl)
  case rest =>
  refine wpAnyH_take (i := 1) (v := ?_) rfl (by kernel_rfl) (by kernel_rfl) (by kernel_rfl) (fun _ _ _ h => h) (Or.inl ⟨by kernel_rfl, ?hy⟩) hS0 ?rest
  case hy => (intro W hSw; clear hSw; go_simp; with_reducible rfl)
  case rest =>
  refine wpAnyH_take (i := 2) (v := ?_) rfl (by kernel_rfl) (by kernel_rfl) (by kernel_rfl) (fun _ _ _ h => h) (Or.inl ⟨by kernel_rfl, ?hy⟩) hS0 ?rest
  case hy => (intro W hSw; clear hSw; go_simp; with_reducible rfl)
  case rest =>
  refine wpAnyH_take (i := 3) (v := ?_) rfl (by kernel_rfl) (by kernel_rfl) (by kernel_rfl) (fun _ _ _ h => h) (Or.inl ⟨by kernel_rfl, ?hy⟩) hS0 ?rest
  case hy => (intro W hSw; obtain ⟨b, off, he, q1, q2⟩ := (HP2.out W hSw).at_ (show L3[0]? = some (1, 12) from rfl); cases he; have ql := lt_of_cell q1; have r1 : W.cell? ⟨b, off, none⟩ = some (.int .i64 1) := q1; have r2 : W.cell? ⟨b, off + 1, none⟩ = some (.int .i64 12) := q2; clear q1 q2 hSw; go_simp; with_reducible rfl)
  case rest =>
  refine wpAnyH_take (i := 4) (v := ?_) rfl (by kernel_rfl) (by kernel_rfl) (by kernel_rfl) (fun _ _ _ h => h) (Or.inl ⟨by kernel_rfl, ?hy⟩) hS0 ?rest
  case hy => (intro W hSw; clear hSw; go_simp; with_reducible rfl)
  case rest =>
  refine wpAnyH_ready (rs := [5]) (by kernel_rfl) (by simp) ?_
  refine AllReadyH.cons rfl (fun K hK => ?_) (AllReadyH.nil)
  go_simp
  refine (HPT.out 0 _ (by omega) HY3.out.drew).mono ?_
  rintro e wp ⟨C, f, rfl, hf, hC, hb⟩
  have HYP := Lib.hid (below_trans HY3.out.drew hb)
  have HVP := Lib.hid (HV3.out.below (below_trans (Below.refl _ _).drew hb))
  have HC := Lib.hid hC
  clear hb hC
  go_simp
  refine hK.out _ _ HYP.out (fun hS1 => ?_)
  clear hK K
  refine wpAnyH_ready (rs := [6]) (by kernel_rfl) (by simp) ?_
  refine AllReadyH.cons rfl (fun K hK => ?_) (AllReadyH.nil)
  go_simp
  refine (HOF.out (1, 12) [] C f 0 wp (by simp) HVP.out HC.out hf HYP.out).mono ?_
  rintro e w4 ⟨rfl, hV, hc⟩
  rw [O1.out]
  rw [S1.out] at hV
  have HV4 := Lib.hid hV
  have HY4 := Lib.hid (below_chg HYP.out hc HGB.out)
  clear hV hc
  go_simp
  refine hK.out _ _ HY4.out (fun hS2 => ?_)
  clear hK K
  refine wpAnyH_take (i := 7) (v := ?_) rfl (by kernel_rfl) (by kernel_rfl) (by kernel_rfl) (fun _ _ _ h => h) (Or.inl ⟨by kernel_rfl, ?hy⟩) hS2 ?rest
  case hy => (intro W hSw; clear hSw; go_simp; with_reducible rfl)
  case rest =>
  refine wpAnyH_done (by kernel_rfl) ?_ _
  clear hS0 hS1 hS2 HYP HVP HC hf
  go_wp2_with fail
  refine (vopen_any g B 2 3 R [(1, 12)] false w4 HV4.out (by omega)).mono ?_
  rintro e w5 ⟨rfl, hV, hc⟩
  rw [h3_j1]
  rw [h3_j1] at hV
  have HV5 := Lib.hid hV
  have HY5 := Lib.hid (below_chg HY4.out hc HGB.out)
  clear hV hc
  skip
  go_wp2_with fail
  refine wp_region_held_drew (S := fun W => Below w2.heap.size w2 W) (by kernel_rfl) (HY5.out.drew) (fun hS0 => ?_)
  refine wpAnyH_take (i := 0) (v := ?_) rfl (by kernel_rfl) (by kernel_rfl) (by kernel_rfl) (fun _ _ _ h => h) (Or.inl ⟨by kernel_rfl, ?hy⟩) hS0 ?rest
  case hy => (intro W hSw; clear hSw; go_simp; with_reducible rfl)
  case rest =>
  refine wpAnyH_take (i := 1) (v := ?_) rfl (by kernel_rfl) (by kernel_rfl) (by kernel_rfl) (fun _ _ _ h => h) (Or.inl ⟨by kernel_rfl, ?hy⟩) hS0 ?rest
  case hy => (intro W hSw; clear hSw; go_simp; with_reducible rfl)
  case rest =>
  refine wpAnyH_take (i := 2) (v := ?_) rfl (by kernel_rfl) (by kernel_rfl) (by kernel_rfl) (fun _ _ _ h => h) (Or.inl ⟨by kernel_rfl, ?hy⟩) hS0 ?rest
  case hy => (intro W hSw; clear hSw; go_simp; with_reducible rfl)
  case rest =>
  refine wpAnyH_take (i := 3) (v := ?_) rfl (by kernel_rfl) (by kernel_rfl) (by kernel_rfl) (fun _ _ _ h => h) (Or.inl ⟨by kernel_rfl, ?hy⟩) hS0 ?rest
  case hy => (intro W hSw; obtain ⟨b, off, he, q1, q2⟩ := (HP2.out W hSw).at_ (show L3[0]? = some (1, 12) from rfl); cases he; have ql := lt_of_cell q1; have r1 : W.cell? ⟨b, off, none⟩ = some (.int .i64 1) := q1; have r2 : W.cell? ⟨b, off + 1, none⟩ = some (.int .i64 12) := q2; clear q1 q2 hSw; go_simp; with_reducible rfl)
  case rest =>
  refine wpAnyH_take (i := 4) (v := ?_) rfl (by kernel_rfl) (by kernel_rfl) (by kernel_rfl) (fun _ _ _ h => h) (Or.inl ⟨by kernel_rfl, ?hy⟩) hS0 ?rest
  case hy => (intro W hSw; clear hSw; go_simp; with_reducible rfl)
  case rest =>
  refine wpAnyH_ready (rs := [5]) (by kernel_rfl) (by simp) ?_
  refine AllReadyH.cons rfl (fun K hK => ?_) (AllReadyH.nil)
  go_simp
  refine (HPT.out 0 _ (by omega) HY5.out.drew).mono ?_
  rintro e wp ⟨C, f, rfl, hf, hC, hb⟩
  have HYP := Lib.hid (below_trans HY5.out.drew hb)
  have HVP := Lib.hid (HV5.out.below (below_trans (Below.refl _ _).drew hb))
  have HC := Lib.hid hC
  clear hb hC
  go_simp
  refine hK.out _ _ HYP.out (fun hS1 => ?_)
  clear hK K
  refine wpAnyH_ready (rs := [6]) (by kernel_rfl) (by simp) ?_
  refine AllReadyH.cons rfl (fun K hK => ?_) (AllReadyH.nil)
  go_simp
  refine (HOF.out (1, 12) [(1, 12)] C f 0 wp (by simp) HVP.out HC.out hf HYP.out).mono ?_
  rintro e w6 ⟨rfl, hV, hc⟩
  rw [O2.out]
  rw [S2.out] at hV
  have HV6 := Lib.hid hV
  have HY6 := Lib.hid (below_chg HYP.out hc HGB.out)
  clear hV hc
  go_simp
  refine hK.out _ _ HY6.out (fun hS2 => ?_)
  clear hK K
  refine wpAnyH_take (i := 7) (v := ?_) rfl (by kernel_rfl) (by kernel_rfl) (by kernel_rfl) (fun _ _ _ h => h) (Or.inl ⟨by kernel_rfl, ?hy⟩) hS2 ?rest
  case hy => (intro W hSw; clear hSw; go_simp; with_reducible rfl)
  case rest =>
  refine wpAnyH_done (by kernel_rfl) ?_ _
  clear hS0 hS1 hS2 HYP HVP HC hf
  go_wp2_with fail
  refine (HPT.out 2 w6 (by omega) HY6.out).mono ?_
  rintro e wp ⟨C, f, rfl, hf, hC, hb⟩
  have HYP := Lib.hid (below_trans HY6.out hb)
  have HVP := Lib.hid (HV6.out.below hb)
  have HC := Lib.hid hC
  clear hb hC
  go_wp2_with fail
  refine (HOF.out (3, 23) [(1, 12)] C f 2 wp (by simp) HVP.out HC.out hf HYP.out).mono ?_
  rintro e w7 ⟨rfl, hV, hc⟩
  rw [O3.out]
  rw [S3.out] at hV
  have HV7 := Lib.hid hV
  have HY7 := Lib.hid (below_chg HYP.out hc HGB.out)
  clear hV hc HYP HVP HC hf
  skip
  go_wp2_with fail
  refine wp_region_held_drew (S := fun W => Below w2.heap.size w2 W) (by kernel_rfl) (HY7.out.drew) (fun hS0 => ?_)
  refine wpAnyH_take (i := 0) (v := ?_) rfl (by kernel_rfl) (by kernel_rfl) (by kernel_rfl) (fun _ _ _ h => h) (Or.inl ⟨by kernel_rfl, ?hy⟩) hS0 ?rest
  case hy => (intro W hSw; clear hSw; go_simp; with_reducible rfl)
  case rest =>
  refine wpAnyH_take (i := 1) (v := ?_) rfl (by kernel_rfl) (by kernel_rfl) (by kernel_rfl) (fun _ _ _ h => h) (Or.inl ⟨by kernel_rfl, ?hy⟩) hS0 ?rest
  case hy => (intro W hSw; clear hSw; go_simp; with_reducible rfl)
  case rest =>
  refine wpAnyH_take (i := 2) (v := ?_) rfl (by kernel_rfl) (by kernel_rfl) (by kernel_rfl) (fun _ _ _ h => h) (Or.inl ⟨by kernel_rfl, ?hy⟩) hS0 ?rest
  case hy => (intro W hSw; clear hSw; go_simp; with_reducible rfl)
  case rest =>
  refine wpAnyH_take (i := 3) (v := ?_) rfl (by kernel_rfl) (by kernel_rfl) (by kernel_rfl) (fun _ _ _ h => h) (Or.inl ⟨by kernel_rfl, ?hy⟩) hS0 ?rest
  case hy => (intro W hSw; obtain ⟨b, off, he, q1, q2⟩ := (HP2.out W hSw).at_ (show L3[2]? = some (3, 22) from rfl); cases he; have ql := lt_of_cell q1; have r1 : W.cell? ⟨b, off + 4, none⟩ = some (.int .i64 3) := q1; have r2 : W.cell? ⟨b, off + 4 + 1, none⟩ = some (.int .i64 22) := q2; have r3 : W.cell? ⟨b, off + 5, none⟩ = some (.int .i64 22) := q2; clear q1 q2 hSw; go_simp; with_reducible rfl)
  case rest =>
  refine wpAnyH_take (i := 4) (v := ?_) rfl (by kernel_rfl) (by kernel_rfl) (by kernel_rfl) (fun _ _ _ h => h) (Or.inl ⟨by kernel_rfl, ?hy⟩) hS0 ?rest
  case hy => (intro W hSw; clear hSw; go_simp; with_reducible rfl)
  case rest =>
  refine wpAnyH_ready (rs := [5]) (by kernel_rfl) (by simp) ?_
  refine AllReadyH.cons rfl (fun K hK => ?_) (AllReadyH.nil)
  go_simp
  refine (HPT.out 2 _ (by omega) HY7.out.drew).mono ?_
  rintro e wp ⟨C, f, rfl, hf, hC, hb⟩
  have HYP := Lib.hid (below_trans HY7.out.drew hb)
  have HVP := Lib.hid (HV7.out.below (below_trans (Below.refl _ _).drew hb))
  have HC := Lib.hid hC
  clear hb hC
  go_simp
  refine hK.out _ _ HYP.out (fun hS1 => ?_)
  clear hK K
  refine wpAnyH_ready (rs := [6]) (by kernel_rfl) (by simp) ?_
  refine AllReadyH.cons rfl (fun K hK => ?_) (AllReadyH.nil)
  go_simp
  refine (HOF.out (3, 22) [(1, 12)] C f 2 wp (by simp) HVP.out HC.out hf HYP.out).mono ?_
  rintro e w8 ⟨rfl, hV, hc⟩
  rw [O4.out]
  rw [S4.out] at hV
  have HV8 := Lib.hid hV
  have HY8 := Lib.hid (below_chg HYP.out hc HGB.out)
  clear hV hc
  go_simp
  refine hK.out _ _ HY8.out (fun hS2 => ?_)
  clear hK K
  refine wpAnyH_take (i := 7) (v := ?_) rfl (by kernel_rfl) (by kernel_rfl) (by kernel_rfl) (fun _ _ _ h => h) (Or.inl ⟨by kernel_rfl, ?hy⟩) hS2 ?rest
  case hy => (intro W hSw; clear hSw; go_simp; with_reducible rfl)
  case rest =>
  refine wpAnyH_done (by kernel_rfl) ?_ _
  clear hS0 hS1 hS2 HYP HVP HC hf
  go_wp2_with fail
  refine (vopen_any g B 2 3 R [(1, 12), (3, 22)] false w8 HV8.out (by omega)).mono ?_
  rintro e w9 ⟨rfl, hV, hc⟩
  rw [h3_j2]
  rw [h3_j2] at hV
  have HV9 := Lib.hid hV
  have HY9 := Lib.hid (below_chg HY8.out hc HGB.out)
  clear hV hc
  go_wp2_with fail
  refine (vopen_any g B 2 3 R [(1, 12), (3, 22)] true w9 HV9.out (by omega)).mono ?_
  rintro e w10 ⟨rfl, hV, hc⟩
  rw [h3_j3]
  rw [h3_j3] at hV
  have HV10 := Lib.hid hV
  have HY10 := Lib.hid (below_chg HY9.out hc HGB.out)
  clear hV hc
  have HBk : Hid (Below w.heap.size w w10) := Lib.hid (below_trans HB2.out HY10.out)
  have hbk := back_ok h3_bl
  have HB1L := Lib.hid hbk.1
  have HB2L := Lib.hid hbk.2
  clear hbk
  go_wp2_with fail
  refine (blind_any (some ⟨w10.heap.size, 0, none⟩) 2 [5, -5] 7 _ (Ints_new w10 #[.int .i64 5, .int .i64 (-5)] _ _ [5, -5] rfl rfl) (by simp) (HT.out _ (below_alloc HBk.out _))).mono ?_
  rintro e wb ⟨vb, rfl, ho, hb⟩
  rw [h3_bl]
  have hlen := blL_len h3_bl
  have hg0 := blL_get h3_bl (show [(5 : Int), -5][0]? = some 5 from rfl)
  have hl0 := offN_lt (7 : Int).toNat 0
  generalize offN (7 : Int).toNat 0 = d0 at *
  obtain ⟨A4, c4, rfl, -, -, hr4⟩ := Rd.of_own ho
  have HI4 : Hid (Ints wb A4 (blL [5, -5] 7)) := Lib.hid hr4
  have HBb := Lib.hid (below_trans (below_alloc HBk.out _) hb)
  have HUN := Lib.hid (unblind_any A4 c4 (blL [5, -5] 7) 7 wb hr4 (by rw [hlen]; simp) (HT.out _ (below_trans (below_alloc HBk.out _) hb)))
  rw [HB1L.out, HB2L.out] at HUN
  rw [hlen] at HUN ⊢
  have HLEN := Lib.hid hlen
  clear ho hb hr4 hlen
  go_wp2_with fail
  refine (HUN.out).mono ?_
  rintro e wu ⟨vu, rfl, ho, hb⟩
  obtain ⟨A5, c5, rfl, -, -, hr5⟩ := Rd.of_own ho
  have HBu := Lib.hid (below_trans HBb.out hb)
  have hI5 : Ints wu A5 [5, -5] := hr5
  obtain ⟨b5, o5, rfl, q50⟩ := hI5.at_ (show [(5 : Int), -5][0]? = some 5 from rfl)
  obtain ⟨b5', o5', he5, q51⟩ := hI5.at_ (show [(5 : Int), -5][1]? = some (-5) from rfl)
  cases he5
  obtain ⟨b4, o4, rfl, q40⟩ := (HI4.out.below hb).at_ hg0
  rw [Nat.add_zero] at q50 q40
  have l5 := lt_of_cell q50
  have l4 := lt_of_cell q40
  clear ho hb hr5 hI5 hg0 HUN
  have hx1 : (5 : Int) ≤ 5 + (d0 : Int) := by omega
  have hx2 : 5 + (d0 : Int) ≤ 1000007 := by omega
  go_wp2
  go_ret
  exact ⟨rfl, HBu.out⟩

  
end

section
open Go.RowKit
theorem step_appT {P : Program} (w : World) {ops : Array Oper} {o : Oper} {a : Act} {K : Act → World → Prop} {Q : Exit → Act → World → Prop} {E : Prop} (hw : Region.wanted o (yielded ops a.tmps) = true) (s x : Operand) (t t2 : TypeId)
    (ho : o.op = .call { callee := .builtin .append, args := #[s, x], argTypes := #[t, t2] })
    (base : Nat) (e e2 : TypeId) (i : TypeInfo) (z : Value) (size bytes : Nat) (ht : P.underlying t = some (.slice e)) (ht2 : P.underlying t2 = some (.slice e2)) (hi : P.info? e = some i) (hz : i.zero = some z)
    (hsize : i.size = size) (hby : i.bytes = bytes) (hzs : z.cells.size = size) (hsz : 0 < size)
    (v : Value) (n : Nat) (xs : List Value) (hs : a.eval s = v) (hown : w.ownsRow base e size v n xs)
    (A : Option Addr) (m c : Nat) (news : List Value) (hx : a.eval x = .slice A m c) (hr : Rd w size A m news) (h1 : ∀ u ∈ news, u.oneCell' = true)
    (h63 : n + m ≤ maxLen) (hbytes : (n + m) * bytes ≤ 140737488355328) (hbase : base ≤ w.heap.size)
    (h : ∀ v' w', w'.ownsRow base e size v' (n + m) (xs ++ news) → w.grownBy w' v.ownBlock → K (a.put o.dst v') w') :
    if Region.wanted o (yielded ops a.tmps) = true then Oper.wp P o a w K Q else E := by
  rw [if_pos hw]
  obtain ⟨v', w', hrun, h2, h3⟩ := run_app (P := P) w base t t2 o.type e e2 i z size bytes ht ht2 hi hz hsize hby hzs hsz v n xs hown A m c news hr h1 h63 hbytes hbase
  unfold Oper.wp execOp
  simp only [ho, resolve, invoke, builtin, Sem.run_bind, Sem.run_pure, Result.andThen_ok, List.map_toArray, List.map_cons, List.map_nil, hs, hx, hrun]
  exact h v' w' h2 h3

theorem txt_len (l : List ByteArray) : (txt l).length ≤ l.length + 1 ∧ (1 ≤ l.length → (txt l).length + 1 = l.length) := by
  obtain ⟨n, hn⟩ : ∃ n, l.length = n := ⟨_, rfl⟩
  induction n using Nat.strongRecOn generalizing l with
  | _ n ih =>
    by_cases h2 : 2 ≤ l.length
    · have k1 := hf_lt l.length h2
      have k2 := hf_pos l.length
      have e1 := (ih (hf l.length) (by omega) (l.take (hf l.length)) (by rw [List.length_take]; omega)).2 (by rw [List.length_take]; omega)
      have e2 := (ih (l.length - hf l.length) (by omega) (l.drop (hf l.length)) (by rw [List.length_drop])).2 (by rw [List.length_drop]; omega)
      rw [List.length_take] at e1
      rw [List.length_drop] at e2
      rw [txt_two l h2, List.length_append, List.length_append, List.length_singleton]
      omega
    · match l, h2 with
      | [], _ => rw [txt_nil]; simp
      | [x], _ => rw [txt_one]; simp
      | x :: y :: l, h2 => simp at h2

theorem own_new (w : World) (x : ByteArray) : (w.alloc (.cells #[.string x] 9)).ownsRow w.heap.size 9 1 (.slice (some ⟨w.heap.size, 0, none⟩) 1 1) 1 [.string x] :=
  ⟨rfl, .inr ⟨w.heap.size, 1, #[.string x], rfl, Nat.le_refl _, Blk.new w _ _ _ rfl, Nat.le_refl _, by decide, rfl, rfl⟩⟩

theorem rjoin1 (W : World) : Calls Tryz.prog 32 #[.slice (some ⟨W.heap.size, 0, none⟩) 1 1] (W.alloc (.cells #[.string ⟨#[101, 109, 112, 116, 121]⟩] 9)) fun e w' => e = .returned (.string (jb [bEmpty])) ∧ Below W.heap.size W w' := by
  have := rjoined (some ⟨W.heap.size, 0, none⟩) 1 [bEmpty] (W.alloc (.cells #[.string ⟨#[101, 109, 112, 116, 121]⟩] 9)) (Strs_new _ _ _ _ _ rfl rfl) (by simp) (by intro s hs; rw [List.mem_singleton.1 hs]; decide)
  exact this.mono fun _ _ ⟨he, hb⟩ => ⟨he, below_trans (below_alloc (Below.refl _ _) _) hb⟩

/-- A list at a block that an append does not touch. -/
theorem Rd_grown {w w' : World} {size m : Nat} {A : Option Addr} {xs : List Value} {row : Option Nat} (h : Rd w size A m xs) (hg : w.grownBy w' row) (hl : ∀ a, A = some a → a.block < w.heap.size ∧ row ≠ some a.block) : Rd w' size A m xs := by
  refine ⟨h.1, fun hn => ?_⟩
  obtain ⟨b, off, e, hv⟩ := h.2 hn
  obtain ⟨h1, h2⟩ := hl _ e
  refine ⟨b, off, e, fun j u hu => ?_⟩
  have h3 := hg.block b h1 (Ne.symm h2)
  have h4 := hv j u hu
  unfold World.cell? at h4 ⊢
  rw [h3]
  exact h4

set_option maxRecDepth 100000 in
set_option maxHeartbeats 32000000 in
theorem rtxt_any (q : Nat) : ∀ (A : Option Addr) (c : Nat) (l : List ByteArray) (w : World), l.length ≤ q → l.length ≤ 100000 → l.length ≤ c → Strs w A l → sm l →
    Calls Tryz.prog 34 #[.slice A l.length c] w fun e w' => ∃ v, e = .returned v ∧ w'.ownsRow w.heap.size 9 1 v (txt l).length ((txt l).map Value.string) ∧ Below w.heap.size w w' := by
  have base : ∀ (A : Option Addr) (c : Nat) (w : World), Calls Tryz.prog 34 #[.slice A 0 c] w fun e w' => ∃ v, e = .returned v ∧ w'.ownsRow w.heap.size 9 1 v (txt []).length ((txt []).map Value.string) ∧ Below w.heap.size w w' := by
    intro A c w
    have HJ := Lib.hid (rjoin1 w)
    rw [txt_nil]
    generalize jb [bEmpty] = y at *
    go_enter Tryz.func34, Tryz.ntmps34
    go_wp2_with fail
    refine HJ.out.mono ?_
    rintro e w1 ⟨rfl, hb1⟩
    have HB1 := Lib.hid hb1
    clear hb1
    go_wp2
    go_ret
    exact ⟨_, rfl, own_base (own_new w1 y) HB1.out.size, below_alloc HB1.out _⟩
  induction q with
  | zero =>
    intro A c l w h1 h2 h3 hS hsm
    obtain rfl : l = [] := List.eq_nil_of_length_eq_zero (by omega)
    exact base A c w
  | succ q ih =>
    intro A c l w hn hbig hcap hS hsm
    by_cases h2 : 2 ≤ l.length
    · obtain ⟨b, off, rfl, -⟩ := hS.2 (by omega)
      obtain ⟨k, hk⟩ : ∃ k, hf l.length = k := ⟨_, rfl⟩
      have HH := Lib.hid (rhalf_any l.length (by omega) w)
      rw [hk] at HH
      have k1 := hf_lt l.length h2
      have k2 := hf_pos l.length
      rw [hk] at k1 k2
      have htx := txt_two l h2
      rw [hk] at htx
      have hs1 := rt_size _ (hsm.take k)
      have hs2 := rt_size _ (hsm.drop k)
      have R1 : Hid (∀ W, Below w.heap.size w W → Calls Tryz.prog 58 #[.slice (some ⟨b, off, none⟩) k c] W fun e w' => e = .returned (.string (rt (l.take k))) ∧ Below W.heap.size W w') := Lib.hid (fun W hW => by
        have := rroot_any q (some ⟨b, off, none⟩) c (l.take k) W (by rw [List.length_take]; omega) (by rw [List.length_take]; omega) (by rw [List.length_take]; omega) ((hS.below hW).take k) (hsm.take k)
        rw [List.length_take, Nat.min_eq_left (by omega)] at this
        exact this)
      have R2 : Hid (∀ W, Below w.heap.size w W → Calls Tryz.prog 58 #[.slice (some ⟨b, off + k, none⟩) (l.length - k) (c - k)] W fun e w' => e = .returned (.string (rt (l.drop k))) ∧ Below W.heap.size W w') := Lib.hid (fun W hW => by
        have := rroot_any q (some ⟨b, off + k, none⟩) (c - k) (l.drop k) W (by rw [List.length_drop]; omega) (by rw [List.length_drop]; omega) (by rw [List.length_drop]; omega) ((hS.below hW).drop k) (hsm.drop k)
        rw [List.length_drop] at this
        exact this)
      have H1 : Hid (∀ W, Below w.heap.size w W → Calls Tryz.prog 34 #[.slice (some ⟨b, off, none⟩) k c] W fun e w' => ∃ v, e = .returned v ∧ w'.ownsRow W.heap.size 9 1 v (txt (l.take k)).length ((txt (l.take k)).map Value.string) ∧ Below W.heap.size W w') := Lib.hid (fun W hW => by
        have := ih (some ⟨b, off, none⟩) c (l.take k) W (by rw [List.length_take]; omega) (by rw [List.length_take]; omega) (by rw [List.length_take]; omega) ((hS.below hW).take k) (hsm.take k)
        rw [List.length_take, Nat.min_eq_left (by omega)] at this
        exact this)
      have H2 : Hid (∀ W, Below w.heap.size w W → Calls Tryz.prog 34 #[.slice (some ⟨b, off + k, none⟩) (l.length - k) (c - k)] W fun e w' => ∃ v, e = .returned v ∧ w'.ownsRow W.heap.size 9 1 v (txt (l.drop k)).length ((txt (l.drop k)).map Value.string) ∧ Below W.heap.size W w') := Lib.hid (fun W hW => by
        have := ih (some ⟨b, off + k, none⟩) (c - k) (l.drop k) W (by rw [List.length_drop]; omega) (by rw [List.length_drop]; omega) (by rw [List.length_drop]; omega) ((hS.below hW).drop k) (hsm.drop k)
        rw [List.length_drop] at this
        exact this)
      have HJ := Lib.hid (fun W => rjoin3 (rt (l.take k)) (rt (l.drop k)) hs1 hs2 W)
      have ht1 := (txt_len (l.take k)).1
      have ht2 := (txt_len (l.drop k)).1
      rw [List.length_take] at ht1
      rw [List.length_drop] at ht2
      have HT1 : Hid ((txt (l.take k)).length ≤ 200000 ∧ (txt (l.drop k)).length ≤ 200000) := Lib.hid ⟨by omega, by omega⟩
      obtain ⟨ip, hj1, hy0, hy1, hy2⟩ := info_parts info_strg
      have HI := Lib.hid (And.intro hj1 (And.intro hy0 (And.intro hy1 hy2)))
      rw [htx]
      clear hj1 hy0 hy1 hy2 htx hs1 hs2 hS hsm ih base hk h2 ht1 ht2
      generalize txt (l.take k) = T1 at *
      generalize txt (l.drop k) = T2 at *
      generalize rt (l.take k) = r1 at *
      generalize rt (l.drop k) = r2 at *
      generalize jb [bNode, r1, r2] = y at *
      generalize l.length = m at *
      have hne : ((m : Int) == 1) = false := by simp; omega
      have hne0 : ((m : Int) == 0) = false := by simp; omega
      have hkm : (k : Int) ≤ (m : Int) := by omega
      have hkc : (k : Int) ≤ (c : Int) := by omega
      have hck : (c = k) = False := by simp; omega
      go_enter Tryz.func34, Tryz.ntmps34
      go_wp2_with fail
      refine HH.out.mono ?_
      rintro e _ ⟨rfl, rfl⟩
      go_wp2_with fail
      refine wp_region_held_drew (S := fun _ => True) (by kernel_rfl) trivial (fun hS5 => ?_)
      refine wpAnyH_take (i := 0) (v := ?_) rfl (by kernel_rfl) (by kernel_rfl) (by kernel_rfl) (fun _ _ _ h => h) (Or.inl ⟨by kernel_rfl, ?hy⟩) hS5 ?rest
      case hy => (intro w hSw; clear hSw; go_simp; try with_reducible rfl)
      case rest =>
      refine wpAnyH_take (i := 1) (v := ?_) rfl (by kernel_rfl) (by kernel_rfl) (by kernel_rfl) (fun _ _ _ h => h) (Or.inl ⟨by kernel_rfl, ?hy⟩) hS5 ?rest
      case hy => (intro w hSw; clear hSw; go_simp; try with_reducible rfl)
      case rest =>
      refine wpAnyH_take (i := 2) (v := ?_) rfl (by kernel_rfl) (by kernel_rfl) (by kernel_rfl) (fun _ _ _ h => h) (Or.inl ⟨by kernel_rfl, ?hy⟩) hS5 ?rest
      case hy => (intro w hSw; clear hSw; go_simp; try with_reducible rfl)
      case rest =>
      refine wpAnyH_take (i := 4) (v := ?_) rfl (by kernel_rfl) (by kernel_rfl) (by kernel_rfl) (fun _ _ _ h => h) (Or.inl ⟨by kernel_rfl, ?hy⟩) hS5 ?rest
      case hy => (intro w hSw; clear hSw; go_simp; try with_reducible rfl)
      case rest =>
      refine wpAnyH_take (i := 5) (v := ?_) rfl (by kernel_rfl) (by kernel_rfl) (by kernel_rfl) (fun _ _ _ h => h) (Or.inl ⟨by kernel_rfl, ?hy⟩) hS5 ?rest
      case hy => (intro w hSw; clear hSw; go_simp; try with_reducible rfl)
      case rest =>
      refine wpAnyH_take (i := 6) (v := ?_) rfl (by kernel_rfl) (by kernel_rfl) (by kernel_rfl) (fun _ _ _ h => h) (Or.inl ⟨by kernel_rfl, ?hy⟩) hS5 ?rest
      case hy => (intro w hSw; clear hSw; go_simp; try with_reducible rfl)
      case rest =>
      refine wpAnyH_ready (rs := [3]) (by kernel_rfl) (by simp) ?_
      refine AllReadyH.cons rfl (fun K hK => ?_) AllReadyH.nil
      go_simp
      refine (R1.out _ (Below.refl _ _).drew).mono ?_
      rintro e W1 ⟨rfl, hb1⟩
      have HB1 : Hid (Below w.heap.size w W1) := Lib.hid (below_trans (Below.refl _ _).drew hb1)
      clear hb1
      go_simp
      refine hK.out _ _ trivial (fun _ => ?_)
      clear hK K
      refine wpAnyH_ready (rs := [7]) (by kernel_rfl) (by simp) ?_
      refine AllReadyH.cons rfl (fun K hK => ?_) AllReadyH.nil
      go_simp
      refine (R2.out W1 HB1.out).mono ?_
      rintro e W2 ⟨rfl, hb2⟩
      have HB2 : Hid (Below w.heap.size w W2) := Lib.hid (below_trans HB1.out hb2)
      clear hb2
      go_simp
      refine hK.out _ _ trivial (fun _ => ?_)
      clear hK K
      refine wpAnyH_ready (rs := [8]) (by kernel_rfl) (by simp) ?_
      refine AllReadyH.cons rfl (fun K hK => ?_) AllReadyH.nil
      go_simp
      refine hK.out _ _ trivial (fun _ => ?_)
      clear hK K
      refine wpAnyH_ready (rs := [9]) (by kernel_rfl) (by simp) ?_
      refine AllReadyH.cons rfl (fun K hK => ?_) AllReadyH.nil
      go_simp
      refine (HJ.out W2).mono ?_
      rintro e W3 ⟨rfl, hb3⟩
      have HB3 : Hid (Below w.heap.size w W3) := Lib.hid (below_trans HB2.out hb3)
      clear hb3
      go_simp
      refine hK.out _ _ trivial (fun _ => ?_)
      clear hK K
      refine wpAnyH_take (i := 10) (v := ?_) rfl (by kernel_rfl) (by kernel_rfl) (by kernel_rfl) (fun _ _ _ h => h) (Or.inl ⟨by kernel_rfl, ?hy⟩) hS5 ?rest
      case hy => (intro w hSw; clear hSw; go_simp; try with_reducible rfl)
      case rest =>
      refine wpAnyH_done (by kernel_rfl) ?_ _
      go_wp2_with fail
      refine wp_region_held_drew (S := fun _ => True) (by kernel_rfl) trivial (fun hS5 => ?_)
      refine wpAnyH_take (i := 0) (v := ?_) rfl (by kernel_rfl) (by kernel_rfl) (by kernel_rfl) (fun _ _ _ h => h) (Or.inl ⟨by kernel_rfl, ?hy⟩) hS5 ?rest
      case hy => (intro w hSw; clear hSw; go_simp; try with_reducible rfl)
      case rest =>
      refine wpAnyH_take (i := 1) (v := ?_) rfl (by kernel_rfl) (by kernel_rfl) (by kernel_rfl) (fun _ _ _ h => h) (Or.inl ⟨by kernel_rfl, ?hy⟩) hS5 ?rest
      case hy => (intro w hSw; clear hSw; go_simp; try with_reducible rfl)
      case rest =>
      refine wpAnyH_take (i := 2) (v := ?_) rfl (by kernel_rfl) (by kernel_rfl) (by kernel_rfl) (fun _ _ _ h => h) (Or.inl ⟨by kernel_rfl, ?hy⟩) hS5 ?rest
      case hy => (intro w hSw; clear hSw; go_simp; try with_reducible rfl)
      case rest =>
      refine wpAnyH_take (i := 4) (v := ?_) rfl (by kernel_rfl) (by kernel_rfl) (by kernel_rfl) (fun _ _ _ h => h) (Or.inl ⟨by kernel_rfl, ?hy⟩) hS5 ?rest
      case hy => (intro w hSw; clear hSw; go_simp; try with_reducible rfl)
      case rest =>
      refine wpAnyH_take (i := 5) (v := ?_) rfl (by kernel_rfl) (by kernel_rfl) (by kernel_rfl) (fun _ _ _ h => h) (Or.inl ⟨by kernel_rfl, ?hy⟩) hS5 ?rest
      case hy => (intro w hSw; clear hSw; go_simp; try with_reducible rfl)
      case rest =>
      refine wpAnyH_take (i := 6) (v := ?_) rfl (by kernel_rfl) (by kernel_rfl) (by kernel_rfl) (fun _ _ _ h => h) (Or.inl ⟨by kernel_rfl, ?hy⟩) hS5 ?rest
      case hy => (intro w hSw; clear hSw; go_simp; try with_reducible rfl)
      case rest =>
      refine wpAnyH_take (i := 9) (v := ?_) rfl (by kernel_rfl) (by kernel_rfl) (by kernel_rfl) (fun _ _ _ h => h) (Or.inl ⟨by kernel_rfl, ?hy⟩) hS5 ?rest
      case hy => (intro w hSw; clear hSw; go_simp; try with_reducible rfl)
      case rest =>
      have HBS : Hid (Below w.heap.size w W3.drew) := Lib.hid HB3.out.drew
      refine wpAnyH_ready (rs := [3, 10]) (by kernel_rfl) (by simp) ?_
      refine AllReadyH.cons rfl (fun K hK => ?_) (AllReadyH.cons rfl (fun K hK => ?_) (AllReadyH.nil))
      · skip
        go_simp
        refine (H1.out _ HBS.out).mono ?_
        rintro e X1 ⟨v1, rfl, ho, hb⟩
        have HB1 : Hid (Below w.heap.size w X1) := Lib.hid (below_trans HBS.out hb)
        have HOv1_1 : Hid (X1.ownsRow (W3.drew).heap.size 9 1 v1 T1.length (T1.map Value.string)) := Lib.hid ho
        clear ho hb
        go_simp
        refine hK.out _ _ trivial (fun _ => ?_)
        clear hK K
        refine wpAnyH_ready (rs := [7, 10]) (by kernel_rfl) (by simp) ?_
        refine AllReadyH.cons rfl (fun K hK => ?_) (AllReadyH.cons rfl (fun K hK => ?_) (AllReadyH.nil))
        · skip
          go_simp
          refine (H2.out _ HB1.out).mono ?_
          rintro e X2 ⟨v2, rfl, ho, hb⟩
          have HB2 : Hid (Below w.heap.size w X2) := Lib.hid (below_trans HB1.out hb)
          have HOv2_2 : Hid (X2.ownsRow (X1).heap.size 9 1 v2 T2.length (T2.map Value.string)) := Lib.hid ho
          have HOv1_2 : Hid (X2.ownsRow (W3.drew).heap.size 9 1 v1 T1.length (T1.map Value.string)) := Lib.hid (row_below HOv1_1.out hb)
          clear ho hb
          go_simp
          refine hK.out _ _ trivial (fun _ => ?_)
          clear hK K
          refine wpAnyH_ready (rs := [8, 10]) (by kernel_rfl) (by simp) ?_
          refine AllReadyH.cons rfl (fun K hK => ?_) (AllReadyH.cons rfl (fun K hK => ?_) (AllReadyH.nil))
          · skip
            obtain ⟨A2, c2, rfl, -, -, hr2⟩ := Rd.of_own HOv2_2.out
            have HR2 := Lib.hid hr2
            have HOB : Hid ((X2).ownsRow w.heap.size 9 1 v1 T1.length (T1.map Value.string)) := Lib.hid (own_base HOv1_2.out (by have := HBS.out.size; simpa using this))
            clear hr2
            refine step_appT X2 (by kernel_rfl) (.tmp 30) (.tmp 34) 46 46 rfl w.heap.size 9 9 ip _ 1 16 Tryz.underlying46 Tryz.underlying46 HI.out.1 HI.out.2.1 HI.out.2.2.1 HI.out.2.2.2 rfl (by omega) v1 T1.length _ (by kernel_rfl) HOB.out A2 T2.length c2 (T2.map Value.string) (by kernel_rfl) HR2.out (by intro u hu; obtain ⟨t, _, rfl⟩ := List.mem_map.1 hu; rfl) (by have := HT1.out; simp only [maxLen]; omega) (by have := HT1.out; omega) (by have := HB2.out.size; simpa using this) ?_
            intro v3 X3 ho hg
            have HB3 : Hid (Below w.heap.size w X3) := Lib.hid (HB2.out.grown hg (by have := HB2.out.size; simpa using this) (fun j hj => (HOB.out.lt j hj).1))
            have HO3_3 := Lib.hid ho
            clear ho hg
            refine hK.out _ _ trivial (fun _ => ?_)
            clear hK K
            refine wpAnyH_ready (rs := [10]) (by kernel_rfl) (by simp) ?_
            refine AllReadyH.cons rfl (fun K hK => ?_) (AllReadyH.nil)
            go_simp
            refine hK.out _ _ trivial (fun _ => ?_)
            clear hK K
            have HB4 : Hid (Below w.heap.size w ((X3).alloc (.cells #[.string y] 9))) := Lib.hid (below_alloc HB3.out _)
            have HR4 : Hid (Rd ((X3).alloc (.cells #[.string y] 9)) 1 (some ⟨(X3).heap.size, 0, none⟩) 1 [.string y]) := Lib.hid (Rd_new (X3) #[.string y] _ 1 1 _ rfl rfl)
            have HG4 : Hid ((X3).heap.size < ((X3).alloc (.cells #[.string y] 9)).heap.size) := Lib.hid (by simp)
            have HO3_4 := Lib.hid (row_below HO3_3.out (below_alloc (Below.refl _ _) (.cells #[.string y] 9)))
            refine wpAnyH_ready (rs := [11]) (by kernel_rfl) (by simp) ?_
            refine AllReadyH.cons rfl (fun K hK => ?_) (AllReadyH.nil)
            refine step_appT ((X3).alloc (.cells #[.string y] 9)) (by kernel_rfl) (.tmp 35) (.tmp 37) 46 46 rfl w.heap.size 9 9 ip _ 1 16 Tryz.underlying46 Tryz.underlying46 HI.out.1 HI.out.2.1 HI.out.2.2.1 HI.out.2.2.2 rfl (by omega) v3 (T1.length + T2.length) _ (by kernel_rfl) HO3_4.out (some ⟨(X3).heap.size, 0, none⟩) 1 1 [.string y] (by kernel_rfl) HR4.out (by simp [Value.oneCell']) (by have := HT1.out; simp only [maxLen]; omega) (by have := HT1.out; omega) (by have := HB4.out.size; simpa using this) ?_
            intro v5 X5 ho hg
            have HB5 : Hid (Below w.heap.size w X5) := Lib.hid (HB4.out.grown hg (by have := HB4.out.size; simpa using this) (fun j hj => (HO3_4.out.lt j hj).1))
            have HO5 := Lib.hid ho
            clear ho hg
            refine hK.out _ _ trivial (fun _ => ?_)
            clear hK K
            refine wpAnyH_take (i := 12) (v := ?_) rfl (by kernel_rfl) (by kernel_rfl) (by kernel_rfl) (fun _ _ _ h => h) (Or.inl ⟨by kernel_rfl, ?hy⟩) hS5 ?rest
            case hy => (intro w hSw; clear hSw; go_simp; try with_reducible rfl)
            case rest =>
            refine wpAnyH_done (by kernel_rfl) ?_ _
            go_wp2
            go_ret
            refine ⟨v5, rfl, ?_, HB5.out⟩
            have := HO5.out
            simpa [Nat.add_assoc] using this
          · skip
            go_simp
            refine hK.out _ _ trivial (fun _ => ?_)
            clear hK K
            have HB6 : Hid (Below w.heap.size w ((X2).alloc (.cells #[.string y] 9))) := Lib.hid (below_alloc HB2.out _)
            have HR6 : Hid (Rd ((X2).alloc (.cells #[.string y] 9)) 1 (some ⟨(X2).heap.size, 0, none⟩) 1 [.string y]) := Lib.hid (Rd_new (X2) #[.string y] _ 1 1 _ rfl rfl)
            have HG6 : Hid ((X2).heap.size < ((X2).alloc (.cells #[.string y] 9)).heap.size) := Lib.hid (by simp)
            have HO1_6 := Lib.hid (row_below HOv1_2.out (below_alloc (Below.refl _ _) (.cells #[.string y] 9)))
            have HNE6 : Hid (v1.ownBlock ≠ some (X2).heap.size) := Lib.hid (fun h => by have h1 := (HOv1_2.out.lt _ h).2; omega)
            have HO2_6 := Lib.hid (row_below HOv2_2.out (below_alloc (Below.refl _ _) (.cells #[.string y] 9)))
            refine wpAnyH_ready (rs := [8]) (by kernel_rfl) (by simp) ?_
            refine AllReadyH.cons rfl (fun K hK => ?_) (AllReadyH.nil)
            obtain ⟨A2, c2, rfl, -, -, hr2⟩ := Rd.of_own HO2_6.out
            have HR2 := Lib.hid hr2
            have HOB : Hid ((((X2).alloc (.cells #[.string y] 9))).ownsRow w.heap.size 9 1 v1 T1.length (T1.map Value.string)) := Lib.hid (own_base HO1_6.out (by have := HBS.out.size; simpa using this))
            clear hr2
            refine step_appT ((X2).alloc (.cells #[.string y] 9)) (by kernel_rfl) (.tmp 30) (.tmp 34) 46 46 rfl w.heap.size 9 9 ip _ 1 16 Tryz.underlying46 Tryz.underlying46 HI.out.1 HI.out.2.1 HI.out.2.2.1 HI.out.2.2.2 rfl (by omega) v1 T1.length _ (by kernel_rfl) HOB.out A2 T2.length c2 (T2.map Value.string) (by kernel_rfl) HR2.out (by intro u hu; obtain ⟨t, _, rfl⟩ := List.mem_map.1 hu; rfl) (by have := HT1.out; simp only [maxLen]; omega) (by have := HT1.out; omega) (by have := HB6.out.size; simpa using this) ?_
            intro v3 X7 ho hg
            have HB7 : Hid (Below w.heap.size w X7) := Lib.hid (HB6.out.grown hg (by have := HB6.out.size; simpa using this) (fun j hj => (HOB.out.lt j hj).1))
            have HO3_7 := Lib.hid ho
            have HR7 := Lib.hid (Rd_grown HR6.out hg (fun a ha => by cases ha; exact ⟨HG6.out, HNE6.out⟩))
            clear ho hg
            refine hK.out _ _ trivial (fun _ => ?_)
            clear hK K
            refine wpAnyH_ready (rs := [11]) (by kernel_rfl) (by simp) ?_
            refine AllReadyH.cons rfl (fun K hK => ?_) (AllReadyH.nil)
            refine step_appT X7 (by kernel_rfl) (.tmp 35) (.tmp 37) 46 46 rfl w.heap.size 9 9 ip _ 1 16 Tryz.underlying46 Tryz.underlying46 HI.out.1 HI.out.2.1 HI.out.2.2.1 HI.out.2.2.2 rfl (by omega) v3 (T1.length + T2.length) _ (by kernel_rfl) HO3_7.out (some ⟨(X2).heap.size, 0, none⟩) 1 1 [.string y] (by kernel_rfl) HR7.out (by simp [Value.oneCell']) (by have := HT1.out; simp only [maxLen]; omega) (by have := HT1.out; omega) (by have := HB7.out.size; simpa using this) ?_
            intro v5 X8 ho hg
            have HB8 : Hid (Below w.heap.size w X8) := Lib.hid (HB7.out.grown hg (by have := HB7.out.size; simpa using this) (fun j hj => (HO3_7.out.lt j hj).1))
            have HO5 := Lib.hid ho
            clear ho hg
            refine hK.out _ _ trivial (fun _ => ?_)
            clear hK K
            refine wpAnyH_take (i := 12) (v := ?_) rfl (by kernel_rfl) (by kernel_rfl) (by kernel_rfl) (fun _ _ _ h => h) (Or.inl ⟨by kernel_rfl, ?hy⟩) hS5 ?rest
            case hy => (intro w hSw; clear hSw; go_simp; try with_reducible rfl)
            case rest =>
            refine wpAnyH_done (by kernel_rfl) ?_ _
            go_wp2
            go_ret
            refine ⟨v5, rfl, ?_, HB8.out⟩
            have := HO5.out
            simpa [Nat.add_assoc] using this
        · skip
          go_simp
          refine hK.out _ _ trivial (fun _ => ?_)
          clear hK K
          have HB9 : Hid (Below w.heap.size w ((X1).alloc (.cells #[.string y] 9))) := Lib.hid (below_alloc HB1.out _)
          have HR9 : Hid (Rd ((X1).alloc (.cells #[.string y] 9)) 1 (some ⟨(X1).heap.size, 0, none⟩) 1 [.string y]) := Lib.hid (Rd_new (X1) #[.string y] _ 1 1 _ rfl rfl)
          have HG9 : Hid ((X1).heap.size < ((X1).alloc (.cells #[.string y] 9)).heap.size) := Lib.hid (by simp)
          have HO1_9 := Lib.hid (row_below HOv1_1.out (below_alloc (Below.refl _ _) (.cells #[.string y] 9)))
          have HNE9 : Hid (v1.ownBlock ≠ some (X1).heap.size) := Lib.hid (fun h => by have h1 := (HOv1_1.out.lt _ h).2; omega)
          refine wpAnyH_ready (rs := [7]) (by kernel_rfl) (by simp) ?_
          refine AllReadyH.cons rfl (fun K hK => ?_) (AllReadyH.nil)
          go_simp
          refine (H2.out _ HB9.out).mono ?_
          rintro e X10 ⟨v2, rfl, ho, hb⟩
          have HB10 : Hid (Below w.heap.size w X10) := Lib.hid (below_trans HB9.out hb)
          have HOv2_10 : Hid (X10.ownsRow (((X1).alloc (.cells #[.string y] 9))).heap.size 9 1 v2 T2.length (T2.map Value.string)) := Lib.hid ho
          have HOv1_10 : Hid (X10.ownsRow (W3.drew).heap.size 9 1 v1 T1.length (T1.map Value.string)) := Lib.hid (row_below HO1_9.out hb)
          have HR10 := Lib.hid (HR9.out.below hb)
          have HG10 : Hid ((X1).heap.size < X10.heap.size) := Lib.hid (Nat.lt_of_lt_of_le HG9.out hb.size)
          clear ho hb
          go_simp
          refine hK.out _ _ trivial (fun _ => ?_)
          clear hK K
          refine wpAnyH_ready (rs := [8]) (by kernel_rfl) (by simp) ?_
          refine AllReadyH.cons rfl (fun K hK => ?_) (AllReadyH.nil)
          obtain ⟨A2, c2, rfl, -, -, hr2⟩ := Rd.of_own HOv2_10.out
          have HR2 := Lib.hid hr2
          have HOB : Hid ((X10).ownsRow w.heap.size 9 1 v1 T1.length (T1.map Value.string)) := Lib.hid (own_base HOv1_10.out (by have := HBS.out.size; simpa using this))
          clear hr2
          refine step_appT X10 (by kernel_rfl) (.tmp 30) (.tmp 34) 46 46 rfl w.heap.size 9 9 ip _ 1 16 Tryz.underlying46 Tryz.underlying46 HI.out.1 HI.out.2.1 HI.out.2.2.1 HI.out.2.2.2 rfl (by omega) v1 T1.length _ (by kernel_rfl) HOB.out A2 T2.length c2 (T2.map Value.string) (by kernel_rfl) HR2.out (by intro u hu; obtain ⟨t, _, rfl⟩ := List.mem_map.1 hu; rfl) (by have := HT1.out; simp only [maxLen]; omega) (by have := HT1.out; omega) (by have := HB10.out.size; simpa using this) ?_
          intro v3 X11 ho hg
          have HB11 : Hid (Below w.heap.size w X11) := Lib.hid (HB10.out.grown hg (by have := HB10.out.size; simpa using this) (fun j hj => (HOB.out.lt j hj).1))
          have HO3_11 := Lib.hid ho
          have HR11 := Lib.hid (Rd_grown HR10.out hg (fun a ha => by cases ha; exact ⟨HG10.out, HNE9.out⟩))
          clear ho hg
          refine hK.out _ _ trivial (fun _ => ?_)
          clear hK K
          refine wpAnyH_ready (rs := [11]) (by kernel_rfl) (by simp) ?_
          refine AllReadyH.cons rfl (fun K hK => ?_) (AllReadyH.nil)
          refine step_appT X11 (by kernel_rfl) (.tmp 35) (.tmp 37) 46 46 rfl w.heap.size 9 9 ip _ 1 16 Tryz.underlying46 Tryz.underlying46 HI.out.1 HI.out.2.1 HI.out.2.2.1 HI.out.2.2.2 rfl (by omega) v3 (T1.length + T2.length) _ (by kernel_rfl) HO3_11.out (some ⟨(X1).heap.size, 0, none⟩) 1 1 [.string y] (by kernel_rfl) HR11.out (by simp [Value.oneCell']) (by have := HT1.out; simp only [maxLen]; omega) (by have := HT1.out; omega) (by have := HB11.out.size; simpa using this) ?_
          intro v5 X12 ho hg
          have HB12 : Hid (Below w.heap.size w X12) := Lib.hid (HB11.out.grown hg (by have := HB11.out.size; simpa using this) (fun j hj => (HO3_11.out.lt j hj).1))
          have HO5 := Lib.hid ho
          clear ho hg
          refine hK.out _ _ trivial (fun _ => ?_)
          clear hK K
          refine wpAnyH_take (i := 12) (v := ?_) rfl (by kernel_rfl) (by kernel_rfl) (by kernel_rfl) (fun _ _ _ h => h) (Or.inl ⟨by kernel_rfl, ?hy⟩) hS5 ?rest
          case hy => (intro w hSw; clear hSw; go_simp; try with_reducible rfl)
          case rest =>
          refine wpAnyH_done (by kernel_rfl) ?_ _
          go_wp2
          go_ret
          refine ⟨v5, rfl, ?_, HB12.out⟩
          have := HO5.out
          simpa [Nat.add_assoc] using this
      · skip
        go_simp
        refine hK.out _ _ trivial (fun _ => ?_)
        clear hK K
        have HB13 : Hid (Below w.heap.size w ((W3.drew).alloc (.cells #[.string y] 9))) := Lib.hid (below_alloc HBS.out _)
        have HR13 : Hid (Rd ((W3.drew).alloc (.cells #[.string y] 9)) 1 (some ⟨(W3.drew).heap.size, 0, none⟩) 1 [.string y]) := Lib.hid (Rd_new (W3.drew) #[.string y] _ 1 1 _ rfl rfl)
        have HG13 : Hid ((W3.drew).heap.size < ((W3.drew).alloc (.cells #[.string y] 9)).heap.size) := Lib.hid (by simp)
        refine wpAnyH_ready (rs := [3]) (by kernel_rfl) (by simp) ?_
        refine AllReadyH.cons rfl (fun K hK => ?_) (AllReadyH.nil)
        go_simp
        refine (H1.out _ HB13.out).mono ?_
        rintro e X14 ⟨v1, rfl, ho, hb⟩
        have HB14 : Hid (Below w.heap.size w X14) := Lib.hid (below_trans HB13.out hb)
        have HOv1_14 : Hid (X14.ownsRow (((W3.drew).alloc (.cells #[.string y] 9))).heap.size 9 1 v1 T1.length (T1.map Value.string)) := Lib.hid ho
        have HR14 := Lib.hid (HR13.out.below hb)
        have HG14 : Hid ((W3.drew).heap.size < X14.heap.size) := Lib.hid (Nat.lt_of_lt_of_le HG13.out hb.size)
        have HNE14 : Hid (v1.ownBlock ≠ some (W3.drew).heap.size) := Lib.hid (fun h => by have h1 := (ho.lt _ h).1; have h2 := HG13.out; omega)
        clear ho hb
        go_simp
        refine hK.out _ _ trivial (fun _ => ?_)
        clear hK K
        refine wpAnyH_ready (rs := [7]) (by kernel_rfl) (by simp) ?_
        refine AllReadyH.cons rfl (fun K hK => ?_) (AllReadyH.nil)
        go_simp
        refine (H2.out _ HB14.out).mono ?_
        rintro e X15 ⟨v2, rfl, ho, hb⟩
        have HB15 : Hid (Below w.heap.size w X15) := Lib.hid (below_trans HB14.out hb)
        have HOv2_15 : Hid (X15.ownsRow (X14).heap.size 9 1 v2 T2.length (T2.map Value.string)) := Lib.hid ho
        have HOv1_15 : Hid (X15.ownsRow (((W3.drew).alloc (.cells #[.string y] 9))).heap.size 9 1 v1 T1.length (T1.map Value.string)) := Lib.hid (row_below HOv1_14.out hb)
        have HR15 := Lib.hid (HR14.out.below hb)
        have HG15 : Hid ((W3.drew).heap.size < X15.heap.size) := Lib.hid (Nat.lt_of_lt_of_le HG14.out hb.size)
        clear ho hb
        go_simp
        refine hK.out _ _ trivial (fun _ => ?_)
        clear hK K
        refine wpAnyH_ready (rs := [8]) (by kernel_rfl) (by simp) ?_
        refine AllReadyH.cons rfl (fun K hK => ?_) (AllReadyH.nil)
        obtain ⟨A2, c2, rfl, -, -, hr2⟩ := Rd.of_own HOv2_15.out
        have HR2 := Lib.hid hr2
        have HOB : Hid ((X15).ownsRow w.heap.size 9 1 v1 T1.length (T1.map Value.string)) := Lib.hid (own_base HOv1_15.out (by have := HB13.out.size; simpa using this))
        clear hr2
        refine step_appT X15 (by kernel_rfl) (.tmp 30) (.tmp 34) 46 46 rfl w.heap.size 9 9 ip _ 1 16 Tryz.underlying46 Tryz.underlying46 HI.out.1 HI.out.2.1 HI.out.2.2.1 HI.out.2.2.2 rfl (by omega) v1 T1.length _ (by kernel_rfl) HOB.out A2 T2.length c2 (T2.map Value.string) (by kernel_rfl) HR2.out (by intro u hu; obtain ⟨t, _, rfl⟩ := List.mem_map.1 hu; rfl) (by have := HT1.out; simp only [maxLen]; omega) (by have := HT1.out; omega) (by have := HB15.out.size; simpa using this) ?_
        intro v3 X16 ho hg
        have HB16 : Hid (Below w.heap.size w X16) := Lib.hid (HB15.out.grown hg (by have := HB15.out.size; simpa using this) (fun j hj => (HOB.out.lt j hj).1))
        have HO3_16 := Lib.hid ho
        have HR16 := Lib.hid (Rd_grown HR15.out hg (fun a ha => by cases ha; exact ⟨HG15.out, HNE14.out⟩))
        clear ho hg
        refine hK.out _ _ trivial (fun _ => ?_)
        clear hK K
        refine wpAnyH_ready (rs := [11]) (by kernel_rfl) (by simp) ?_
        refine AllReadyH.cons rfl (fun K hK => ?_) (AllReadyH.nil)
        refine step_appT X16 (by kernel_rfl) (.tmp 35) (.tmp 37) 46 46 rfl w.heap.size 9 9 ip _ 1 16 Tryz.underlying46 Tryz.underlying46 HI.out.1 HI.out.2.1 HI.out.2.2.1 HI.out.2.2.2 rfl (by omega) v3 (T1.length + T2.length) _ (by kernel_rfl) HO3_16.out (some ⟨(W3.drew).heap.size, 0, none⟩) 1 1 [.string y] (by kernel_rfl) HR16.out (by simp [Value.oneCell']) (by have := HT1.out; simp only [maxLen]; omega) (by have := HT1.out; omega) (by have := HB16.out.size; simpa using this) ?_
        intro v5 X17 ho hg
        have HB17 : Hid (Below w.heap.size w X17) := Lib.hid (HB16.out.grown hg (by have := HB16.out.size; simpa using this) (fun j hj => (HO3_16.out.lt j hj).1))
        have HO5 := Lib.hid ho
        clear ho hg
        refine hK.out _ _ trivial (fun _ => ?_)
        clear hK K
        refine wpAnyH_take (i := 12) (v := ?_) rfl (by kernel_rfl) (by kernel_rfl) (by kernel_rfl) (fun _ _ _ h => h) (Or.inl ⟨by kernel_rfl, ?hy⟩) hS5 ?rest
        case hy => (intro w hSw; clear hSw; go_simp; try with_reducible rfl)
        case rest =>
        refine wpAnyH_done (by kernel_rfl) ?_ _
        go_wp2
        go_ret
        refine ⟨v5, rfl, ?_, HB17.out⟩
        have := HO5.out
        simpa [Nat.add_assoc] using this
    · match l, h2, hS with
      | [], _, _ => exact base A c w
      | [x], _, _ =>
        rw [txt_one]
        clear ih hS hsm base
        simp only [List.length_singleton]
        go_enter Tryz.func34, Tryz.ntmps34
        go_wp2
        go_ret
        exact ⟨_, rfl, ⟨rfl, .inl ⟨rfl, rfl⟩⟩, Below.refl _ _⟩
      | x :: y :: l, h2, _ => simp at h2

    
end

section
open Go.RowKit

theorem col_parts {l : List ByteArray} (h : Col l) : ∃ (i j : Nat) (x y : ByteArray), j < i ∧ i < l.length ∧ l[i]? = some x ∧ l[j]? = some y ∧ x ≠ y ∧ dg x = dg y := by
  obtain ⟨x, hx, y, hy, hne, hd⟩ := h
  obtain ⟨i, hi⟩ := List.mem_iff_getElem?.1 hx
  obtain ⟨j, hj⟩ := List.mem_iff_getElem?.1 hy
  have h1 := (List.getElem?_eq_some_iff.1 hi).1
  have h2 := (List.getElem?_eq_some_iff.1 hj).1
  rcases Nat.lt_trichotomy i j with h3 | h3 | h3
  · exact ⟨j, i, y, x, h3, h2, hj, hi, Ne.symm hne, hd.symm⟩
  · subst h3; rw [hi] at hj; exact absurd (Option.some.inj hj) hne
  · exact ⟨i, j, x, y, h3, h1, hi, hj, hne, hd⟩

set_option maxRecDepth 100000 in
set_option maxHeartbeats 16000000 in
theorem shown_any (A : Option Addr) (c : Nat) (l : List ByteArray) (w : World) (hS : Strs w A l) (hl : l.length ≤ 1000000) (hs : ∀ s ∈ l, s.size ≤ 1000000000) (hC : Col l) :
    Calls Tryz.prog 36 #[.slice A l.length c] w fun e w' => e = .returned (.bool true) ∧ Below w.heap.size w w' := by
  obtain ⟨I, J, xI, xJ, hJI, hIl, hxI, hxJ, hne, hdg⟩ := col_parts hC
  obtain ⟨b, off, rfl, -⟩ := hS.2 (by omega)
  obtain ⟨n, hn⟩ : ∃ n, l.length = n := ⟨_, rfl⟩
  have HCELL : Hid (∀ (k : Nat) (x : ByteArray), l[k]? = some x → ∀ W, Below w.heap.size w W → W.cell? ⟨b, off + k, none⟩ = some (.string x)) := Lib.hid (fun k x hk W hW => by
    obtain ⟨b', off', e, c0⟩ := hS.at_ hk
    cases e
    exact kept_cell hW c0)
  have HGET : Hid (∀ k, k < n → ∃ x, l[k]? = some x ∧ x.size ≤ 1000000000) := Lib.hid (fun k hk => by
    obtain ⟨x, hx⟩ := get_some l k (by omega)
    exact ⟨x, hx, hs x (List.mem_of_getElem? hx)⟩)
  have HNE : Hid (∀ k x, l[k]? = some x → ∀ y, k = I → l[J]? = some y → x ≠ y ∧ dg x = dg y) := Lib.hid (by
    rintro k x hk y rfl hy
    rw [hxI] at hk; rw [hxJ] at hy
    cases hk; cases hy
    exact ⟨hne, hdg⟩)
  have HN := Lib.hid hn
  obtain ⟨ip, hj1, hy0, hy1, hy2⟩ := info_parts info_strg
  have HI := Lib.hid (And.intro hj1 (And.intro hy0 (And.intro hy1 hy2)))
  have HSUM := Lib.hid rsum
  rw [hn] at hIl hl ⊢
  clear hj1 hy0 hy1 hy2 hC hS hs hn hne hdg hxI hxJ
  have HO : Hid (w.ownsRow w.heap.size 9 1 (.slice none 0 0) 0 []) := ⟨rfl, .inl ⟨rfl, rfl⟩⟩
  go_enter Tryz.func36, Tryz.ntmps36
  go_wp2_with fail
  go_loopw [3, 4] (fun u3 u4 wr => ∃ k : Nat, k ≤ n ∧ u4 = .int .i64 k ∧ Below w.heap.size w wr ∧ wr.ownsRow w.heap.size 9 1 u3 k (((l.take k).map dg).map Value.string)) (fun _ u4 _ => n - (intOf u4).toNat)
  case atStart => exact ⟨0, Nat.zero_le _, rfl, Below.refl _ _, HO.out⟩
  case round =>
  obtain ⟨k, hk, rfl, hbw, how⟩ := hrel
  have HBW := Lib.hid hbw
  have HOW := Lib.hid how
  clear hbw how
  by_cases hlt : k < n
  · obtain ⟨x, hx, hxs⟩ := HGET.out k hlt
    have q := HCELL.out k x hx wr HBW.out
    have ql := lt_of_cell q
    have HX := Lib.hid hx
    obtain ⟨dx, hdx⟩ : ∃ dx, dg x = dx := ⟨_, rfl⟩
    have HOA : Hid ((wr.alloc (.cells #[.string dx] 9)).ownsRow w.heap.size 9 1 u3 k (((l.take k).map dg).map Value.string)) := Lib.hid (row_below HOW.out (below_alloc (Below.refl _ _) _))
    have HSM := Lib.hid (HSUM.out x hxs wr)
    rw [hdx] at HSM
    have HDX := Lib.hid hdx
    clear hx hxs hdx
    go_wp2_with fail
    refine HSM.out.mono ?_
    rintro e _ ⟨rfl, rfl⟩
    go_wp2_with (at_builtin; refine wpList_app _ rfl (.tmp 13) (.tmp 19) 46 46 rfl w.heap.size 9 9 ip _ 1 16 Tryz.underlying46 Tryz.underlying46 HI.out.1 HI.out.2.1 HI.out.2.2.1 HI.out.2.2.2 rfl (by omega) u3 k _ rfl HOA.out (some ⟨wr.heap.size, 0, none⟩) 1 1 [.string dx] rfl (Rd_new wr #[.string dx] _ 1 1 _ rfl rfl) (by simp [Value.oneCell']) (by simp only [maxLen]; omega) (by omega) (by have := HBW.out.size; simp; omega) ?_)
    intro v4 w4 hown4 hg4
    have HB4 : Hid (Below w.heap.size w w4) := Lib.hid ((below_alloc HBW.out _).grown hg4 (by have := HBW.out.size; simp; omega) (fun j hj => (HOA.out.lt j hj).1))
    have HO4 := Lib.hid hown4
    clear hown4 hg4
    go_wp2
    go_roundw
    case rel => exact ⟨k + 1, by omega, by go_num, HB4.out, by rw [take_snoc _ _ _ HX.out]; simpa [HDX.out] using HO4.out⟩
    case measure => simp [intOf]; omega
  · obtain rfl : k = n := by omega
    obtain ⟨A2, c2, rfl, hc2, -, hR⟩ := Rd.of_own HOW.out
    obtain ⟨b2, off2, rfl, hR2⟩ := hR.2 (by omega)
    have HC2 : Hid (∀ (j : Nat) (x : ByteArray), l[j]? = some x → ∀ W, Below wr.heap.size wr W → W.cell? ⟨b2, off2 + j, none⟩ = some (.string (dg x))) := Lib.hid (fun j x hj W hW => kept_cell hW (hR2 j _ (by rw [List.take_of_length_le (by rw [HN.out]; exact Nat.le_refl _)]; simp [hj])))
    clear hR hR2 HSUM HI hc2 HOW
    generalize wr = wz at *
    go_wp2_with fail
    go_loopw [5, 6] (fun u5 _ W => ∃ i : Nat, i ≤ I ∧ u5 = .int .i64 i ∧ Below wz.heap.size wz W) (fun u5 _ _ => k - (intOf u5).toNat)
    case atStart => exact ⟨0, Nat.zero_le _, rfl, Below.refl _ _⟩
    case round =>
    obtain ⟨i, hi, rfl, hb1⟩ := hrel
    have HB1 := Lib.hid hb1
    clear hb1
    have hik : (i : Int) < (k : Int) := by omega
    go_wp2_with fail
    go_loopw [6] (fun u6 W => ∃ j : Nat, j ≤ i ∧ (i = I → j ≤ J) ∧ u6 = .int .i64 j ∧ Below wz.heap.size wz W) (fun u6 _ => i - (intOf u6).toNat)
    case atStart => exact ⟨0, Nat.zero_le _, fun _ => Nat.zero_le _, rfl, HB1.out⟩
    case round =>
    obtain ⟨j, hji, hjJ, rfl, hb2⟩ := hrel
    have HB2 := Lib.hid hb2
    have HJJ := Lib.hid hjJ
    clear hb2 hjJ
    by_cases hlt : j < i
    · obtain ⟨x, hx, -⟩ := HGET.out i (by omega)
      obtain ⟨y, hy, -⟩ := HGET.out j (by omega)
      have HX := Lib.hid hx
      have HY := Lib.hid hy
      have hik2 : i < k := by omega
      have hjk : (j : Int) < (k : Int) := by omega
      have hjk2 : j < k := by omega
      obtain ⟨dx, hdx⟩ : ∃ dx, dg x = dx := ⟨_, rfl⟩
      obtain ⟨dy, hdy⟩ : ∃ dy, dg y = dy := ⟨_, rfl⟩
      have HSX := Lib.hid (HC2.out i x hx)
      have HSY := Lib.hid (HC2.out j y hy)
      have HLX := Lib.hid (fun W hW => HCELL.out i x hx W (below_trans HBW.out hW))
      have HLY := Lib.hid (fun W hW => HCELL.out j y hy W (below_trans HBW.out hW))
      rw [hdx] at HSX
      rw [hdy] at HSY
      have HDX := Lib.hid hdx
      have HDY := Lib.hid hdy
      clear hx hy hdx hdy
      by_cases hdd : dx = dy
      · subst hdd
        have t0 := beq_true dx
        by_cases hxy : x = y
        · subst hxy
          have t1 := beq_true x
          go_wp2_with fail
          refine wp_region_belowC (by kernel_rfl) (by kernel_rfl) (fun WQ HQS HQN => ?_)
          refine HQS.go (fun K hK => ?_)
          go_simp
          apply Exists.intro
          refine ⟨fun W hW => ?_, hK _ ?_⟩
          · (try go_simp)
            exact rfl
          clear hK K
          refine HQS.go (fun K hK => ?_)
          go_simp
          apply Exists.intro
          refine ⟨fun W hW => ?_, hK _ ?_⟩
          · (try go_simp)
            exact rfl
          clear hK K
          refine HQS.go (fun K hK => ?_)
          go_simp
          apply Exists.intro
          refine ⟨fun W hW => ?_, hK _ ?_⟩
          · (try go_simp)
            exact rfl
          clear hK K
          refine HQS.go (fun K hK => ?_)
          go_simp
          apply Exists.intro
          refine ⟨fun W hW => ?_, hK _ ?_⟩
          · have qq := HSX.out W (below_trans HB2.out hW)
            have ql := lt_of_cell qq
            go_simp
            exact rfl
          clear hK K
          refine HQS.go (fun K hK => ?_)
          go_simp
          apply Exists.intro
          refine ⟨fun W hW => ?_, hK _ ?_⟩
          · (try go_simp)
            exact rfl
          clear hK K
          refine HQS.go (fun K hK => ?_)
          go_simp
          apply Exists.intro
          refine ⟨fun W hW => ?_, hK _ ?_⟩
          · (try go_simp)
            exact rfl
          clear hK K
          refine HQS.go (fun K hK => ?_)
          go_simp
          apply Exists.intro
          refine ⟨fun W hW => ?_, hK _ ?_⟩
          · (try go_simp)
            exact rfl
          clear hK K
          refine HQS.go (fun K hK => ?_)
          go_simp
          apply Exists.intro
          refine ⟨fun W hW => ?_, hK _ ?_⟩
          · have qq := HSY.out W (below_trans HB2.out hW)
            have ql := lt_of_cell qq
            go_simp
            exact rfl
          clear hK K
          refine HQS.go (fun K hK => ?_)
          go_simp
          apply Exists.intro
          refine ⟨fun W hW => ?_, hK _ ?_⟩
          · (try go_simp)
            exact rfl
          clear hK K
          refine HQS.go (fun K hK => ?_)
          go_simp
          apply Exists.intro
          refine ⟨fun W hW => ?_, hK _ ?_⟩
          · (try go_simp)
            exact rfl
          clear hK K
          refine HQS.go (fun K hK => ?_)
          go_simp
          apply Exists.intro
          refine ⟨fun W hW => ?_, hK _ ?_⟩
          · (try go_simp)
            exact rfl
          clear hK K
          refine HQS.go (fun K hK => ?_)
          go_simp
          apply Exists.intro
          refine ⟨fun W hW => ?_, hK _ ?_⟩
          · (try go_simp)
            exact rfl
          clear hK K
          refine HQS.go (fun K hK => ?_)
          go_simp
          apply Exists.intro
          refine ⟨fun W hW => ?_, hK _ ?_⟩
          · (try go_simp)
            exact rfl
          clear hK K
          refine HQS.go (fun K hK => ?_)
          go_simp
          apply Exists.intro
          refine ⟨fun W hW => ?_, hK _ ?_⟩
          · have qq := HLX.out W (below_trans HB2.out hW)
            have ql := lt_of_cell qq
            go_simp
            exact rfl
          clear hK K
          refine HQS.go (fun K hK => ?_)
          go_simp
          apply Exists.intro
          refine ⟨fun W hW => ?_, hK _ ?_⟩
          · (try go_simp)
            exact rfl
          clear hK K
          refine HQS.go (fun K hK => ?_)
          go_simp
          apply Exists.intro
          refine ⟨fun W hW => ?_, hK _ ?_⟩
          · (try go_simp)
            exact rfl
          clear hK K
          refine HQS.go (fun K hK => ?_)
          go_simp
          apply Exists.intro
          refine ⟨fun W hW => ?_, hK _ ?_⟩
          · (try go_simp)
            exact rfl
          clear hK K
          refine HQS.go (fun K hK => ?_)
          go_simp
          apply Exists.intro
          refine ⟨fun W hW => ?_, hK _ ?_⟩
          · have qq := HLY.out W (below_trans HB2.out hW)
            have ql := lt_of_cell qq
            go_simp
            exact rfl
          clear hK K
          refine HQS.go (fun K hK => ?_)
          go_simp
          apply Exists.intro
          refine ⟨fun W hW => ?_, hK _ ?_⟩
          · (try go_simp)
            exact rfl
          clear hK K
          refine HQS.go (fun K hK => ?_)
          go_simp
          apply Exists.intro
          refine ⟨fun W hW => ?_, hK _ ?_⟩
          · (try go_simp)
            exact rfl
          clear hK K
          refine HQN.go ?_
          intro W hW
          have HB3 := Lib.hid (below_trans HB2.out hW)
          clear hW
          go_wp2_with fail
          go_roundw
          case rel =>
            refine ⟨j + 1, by omega, fun hI => ?_, by go_num, HB3.out⟩
            have h1 := HJJ.out hI
            by_cases hjJ : j = J
            · exfalso
              subst hjJ
              exact (HNE.out i _ HX.out _ hI HY.out).1 rfl
            · omega
          case measure => simp [intOf]; omega
        · obtain ⟨t1, t2⟩ := bne_of x y hxy
          go_wp2_with fail
          refine wp_region_belowC (by kernel_rfl) (by kernel_rfl) (fun WQ HQS HQN => ?_)
          refine HQS.go (fun K hK => ?_)
          go_simp
          apply Exists.intro
          refine ⟨fun W hW => ?_, hK _ ?_⟩
          · (try go_simp)
            exact rfl
          clear hK K
          refine HQS.go (fun K hK => ?_)
          go_simp
          apply Exists.intro
          refine ⟨fun W hW => ?_, hK _ ?_⟩
          · (try go_simp)
            exact rfl
          clear hK K
          refine HQS.go (fun K hK => ?_)
          go_simp
          apply Exists.intro
          refine ⟨fun W hW => ?_, hK _ ?_⟩
          · (try go_simp)
            exact rfl
          clear hK K
          refine HQS.go (fun K hK => ?_)
          go_simp
          apply Exists.intro
          refine ⟨fun W hW => ?_, hK _ ?_⟩
          · have qq := HSX.out W (below_trans HB2.out hW)
            have ql := lt_of_cell qq
            go_simp
            exact rfl
          clear hK K
          refine HQS.go (fun K hK => ?_)
          go_simp
          apply Exists.intro
          refine ⟨fun W hW => ?_, hK _ ?_⟩
          · (try go_simp)
            exact rfl
          clear hK K
          refine HQS.go (fun K hK => ?_)
          go_simp
          apply Exists.intro
          refine ⟨fun W hW => ?_, hK _ ?_⟩
          · (try go_simp)
            exact rfl
          clear hK K
          refine HQS.go (fun K hK => ?_)
          go_simp
          apply Exists.intro
          refine ⟨fun W hW => ?_, hK _ ?_⟩
          · (try go_simp)
            exact rfl
          clear hK K
          refine HQS.go (fun K hK => ?_)
          go_simp
          apply Exists.intro
          refine ⟨fun W hW => ?_, hK _ ?_⟩
          · have qq := HSY.out W (below_trans HB2.out hW)
            have ql := lt_of_cell qq
            go_simp
            exact rfl
          clear hK K
          refine HQS.go (fun K hK => ?_)
          go_simp
          apply Exists.intro
          refine ⟨fun W hW => ?_, hK _ ?_⟩
          · (try go_simp)
            exact rfl
          clear hK K
          refine HQS.go (fun K hK => ?_)
          go_simp
          apply Exists.intro
          refine ⟨fun W hW => ?_, hK _ ?_⟩
          · (try go_simp)
            exact rfl
          clear hK K
          refine HQS.go (fun K hK => ?_)
          go_simp
          apply Exists.intro
          refine ⟨fun W hW => ?_, hK _ ?_⟩
          · (try go_simp)
            exact rfl
          clear hK K
          refine HQS.go (fun K hK => ?_)
          go_simp
          apply Exists.intro
          refine ⟨fun W hW => ?_, hK _ ?_⟩
          · (try go_simp)
            exact rfl
          clear hK K
          refine HQS.go (fun K hK => ?_)
          go_simp
          apply Exists.intro
          refine ⟨fun W hW => ?_, hK _ ?_⟩
          · (try go_simp)
            exact rfl
          clear hK K
          refine HQS.go (fun K hK => ?_)
          go_simp
          apply Exists.intro
          refine ⟨fun W hW => ?_, hK _ ?_⟩
          · have qq := HLX.out W (below_trans HB2.out hW)
            have ql := lt_of_cell qq
            go_simp
            exact rfl
          clear hK K
          refine HQS.go (fun K hK => ?_)
          go_simp
          apply Exists.intro
          refine ⟨fun W hW => ?_, hK _ ?_⟩
          · (try go_simp)
            exact rfl
          clear hK K
          refine HQS.go (fun K hK => ?_)
          go_simp
          apply Exists.intro
          refine ⟨fun W hW => ?_, hK _ ?_⟩
          · (try go_simp)
            exact rfl
          clear hK K
          refine HQS.go (fun K hK => ?_)
          go_simp
          apply Exists.intro
          refine ⟨fun W hW => ?_, hK _ ?_⟩
          · (try go_simp)
            exact rfl
          clear hK K
          refine HQS.go (fun K hK => ?_)
          go_simp
          apply Exists.intro
          refine ⟨fun W hW => ?_, hK _ ?_⟩
          · have qq := HLY.out W (below_trans HB2.out hW)
            have ql := lt_of_cell qq
            go_simp
            exact rfl
          clear hK K
          refine HQS.go (fun K hK => ?_)
          go_simp
          apply Exists.intro
          refine ⟨fun W hW => ?_, hK _ ?_⟩
          · (try go_simp)
            exact rfl
          clear hK K
          refine HQS.go (fun K hK => ?_)
          go_simp
          apply Exists.intro
          refine ⟨fun W hW => ?_, hK _ ?_⟩
          · (try go_simp)
            exact rfl
          clear hK K
          refine HQN.go ?_
          intro W hW
          have HB3 := Lib.hid (below_trans HB2.out hW)
          clear hW
          go_wp2
          go_ret
          exact ⟨rfl, below_trans HBW.out HB3.out⟩
      · obtain ⟨t1, t2⟩ := bne_of dx dy hdd
        go_wp2_with fail
        refine wp_region_belowC (by kernel_rfl) (by kernel_rfl) (fun WQ HQS HQN => ?_)
        refine HQS.go (fun K hK => ?_)
        go_simp
        apply Exists.intro
        refine ⟨fun W hW => ?_, hK _ ?_⟩
        · (try go_simp)
          exact rfl
        clear hK K
        refine HQS.go (fun K hK => ?_)
        go_simp
        apply Exists.intro
        refine ⟨fun W hW => ?_, hK _ ?_⟩
        · (try go_simp)
          exact rfl
        clear hK K
        refine HQS.go (fun K hK => ?_)
        go_simp
        apply Exists.intro
        refine ⟨fun W hW => ?_, hK _ ?_⟩
        · (try go_simp)
          exact rfl
        clear hK K
        refine HQS.go (fun K hK => ?_)
        go_simp
        apply Exists.intro
        refine ⟨fun W hW => ?_, hK _ ?_⟩
        · have qq := HSX.out W (below_trans HB2.out hW)
          have ql := lt_of_cell qq
          go_simp
          exact rfl
        clear hK K
        refine HQS.go (fun K hK => ?_)
        go_simp
        apply Exists.intro
        refine ⟨fun W hW => ?_, hK _ ?_⟩
        · (try go_simp)
          exact rfl
        clear hK K
        refine HQS.go (fun K hK => ?_)
        go_simp
        apply Exists.intro
        refine ⟨fun W hW => ?_, hK _ ?_⟩
        · (try go_simp)
          exact rfl
        clear hK K
        refine HQS.go (fun K hK => ?_)
        go_simp
        apply Exists.intro
        refine ⟨fun W hW => ?_, hK _ ?_⟩
        · (try go_simp)
          exact rfl
        clear hK K
        refine HQS.go (fun K hK => ?_)
        go_simp
        apply Exists.intro
        refine ⟨fun W hW => ?_, hK _ ?_⟩
        · have qq := HSY.out W (below_trans HB2.out hW)
          have ql := lt_of_cell qq
          go_simp
          exact rfl
        clear hK K
        refine HQS.go (fun K hK => ?_)
        go_simp
        apply Exists.intro
        refine ⟨fun W hW => ?_, hK _ ?_⟩
        · (try go_simp)
          exact rfl
        clear hK K
        refine HQS.go (fun K hK => ?_)
        go_simp
        apply Exists.intro
        refine ⟨fun W hW => ?_, hK _ ?_⟩
        · (try go_simp)
          exact rfl
        clear hK K
        refine HQS.go (fun K hK => ?_)
        go_simp
        refine hK _ ?_
        clear hK K
        refine HQS.go (fun K hK => ?_)
        go_simp
        refine hK _ ?_
        clear hK K
        refine HQS.go (fun K hK => ?_)
        go_simp
        refine hK _ ?_
        clear hK K
        refine HQS.go (fun K hK => ?_)
        go_simp
        refine hK _ ?_
        clear hK K
        refine HQS.go (fun K hK => ?_)
        go_simp
        refine hK _ ?_
        clear hK K
        refine HQS.go (fun K hK => ?_)
        go_simp
        refine hK _ ?_
        clear hK K
        refine HQS.go (fun K hK => ?_)
        go_simp
        refine hK _ ?_
        clear hK K
        refine HQS.go (fun K hK => ?_)
        go_simp
        refine hK _ ?_
        clear hK K
        refine HQS.go (fun K hK => ?_)
        go_simp
        refine hK _ ?_
        clear hK K
        refine HQS.go (fun K hK => ?_)
        go_simp
        apply Exists.intro
        refine ⟨fun W hW => ?_, hK _ ?_⟩
        · (try go_simp)
          exact rfl
        clear hK K
        refine HQN.go ?_
        intro W hW
        have HB3 := Lib.hid (below_trans HB2.out hW)
        clear hW
        go_wp2_with fail
        go_roundw
        case rel =>
          refine ⟨j + 1, by omega, fun hI => ?_, by go_num, HB3.out⟩
          have h1 := HJJ.out hI
          by_cases hjJ : j = J
          · exfalso
            subst hjJ
            exact hdd (by rw [← HDX.out, ← HDY.out]; exact (HNE.out i _ HX.out _ hI HY.out).2)
          · omega
        case measure => simp [intOf]; omega
    · have hne : i ≠ I := fun h => by have := HJJ.out h; omega
      go_wp2
      go_roundw
      case rel => exact ⟨i + 1, by omega, by go_num, HB2.out⟩
      case measure => simp [intOf]; omega
end

section
open Go.RowKit

theorem step_app {P : Program} (w : World) {ops : Array Oper} {o : Oper} {a : Act} {K : Act → World → Prop} {Q : Exit → Act → World → Prop} {E : Prop} (hw : Region.wanted o (yielded ops a.tmps) = true) (s x : Operand) (t t2 : TypeId)
    (ho : o.op = .call { callee := .builtin .append, args := #[s, x], argTypes := #[t, t2] })
    (base : Nat) (e e2 : TypeId) (i : TypeInfo) (z : Value) (size bytes : Nat) (ht : P.underlying t = some (.slice e)) (ht2 : P.underlying t2 = some (.slice e2)) (hi : P.info? e = some i) (hz : i.zero = some z)
    (hsize : i.size = size) (hby : i.bytes = bytes) (hzs : z.cells.size = size) (hsz : 0 < size)
    (v : Value) (n : Nat) (xs : List Value) (hs : a.eval s = v) (hown : w.ownsRow base e size v n xs)
    (A : Option Addr) (m c : Nat) (news : List Value) (hx : a.eval x = .slice A m c) (hr : Rd w size A m news) (h1 : ∀ u ∈ news, u.oneCell' = true)
    (h63 : n + m ≤ maxLen) (hbytes : (n + m) * bytes ≤ 140737488355328) (hbase : base ≤ w.heap.size)
    (h : ∀ v' w', w'.ownsRow base e size v' (n + m) (xs ++ news) → w.grownBy w' v.ownBlock → K (a.put o.dst v') w') :
    if Region.wanted o (yielded ops a.tmps) = true then Oper.wp P o a w K Q else E := by
  rw [if_pos hw]
  obtain ⟨v', w', hrun, h2, h3⟩ := run_app (P := P) w base t t2 o.type e e2 i z size bytes ht ht2 hi hz hsize hby hzs hsz v n xs hown A m c news hr h1 h63 hbytes hbase
  unfold Oper.wp execOp
  simp only [ho, resolve, invoke, builtin, Sem.run_bind, Sem.run_pure, Result.andThen_ok, List.map_toArray, List.map_cons, List.map_nil, hs, hx, hrun]
  exact h v' w' h2 h3
end

end Go.Proofs.YtdlgejofggbifaaGreatDoor
