/- digest: blocks. -/
import Derived.Test.YtbefcipeojahfaaGreatDoorTake01
import Derived.StillTailTactics
import Derived.Lib.BufferWrite
namespace Go.Proofs.YtbefcipeojahfaaGreatDoor
open Go.RowKit

/-! ### copy(bytes, s) from a string, as much as there is room -/
theorem run_copy_min {P : Program} (w : World) (dT sT ty elem : TypeId) (g o dLen dCap m : Nat) (s : ByteArray) (cur : Array Value) (t : TypeId)
    (hu : P.underlying dT = some (.slice elem)) (hs : (P.info? elem).map (·.size) = some 1) (hg : w.heap[g]? = some (.cells cur t (0, 0))) (hm : Nat.min s.size dLen = m) (hfit : o + m ≤ cur.size) :
    (Builtin.copy_ #[dT, sT] ty #[.slice (some ⟨g, o, none⟩) dLen dCap, .string s]).run P w =
      .ok (goInt m) (w.setRow g (cur.toList.take o ++ (Go.Lib.byteCells s.data.toList).take m ++ cur.toList.drop (o + m)).toArray) := by
  have hms : m ≤ s.size := by rw [← hm]; exact Nat.min_le_left _ _
  have hlen : ((Go.Lib.byteCells s.data.toList).take m).length = m := by
    rw [List.length_take, Go.Lib.byteCells_length, ← Go.Lib.size_eq]; omega
  have hst := run_storeCells_at P g o t ((Go.Lib.byteCells s.data.toList).take m) 0 cur w hg (by rw [hlen]; simpa using hfit) (fun v hv => Go.Lib.byteCells_one _ v (List.mem_of_mem_take hv))
  have htk : List.take m (List.map (fun b : UInt8 => Value.int IntKind.u8 (b.toNat : Int)) s.data.toList) = (Go.Lib.byteCells s.data.toList).take m := rfl
  rw [hlen] at hst
  simp only [Nat.add_zero] at hst
  cases hq : P.info? elem with
  | none => simp [hq] at hs
  | some i =>
    simp [Builtin.copy_, run_underlying hu, Builtin.lenOf, Builtin.firstCells, sizeOf, typeInfo, hq, hm]
    rw [htk, hst]
    simp [Result.andThen]

theorem wpList_copy_min {P : Program} {w : World} {ops : Array Oper} {rest : List Oper} {o : Oper} {a : Act} {Q : Exit → Act → World → Prop} (hgd : o.guard = none) (d s : Operand) (dT sT : TypeId)
    (ho : o.op = .call { callee := .builtin .copy, args := #[d, s], argTypes := #[dT, sT] }) (elem : TypeId) (hu : P.underlying dT = some (.slice elem)) (hsz : (P.info? elem).map (·.size) = some 1)
    (g off dLen dCap m : Nat) (t : ByteArray) (T : TypeId) (hd : a.eval d = .slice (some ⟨g, off, none⟩) dLen dCap) (hs : a.eval s = .string t)
    (cur : Array Value) (hg : Blk w g T cur) (hm : Nat.min t.size dLen = m) (hfit : off + m ≤ cur.size)
    (h : ∀ w', Blk w' g T (cur.toList.take off ++ (Go.Lib.byteCells t.data.toList).take m ++ cur.toList.drop (off + m)).toArray → Chg [g] w w' → wpList P ops Q rest (a.put o.dst (goInt m)) w') :
    wpList P ops Q (o :: rest) a w := by
  refine wpList_plain hgd fun K hK => ?_
  have hrun := run_copy_min (P := P) w dT sT o.type elem g off dLen dCap m t cur T hu hsz hg hm hfit
  unfold Oper.wp
  simp only [execOp, ho, resolve, invoke, builtin, Sem.run_bind, Sem.run_pure, Result.andThen_ok, List.map_toArray, List.map_cons, List.map_nil, hd, hs, hrun]
  refine hK _ _ (h _ (setRow_heap w g cur _ T _ hg) ?_)
  refine ⟨rfl, rfl, rfl, by simp [World.setRow], fun k hk hn => setRow_other w g k _ (by simpa using hn)⟩

theorem info_u8 : (Tryz.prog.info? 5).map (·.size) = some 1 := by kernel_rfl

/-! ### the blocks of a text -/
def pblk (t : ByteArray) (k : Nat) : List UInt8 := (t.data.toList.drop (8 * k)).take 8 ++ List.replicate (8 - ((t.data.toList.drop (8 * k)).take 8).length) 0
theorem pblk_len (t : ByteArray) (k : Nat) : (pblk t k).length = 8 := by
  simp only [pblk, List.length_append, List.length_replicate, List.length_take]; omega
def absorb (s : UInt64) (t : ByteArray) : Nat → UInt64
  | 0 => s
  | k + 1 => mix64 (absorb s t k ^^^ blk64 (pblk t k))

theorem list8 (l : List UInt8) (h : l.length = 8) : ∃ c0 c1 c2 c3 c4 c5 c6 c7, l = [c0, c1, c2, c3, c4, c5, c6, c7] := by
  match l, h with
  | [c0, c1, c2, c3, c4, c5, c6, c7], _ => exact ⟨c0, c1, c2, c3, c4, c5, c6, c7, rfl⟩

/-- What lies in the block behind the copy. -/
theorem copied (t : ByteArray) (k m : Nat) (hk : 8 * k ≤ t.size) (hm : Nat.min (t.extract (8 * k) t.size).size 8 = m) :
    ((List.replicate 8 (Value.int .u8 0)).take 0 ++ (Go.Lib.byteCells (t.extract (8 * k) t.size).data.toList).take m ++ (List.replicate 8 (Value.int .u8 0)).drop (0 + m)) = (pblk t k).map fun b => Value.int .u8 b.toNat := by
  have e : (t.extract (8 * k) t.size).data.toList = t.data.toList.drop (8 * k) := by
    rw [ByteArray.data_extract, Array.toList_extract, List.extract_eq_take_drop, List.take_of_length_le]
    rw [List.length_drop]; exact Nat.le_refl _
  have hz : (t.extract (8 * k) t.size).size = (t.data.toList.drop (8 * k)).length := by rw [← e]; rfl
  have hl : ((t.data.toList.drop (8 * k)).take 8).length = m := by
    rw [List.length_take, ← hz, Nat.min_comm]; exact hm
  have h8 : m ≤ 8 := by rw [← hm]; exact Nat.min_le_right _ _
  rw [e]
  simp only [List.take_zero, List.nil_append, Nat.zero_add, pblk, List.map_append, List.drop_replicate, List.map_replicate, hl]
  congr 1
  · unfold Go.Lib.byteCells
    rw [← List.map_take]
    congr 1
    rw [← hl, List.length_take, ← List.take_take, List.take_length]

set_option maxRecDepth 100000 in
set_option maxHeartbeats 8000000 in
theorem blocks_any (b : Nat) (s : UInt64) (t : ByteArray) (w : World) (h : w.cell? ⟨b, 0, none⟩ = some (.int .u64 s.toNat)) (hf : w.frozen? ⟨b, 0, none⟩ = false) (ht : t.size ≤ 1000000000) :
    Calls Tryz.prog 90 #[.string t, .func (.func 91) #[.pointer (some ⟨b, 0, none⟩)] #[]] w fun e w' => e = .returned (.tuple #[]) ∧
      Chg [b] w w' ∧ w'.cell? ⟨b, 0, none⟩ = some (.int .u64 (absorb s t (t.size / 8 + 1)).toNat) ∧ w'.frozen? ⟨b, 0, none⟩ = false := by
  have hl := lt_of_cell h
  have H0 := Lib.hid h
  have HF0 := Lib.hid hf
  clear h hf
  go_enter Tryz.func90, Tryz.ntmps90
  go_wp2_with fail
  go_loopw [4] (fun u4 wr => ∃ k : Nat, k ≤ t.size / 8 + 1 ∧ u4 = .int .i64 (8 * k : Nat) ∧ Chg [b] w wr ∧ wr.cell? ⟨b, 0, none⟩ = some (.int .u64 (absorb s t k).toNat) ∧ wr.frozen? ⟨b, 0, none⟩ = false) (fun u4 _ => t.size + 8 - (intOf u4).toNat)
  case atStart => exact ⟨0, Nat.zero_le _, rfl, Chg.refl _ _, H0.out, HF0.out⟩
  case round =>
  obtain ⟨k, hk, rfl, hc, h1, h2⟩ := hrel
  have HC := Lib.hid hc
  have H1 := Lib.hid h1
  have H2 := Lib.hid h2
  have hbw := lt_of_cell h1
  clear hc h1 h2
  by_cases hlt : 8 * k ≤ t.size
  · obtain ⟨m, hm⟩ : ∃ m, Nat.min (t.extract (8 * k) t.size).size 8 = m := ⟨_, rfl⟩
    have h8 : m ≤ 8 := by rw [← hm]; exact Nat.min_le_right _ _
    have HCO := Lib.hid (copied t k m hlt hm)
    have HM := Lib.hid hm
    clear hm
    obtain ⟨c0, c1, c2, c3, c4, c5, c6, c7, hp⟩ := list8 (pblk t k) (pblk_len t k)
    have HP := Lib.hid hp
    clear hp
    obtain ⟨q, hq⟩ : ∃ q, 8 * k = q := ⟨_, rfl⟩
    have hq1 : q ≤ t.size := by omega
    rw [hq]
    have HQ := Lib.hid hq
    clear hq hlt
    obtain ⟨g, hg⟩ : ∃ g, wr.heap.size = g := ⟨_, rfl⟩
    obtain ⟨wb, hwb⟩ : ∃ wb, wr.alloc (.cells #[.int .u8 0, .int .u8 0, .int .u8 0, .int .u8 0, .int .u8 0, .int .u8 0, .int .u8 0, .int .u8 0] 114) = wb := ⟨_, rfl⟩
    have HB : Hid (Blk wb g 114 (List.replicate 8 (Value.int .u8 0)).toArray) := Lib.hid (by rw [← hwb, ← hg]; exact Blk.new _ _ _ _ rfl)
    have HCB : Hid (Chg [b] w wb) := Lib.hid (by rw [← hwb]; exact HC.out.alloc _)
    have HB1 : Hid (wb.cell? ⟨b, 0, none⟩ = some (.int .u64 (absorb s t k).toNat)) := Lib.hid (by rw [← hwb, World.cell?_alloc_lt _ _ _ hbw]; exact H1.out)
    have HB2 : Hid (wb.frozen? ⟨b, 0, none⟩ = false) := Lib.hid (by rw [← hwb, World.frozen?_alloc_old _ _ _ (Nat.ne_of_lt hbw)]; exact H2.out)
    have HG : Hid (b ≠ g ∧ w.heap.size ≤ g) := Lib.hid ⟨by omega, by have := HC.out.size; omega⟩
    have HWB := Lib.hid hwb
    have HGE := Lib.hid hg
    clear hwb hg hbw
    go_wp2_with fail
    rw [HWB.out, HGE.out]
    refine wp_region_still_tail 4 (by kernel_rfl) (by kernel_rfl) ?_
    simp only [List.take_succ_cons, List.take_zero, List.drop_succ_cons, List.drop_zero]
    change wpStill _ _ (World.drew _) _ _ _
    repeat still_step
    refine wpStill_nil ?_
    change wpList _ _ _ _ _ (World.drew _)
    refine wpList_copy_min rfl (.tmp 12) (.tmp 15) 66 9 rfl 5 Tryz.underlying66 info_u8 g 0 8 8 m (t.extract q t.size) 114 rfl rfl _ (HB.out.drew) (by rw [← HQ.out]; exact HM.out) (by simp; omega) ?_
    intro w2 hb2 hc2
    have hx := HCO.out
    rw [HQ.out, HP.out] at hx
    rw [List.toList_toArray, hx] at hb2
    have HC2 : Hid (Chg [b] w w2) := Lib.hid (HCB.out.trans (Chg.trans (Chg.refl [g] wb).drew hc2 (fun j hj => .inl hj)) (fun j hj => by rcases List.mem_singleton.1 hj with rfl; exact .inr HG.out.2))
    have HD1 : Hid (w2.cell? ⟨b, 0, none⟩ = some (.int .u64 (absorb s t k).toNat)) := Lib.hid (hc2.cell (by simp only [List.mem_singleton]; exact HG.out.1) HB1.out)
    have HD2 : Hid (w2.frozen? ⟨b, 0, none⟩ = false) := Lib.hid (by
      rw [World.frozen?_of_block (w := wb.drew) (hc2.block b (lt_of_cell HB1.out) (by simp only [List.mem_singleton]; exact HG.out.1))]; exact HB2.out)
    have x0 := hb2.of_cell (i := 0) rfl
    have x1 := hb2.of_cell (i := 1) rfl
    have x2 := hb2.of_cell (i := 2) rfl
    have x3 := hb2.of_cell (i := 3) rfl
    have x4 := hb2.of_cell (i := 4) rfl
    have x5 := hb2.of_cell (i := 5) rfl
    have x6 := hb2.of_cell (i := 6) rfl
    have x7 := hb2.of_cell (i := 7) rfl
    have hgl := lt_of_cell x0
    clear hx hb2 hc2
    go_wp2_with fail
    refine (take_any b (absorb s t k) c0 c1 c2 c3 c4 c5 c6 c7 w2 HD1.out HD2.out).mono ?_
    rintro e w3 ⟨rfl, hc3, h3, h4⟩
    have HC3 := Lib.hid (HC2.out.trans hc3 (fun j hj => .inl hj))
    have H3 : Hid (w3.cell? ⟨b, 0, none⟩ = some (.int .u64 (absorb s t (k + 1)).toNat)) := Lib.hid (by rw [absorb, HP.out]; exact h3)
    have H4 := Lib.hid h4
    clear hc3 h3 h4 x0 x1 x2 x3 x4 x5 x6 x7 hgl
    go_wp2_with fail
    go_roundw
    case rel => exact ⟨k + 1, by have := HQ.out; omega, by rw [← HQ.out]; go_num, HC3.out, H3.out, H4.out⟩
    case measure => simp [intOf]; omega
  · obtain rfl : k = t.size / 8 + 1 := by omega
    go_wp2_with fail
    go_end0
    exact ⟨rfl, HC.out, H1.out, H2.out⟩

end Go.Proofs.YtbefcipeojahfaaGreatDoor
