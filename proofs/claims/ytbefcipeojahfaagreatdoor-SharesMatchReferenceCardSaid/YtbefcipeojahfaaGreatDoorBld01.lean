/- strings.Builder: what the call itself has made: copyCheck, WriteString, WriteByte. -/
import Derived.Test.YtbefcipeojahfaaGreatDoorSum01
namespace Go.Proofs.YtbefcipeojahfaaGreatDoor
open Go.RowKit

abbrev bp (b : Nat) : Value := .pointer (some ⟨b, 0, none⟩)
abbrev BAt (B b : Nat) (p : Value) (l : List UInt8) (w : World) : Prop := Go.Lib.BuilderAt 90 5 B b p (Go.Lib.byteCells l) w
abbrev IsB (B b : Nat) (l : List UInt8) (w : World) : Prop := Go.Lib.IsBuilder 90 5 B b (Go.Lib.byteCells l) w

theorem bat_below {B b : Nat} {p : Value} {l : List UInt8} {w w' : World} (h : BAt B b p l w) (hb : Below w.heap.size w w') : BAt B b p l w' := by
  obtain ⟨h1, v, h2, h3, h4⟩ := h
  refine ⟨h1, v, (hb.block b (Array.getElem?_eq_some_iff.1 h2).1).trans h2, ?_, h4⟩
  refine ⟨h3.1, ?_⟩
  rcases h3.2 with hn | ⟨g, cap, cur, rfl, hb', hg, rest⟩
  · exact .inl hn
  · exact .inr ⟨g, cap, cur, rfl, hb', (hb.block g (Array.getElem?_eq_some_iff.1 hg).1).trans hg, rest⟩
theorem isb_below {B b : Nat} {l : List UInt8} {w w' : World} (h : IsB B b l w) (hb : Below w.heap.size w w') : IsB B b l w' := by
  rcases h with h | h
  · exact .inl (bat_below h hb)
  · exact .inr (bat_below h hb)

theorem size_builder : (Tryz.prog.info? 90).map (·.size) = some 2 := by kernel_rfl
theorem lies_builder : liesAt Tryz.prog Tryz.prog.depth 90 (2 / Tryz.prog.cellsOf 90) 0 90 1 = true := by kernel_rfl
theorem info_byte : (Tryz.prog.info? 5).map (fun i => (i.zero, i.size, i.bytes)) = some (some (.int .u8 0), 1, 1) := by kernel_rfl

set_option maxRecDepth 100000 in
set_option maxHeartbeats 2000000 in
theorem check_used (b : Nat) (w : World) (h0 : w.cell? ⟨b, 0, none⟩ = some (bp b)) :
    Calls Tryz.prog 89 #[bp b] w fun e w' => e = .returned (.tuple #[]) ∧ w = w' := by
  obtain ⟨j, hj, _⟩ := Option.map_eq_some_iff.1 size_builder
  have hne := Go.Lib.run_neq_ptr_same (P := Tryz.prog) w ⟨b, 0, none⟩ Tryz.underlying88 hj
  go_enter Tryz.func89, Tryz.ntmps89
  go_wp2
  try rw [hne]
  go_wp2
  go_end0
  exact ⟨rfl, rfl⟩

set_option maxRecDepth 100000 in
set_option maxHeartbeats 2000000 in
theorem check_fresh (b : Nat) (w : World) (h0 : w.cell? ⟨b, 0, none⟩ = some (.pointer none)) (hsh : w.shape? b = some (90, 2)) (hfz : w.frozen? ⟨b, 0, none⟩ = false) :
    Calls Tryz.prog 89 #[bp b] w fun e w' => e = .returned (.tuple #[]) ∧ w' = w.setCell ⟨b, 0, none⟩ (bp b) := by
  obtain ⟨j, hj, hjs⟩ := Option.map_eq_some_iff.1 size_builder
  go_enter Tryz.func89, Tryz.ntmps89
  go_wp2
  rw [Go.Lib.run_to_unsafe w ⟨b, 0, none⟩ Tryz.underlying88 Tryz.underlying112 hj (by rw [hjs]; decide) hsh (Nat.zero_lt_succ 1)]
  simp only [Result.andThen]
  rw [Oper.upon_value]
  go_wp2
  rw [run_callFunc_extern Tryz.func102 (by kernel_rfl) (by kernel_rfl) (by kernel_rfl) (e := Extern.AbiNoEscape.same) (by kernel_rfl)]
  rw [Go.Lib.run_noEscape]
  simp only [Result.andThen]
  rw [Oper.upon_value]
  go_wp2
  rw [Go.Lib.run_from_unsafe w ⟨b, 0, none⟩ Tryz.underlying112 Tryz.underlying88 hj hsh lies_builder]
  simp only [Result.andThen]
  rw [Oper.upon_value]
  go_wp2
  go_end0
  exact ⟨rfl, rfl⟩

theorem check_any (B b : Nat) (l : List UInt8) (w : World) (h : IsB B b l w) :
    Calls Tryz.prog 89 #[bp b] w fun e w' => e = .returned (.tuple #[]) ∧ BAt B b (bp b) l w' ∧ Below B w w' := by
  rcases h with h | h
  · refine (check_fresh b w h.cell0 h.shape h.frozen0).mono ?_
    rintro e w' ⟨rfl, rfl⟩
    exact ⟨rfl, h.used _, (Below.refl B w).setCell (p := ⟨b, 0, none⟩) h.1 _⟩
  · refine (check_used b w h.cell0).mono ?_
    rintro e w' ⟨rfl, rfl⟩
    exact ⟨rfl, h, Below.refl B _⟩

theorem byteCells_app (l m : List UInt8) : Go.Lib.byteCells l ++ Go.Lib.byteCells m = Go.Lib.byteCells (l ++ m) := by simp [Go.Lib.byteCells]

set_option maxRecDepth 100000 in
set_option maxHeartbeats 4000000 in
theorem wstring (B b : Nat) (l : List UInt8) (s : ByteArray) (w : World) (h : IsB B b l w) (hlen : l.length + s.size ≤ 1000000000) (hBw : B ≤ w.heap.size) :
    Calls Tryz.prog 80 #[bp b, .string s] w fun e w' => e = .returned (.tuple #[.int .i64 s.size, .nilIface]) ∧ IsB B b (l ++ s.data.toList) w' ∧ Below B w w' := by
  obtain ⟨i0, hi, hz0, hz1, hz2⟩ := info_parts info_byte
  have HI := Lib.hid (And.intro hi (And.intro hz0 (And.intro hz1 hz2)))
  have hbl : (Go.Lib.byteCells l).length = l.length := by simp [Go.Lib.byteCells]
  have HBL := Lib.hid hbl
  have HC := Lib.hid (check_any B b l w h)
  clear hi hz0 hz1 hz2 hbl h
  go_enter Tryz.func80, Tryz.ntmps80
  go_wp2_with fail
  refine HC.out.mono ?_
  rintro e w1 ⟨rfl, h1, hb1⟩
  obtain ⟨hB, v, hbk, hown, hne⟩ := h1
  have c1 : w1.cell? ⟨b, 1, none⟩ = some v := by rw [Go.Lib.cell_of_heap hbk]; rfl
  have hlb := lt_of_cell c1
  have HOWN := Lib.hid hown
  have HNE := Lib.hid hne
  have HBK := Lib.hid hbk
  have HB1 := Lib.hid hb1
  have hbw1 : B ≤ w1.heap.size := Nat.le_trans hBw hb1.size
  clear hown hne hbk hb1
  go_wp2_with (at_builtin; refine Go.Lib.wpList_append_own_string _ rfl _ _ 66 9 rfl B 5 i0 Tryz.underlying66 Tryz.underlying9 HI.out.1 HI.out.2.1 HI.out.2.2.1 HI.out.2.2.2 _ _ _ rfl HOWN.out s rfl (by rw [HBL.out]; unfold maxLen; omega) (by rw [HBL.out]; omega) hbw1 ?_)
  intro v' w2 hown' hgrow _
  have hb2 : w2.heap[b]? = some (.cells #[bp b, v] 90 (0, 0)) := by
    rw [hgrow.block b hlb (fun e => HNE.out e.symm)]
    exact HBK.out
  have d1 : w2.cell? ⟨b, 1, none⟩ = some v := by rw [Go.Lib.cell_of_heap hb2]; rfl
  have f1 : w2.frozen? ⟨b, 1, none⟩ = false := Go.Lib.frozen_of_heap hb2 1
  have hlb2 := lt_of_cell d1
  obtain ⟨ao, n', cap, rfl⟩ : ∃ ao n' cap, v' = .slice ao n' cap := by
    rcases hown'.2 with ⟨hv, _⟩ | ⟨g, cap, cur, hv, _⟩
    · exact ⟨_, _, _, hv⟩
    · exact ⟨_, _, _, hv⟩
  have hfin : IsB B b (l ++ s.data.toList) (w2.setCell ⟨b, 1, none⟩ (.slice ao n' cap)) := .inr (by
    have h5 := Go.Lib.BuilderAt.put (T := 90) (e := 5) hB hb2 (bs' := Go.Lib.byteCells l ++ Go.Lib.strCells s) (by simpa [Go.Lib.strCells_length] using hown') (by decide)
    have e : Go.Lib.byteCells l ++ Go.Lib.strCells s = Go.Lib.byteCells (l ++ s.data.toList) := by rw [← byteCells_app]; rfl
    rw [e] at h5
    exact h5)
  have hbf : Below B w (w2.setCell ⟨b, 1, none⟩ (.slice ao n' cap)) := (HB1.out.grown hgrow (by omega) (fun k hk => (HOWN.out.lt k hk).1)).setCell (p := ⟨b, 1, none⟩) hB _
  have HFIN := Lib.hid (And.intro hfin hbf)
  clear hown' hgrow hb2 hfin hbf c1
  go_wp2
  go_ret2
  exact ⟨rfl, HFIN.out⟩

set_option maxRecDepth 100000 in
set_option maxHeartbeats 4000000 in
theorem wbyte (B b : Nat) (l : List UInt8) (c : UInt8) (w : World) (h : IsB B b l w) (hlen : l.length + 1 ≤ 1000000000) (hBw : B ≤ w.heap.size) :
    Calls Tryz.prog 81 #[bp b, .int .u8 c.toNat] w fun e w' => e = .returned .nilIface ∧ IsB B b (l ++ [c]) w' ∧ Below B w w' := by
  obtain ⟨i0, hi, hz0, hz1, hz2⟩ := info_parts info_byte
  have HI := Lib.hid (And.intro hi (And.intro hz0 (And.intro hz1 hz2)))
  have hbl : (Go.Lib.byteCells l).length = l.length := by simp [Go.Lib.byteCells]
  have HBL := Lib.hid hbl
  have HC := Lib.hid (check_any B b l w h)
  clear hi hz0 hz1 hz2 hbl h
  go_enter Tryz.func81, Tryz.ntmps81
  go_wp2_with fail
  refine HC.out.mono ?_
  rintro e w1 ⟨rfl, h1, hb1⟩
  obtain ⟨hB, v, hbk, hown, hne⟩ := h1
  have c1 : w1.cell? ⟨b, 1, none⟩ = some v := by rw [Go.Lib.cell_of_heap hbk]; rfl
  have hlb := lt_of_cell c1
  have HOWN := Lib.hid hown
  have HNE := Lib.hid hne
  have HBK := Lib.hid hbk
  have HB1 := Lib.hid hb1
  have hbw1 : B ≤ w1.heap.size := Nat.le_trans hBw hb1.size
  clear hown hne hbk hb1
  go_wp2_with (at_builtin; refine wpList_append_own _ rfl _ _ 66 rfl B 5 i0 (.int .u8 0) 1 1 Tryz.underlying66 HI.out.1 HI.out.2.1 HI.out.2.2.1 HI.out.2.2.2 rfl (by decide) _ _ _ rfl (HOWN.out.alloc _) ⟨w1.heap.size, 0, none⟩ 1 1 [.int .u8 c.toNat] rfl rfl ?c1 ?c2 ?c3 ?c4 ?c5 ?_)
  case c1 =>
    intro j u hj
    match j, hj with
    | 0, hj => simp at hj; subst hj; simp [Addr.add]
  case c2 => intro u hu; simp at hu; subst hu; rfl
  case c3 => rw [HBL.out]; unfold maxLen; omega
  case c4 => rw [HBL.out]; omega
  case c5 => simp; omega
  intro v' w2 hown' hgrow _
  have hb2 : w2.heap[b]? = some (.cells #[bp b, v] 90 (0, 0)) := by
    rw [hgrow.block b (by simp; omega) (fun e => HNE.out e.symm), Go.Lib.alloc_old w1 _ b hlb]
    exact HBK.out
  have d1 : w2.cell? ⟨b, 1, none⟩ = some v := by rw [Go.Lib.cell_of_heap hb2]; rfl
  have f1 : w2.frozen? ⟨b, 1, none⟩ = false := Go.Lib.frozen_of_heap hb2 1
  have hlb2 := lt_of_cell d1
  obtain ⟨ao, n', cap, rfl⟩ : ∃ ao n' cap, v' = .slice ao n' cap := by
    rcases hown'.2 with ⟨hv, _⟩ | ⟨g, cap, cur, hv, _⟩
    · exact ⟨_, _, _, hv⟩
    · exact ⟨_, _, _, hv⟩
  have hfin : IsB B b (l ++ [c]) (w2.setCell ⟨b, 1, none⟩ (.slice ao n' cap)) := .inr (by
    have h5 := Go.Lib.BuilderAt.put (T := 90) (e := 5) hB hb2 (bs' := Go.Lib.byteCells l ++ [.int .u8 c.toNat]) (by simpa using hown') (by decide)
    have e : Go.Lib.byteCells l ++ [.int .u8 c.toNat] = Go.Lib.byteCells (l ++ [c]) := by rw [← byteCells_app]; rfl
    rw [e] at h5
    exact h5)
  have hbf : Below B w (w2.setCell ⟨b, 1, none⟩ (.slice ao n' cap)) := ((HB1.out.alloc hbw1 _).grown hgrow (by simp; omega) (fun k hk => (HOWN.out.lt k hk).1)).setCell (p := ⟨b, 1, none⟩) hB _
  have HFIN := Lib.hid (And.intro hfin hbf)
  clear hown' hgrow hb2 hfin hbf c1
  go_wp2
  go_ret
  exact ⟨rfl, HFIN.out⟩

end Go.Proofs.YtbefcipeojahfaaGreatDoor
