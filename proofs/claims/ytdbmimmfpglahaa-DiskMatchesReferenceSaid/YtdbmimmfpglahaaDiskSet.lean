/- Contracts of the disk's set and settle. -/
import Derived.Test.YtdbmimmfpglahaaDiskOps
namespace Go.Proofs.Ytdbmimmfpglahaa
open Go.RowKit

theorem u8s_eq (l : List UInt8) : Go.Lib.byteCells l = u8s l := rfl

theorem u8s_put (st : List UInt8) (s : Nat) (t : List UInt8) (h : s * 64 + t.length ≤ st.length) : (u8s st).take (s * 64) ++ u8s t ++ (u8s st).drop (s * 64 + t.length) = u8s (put st s t) := by
  simp only [u8s, put, List.map_append, List.map_take, List.map_drop]

theorem put_length (st : List UInt8) (s : Nat) (t : List UInt8) (h : s * 64 + t.length ≤ st.length) : (put st s t).length = st.length := by
  simp only [put, List.length_append, List.length_take, List.length_drop]; omega

/-- copy(bytes, s) from a string that fits. -/
theorem wpList_copy_str {P : Program} {w : World} {ops : Array Oper} {rest : List Oper} {o : Oper} {a : Act} {Q : Exit → Act → World → Prop} (hgd : o.guard = none) (d s : Operand) (dT sT : TypeId)
    (ho : o.op = .call { callee := .builtin .copy, args := #[d, s], argTypes := #[dT, sT] }) (elem : TypeId) (hu : P.underlying dT = some (.slice elem)) (hsz : (P.info? elem).map (·.size) = some 1)
    (g off dLen dCap : Nat) (t : ByteArray) (T : TypeId) (hd : a.eval d = .slice (some ⟨g, off, none⟩) dLen dCap) (hs : a.eval s = .string t)
    (cur : Array Value) (hg : Blk w g T cur) (hle : t.size ≤ dLen) (hfit : off + t.size ≤ cur.size)
    (h : ∀ w', Blk w' g T (cur.toList.take off ++ Go.Lib.byteCells t.data.toList ++ cur.toList.drop (off + t.size)).toArray → Chg [g] w w' → wpList P ops Q rest (a.put o.dst (goInt t.size)) w') :
    wpList P ops Q (o :: rest) a w := by
  refine wpList_plain hgd fun K hK => ?_
  have hrun := Go.Lib.run_copy_row_string (P := P) w dT sT o.type elem g off dLen dCap t cur T hu hsz hg hle hfit
  unfold Oper.wp
  simp only [execOp, ho, resolve, invoke, builtin, Sem.run_bind, Sem.run_pure, Result.andThen_ok, List.map_toArray, List.map_cons, List.map_nil, hd, hs, hrun]
  refine hK _ _ (h _ (setRow_heap w g cur _ T _ hg) ?_)
  refine ⟨rfl, rfl, rfl, by simp [World.setRow], fun k hk hn => setRow_other w g k _ (by simpa using hn)⟩

theorem info_u8 : (Try.prog.info? 5).map (·.size) = some 1 := by kernel_rfl

set_option maxHeartbeats 1600000 in
theorem set_any (d n sb s : Nat) (st : List UInt8) (t : ByteArray) (w : World) (h : w.cell? ⟨d, 0, none⟩ = some (.slice (some ⟨sb, 0, none⟩) (n * 64) (n * 64))) (hb : Blk w sb 5 (u8s st).toArray)
    (hst : st.length = n * 64) (hs : s < n) (h40 : n ≤ 4000) (ht : t.size ≤ 64) :
    Calls Try.prog 33 #[ptr d, .agg #[.int .i64 ((s : Int) * 64), .int .i64 (((s : Int) + 1) * 64)], .string t] w fun e w' =>
      e = .returned (.tuple #[]) ∧ Chg [sb] w w' ∧ Blk w' sb 5 (u8s (put st s t.data.toList)).toArray := by
  have hl := lt_of_cell h
  have hbl := hb.lt
  obtain ⟨lo, hlo⟩ : ∃ lo, s * 64 = lo := ⟨_, rfl⟩
  obtain ⟨hi, hhi⟩ : ∃ hi, (s + 1) * 64 = hi := ⟨_, rfl⟩
  obtain ⟨m, hm⟩ : ∃ m, n * 64 = m := ⟨_, rfl⟩
  rw [show (s : Int) * 64 = (lo : Nat) by omega, show ((s : Int) + 1) * 64 = (hi : Nat) by omega]
  rw [hm] at h hst
  have h1 : lo ≤ hi := by omega
  have h2 : hi ≤ m := by omega
  have h3 : hi - lo = 64 := by omega
  have h4 : (m = lo) = False := by simp; omega
  have HLO := Lib.hid hlo
  have HB := Lib.hid hb
  have HST := Lib.hid hst
  clear hlo hhi hb hst
  unfold ptr
  go_enter Try.func33, Try.ntmps33
  go_wp2_with fail
  refine wp_region_still_tail 10 (by kernel_rfl) (by kernel_rfl) ?_
  simp only [List.take_succ_cons, List.take_zero, List.drop_succ_cons, List.drop_zero]
  change wpStill _ _ (World.drew _) _ _ _
  repeat still_step
  refine wpStill_nil ?_
  change wpList _ _ _ _ _ (World.drew _)
  refine wpList_copy_str rfl (.tmp 14) (.tmp 15) 44 9 rfl 5 Try.underlying44 info_u8 sb lo 64 (m - lo) t 5 rfl rfl (u8s st).toArray (HB.out.alloc _) ht (by have := HST.out; simp [u8s]; omega) ?_
  intro w' hb' hc'
  have hsz : t.size = t.data.toList.length := by rw [Array.length_toList]; rfl
  rw [u8s_eq, ← HLO.out, hsz, u8s_put _ _ _ (by have := HST.out; have := HLO.out; omega)] at hb'
  have HB' := Lib.hid hb'
  have HC' := Lib.hid hc'
  clear hb' hc' hsz
  go_wp2
  go_end0
  exact ⟨rfl, ((Chg.refl [sb] w).alloc _).drew.trans HC'.out (fun j hj => .inl hj), HB'.out⟩

/-- The stable bytes after some writes. -/
theorem settle_snoc (st : List UInt8) (q : List (Nat × ByteArray)) (p : Nat × ByteArray) : settle st (q ++ [p]) = put (settle st q) p.1 p.2.data.toList := by
  induction q generalizing st with
  | nil => rfl
  | cons a q ih => exact ih _

theorem settle_length (n : Nat) (st : List UInt8) (q : List (Nat × ByteArray)) (h : st.length = n * 64) (hq : ∀ p, p ∈ q → p.1 < n ∧ p.2.size = 64) : (settle st q).length = n * 64 := by
  induction q generalizing st with
  | nil => exact h
  | cons a q ih =>
    obtain ⟨h1, h2⟩ := hq a List.mem_cons_self
    have h2' : a.2.data.toList.length = 64 := by rw [Array.length_toList]; exact h2
    exact ih _ (by rw [put_length _ _ _ (by omega)]; exact h) (fun p hp => hq p (List.mem_cons_of_mem _ hp))

theorem flatq_length (q : List (Nat × ByteArray)) : (flatq q).length = q.length * 3 := by
  induction q with
  | nil => rfl
  | cons p l ih => simp only [flatq, List.flatMap_cons, List.length_append, List.length_cons, List.length_nil] at *; omega

theorem flatq_append (q r : List (Nat × ByteArray)) : flatq (q ++ r) = flatq q ++ flatq r := by simp [flatq]

theorem flatq_at (l : List (Nat × ByteArray)) (k : Nat) (p : Nat × ByteArray) (h : l[k]? = some p) :
    (flatq l)[k * 3]? = some (.int .i64 ((p.1 * 64 : Nat) : Int)) ∧ (flatq l)[k * 3 + 1]? = some (.int .i64 (((p.1 + 1) * 64 : Nat) : Int)) ∧ (flatq l)[k * 3 + 2]? = some (.string p.2) := by
  induction l generalizing k with
  | nil => simp at h
  | cons q l ih =>
    cases k with
    | zero => simp at h; subst h; simp [flatq]
    | succ k =>
      have := ih k (by simpa using h)
      have e : flatq (q :: l) = .int .i64 ((q.1 * 64 : Nat) : Int) :: .int .i64 (((q.1 + 1) * 64 : Nat) : Int) :: .string q.2 :: flatq l := rfl
      rw [e, show (k + 1) * 3 = (((k * 3) + 1) + 1) + 1 by omega]
      simpa using this

theorem flatq_oneCell (l : List (Nat × ByteArray)) : ∀ u ∈ flatq l, u.oneCell' = true := by
  intro u hu
  obtain ⟨p, _, hp⟩ := List.mem_flatMap.1 hu
  simp at hp
  rcases hp with rfl | rfl | rfl <;> rfl

/-- A queue of writes, off the blocks F. -/
def Qs (w : World) (A : Option Addr) (q : List (Nat × ByteArray)) : Prop := Rd w 3 A q.length (flatq q)

theorem Qs.at_ {w : World} {A : Option Addr} {l : List (Nat × ByteArray)} (h : Qs w A l) {k : Nat} {p : Nat × ByteArray} (hk : l[k]? = some p) :
    ∃ b off, A = some ⟨b, off, none⟩ ∧ w.cell? ⟨b, off + k * 3, none⟩ = some (.int .i64 ((p.1 * 64 : Nat) : Int)) ∧ w.cell? ⟨b, off + k * 3 + 1, none⟩ = some (.int .i64 (((p.1 + 1) * 64 : Nat) : Int)) ∧
      w.cell? ⟨b, off + k * 3 + 2, none⟩ = some (.string p.2) := by
  have hl : k < l.length := (List.getElem?_eq_some_iff.1 hk).1
  obtain ⟨b, off, e, hc⟩ := h.2 (by omega)
  obtain ⟨h1, h2, h3⟩ := flatq_at l k p hk
  exact ⟨b, off, e, hc _ _ h1, by rw [Nat.add_assoc]; exact hc _ _ h2, by rw [Nat.add_assoc]; exact hc _ _ h3⟩

theorem Qs.take {w : World} {A : Option Addr} {l : List (Nat × ByteArray)} (h : Qs w A l) (k : Nat) : Qs w A (l.take k) := by
  refine ⟨flatq_length _, fun hn => ?_⟩
  have hl : 0 < l.length := by simp at hn; omega
  obtain ⟨b, off, e, hc⟩ := h.2 hl
  refine ⟨b, off, e, fun j u hu => hc j u ?_⟩
  have h1 : flatq l = flatq (l.take k) ++ flatq (l.drop k) := by rw [← flatq_append, List.take_append_drop]
  rw [h1, List.getElem?_append_left (List.getElem?_eq_some_iff.1 hu).1]
  exact hu

theorem Qs.chg {w w' : World} {A : Option Addr} {l : List (Nat × ByteArray)} {F : List Nat} (h : Qs w A l) (hc : Chg F w w') (hF : ∀ a, A = some a → a.block ∉ F) : Qs w' A l := by
  refine ⟨h.1, fun hn => ?_⟩
  obtain ⟨b, off, e, hv⟩ := h.2 hn
  exact ⟨b, off, e, fun j u hu => hc.cell (hF _ e) (hv j u hu)⟩

set_option maxHeartbeats 1600000 in
theorem settle_any (d n sb : Nat) (st : List UInt8) (A : Option Addr) (c : Nat) (q : List (Nat × ByteArray)) (w : World) (h : w.cell? ⟨d, 0, none⟩ = some (.slice (some ⟨sb, 0, none⟩) (n * 64) (n * 64))) (hb : Blk w sb 5 (u8s st).toArray)
    (hst : st.length = n * 64) (h40 : n ≤ 4000) (hq : ∀ p, p ∈ q → p.1 < n ∧ p.2.size = 64) (hA : Qs w A q) (hne : ∀ a, A = some a → a.block ∉ [sb]) (hd : d ∉ [sb]) (hl : q.length ≤ 1000000) :
    Calls Try.prog 32 #[ptr d, .slice A q.length c] w fun e w' =>
      e = .returned (.tuple #[]) ∧ Chg [sb] w w' ∧ Blk w' sb 5 (u8s (settle st q)).toArray := by
  have H := Lib.hid h
  have HB := Lib.hid hb
  have HQ := Lib.hid hA
  have HI := Lib.hid hq
  clear h hb hA hq
  unfold ptr
  go_enter Try.func32, Try.ntmps32
  go_wp2_with fail
  go_loopw [8] (fun u8 wr => ∃ k : Nat, k ≤ q.length ∧ u8 = .int .i64 k ∧ Chg [sb] w wr ∧ Blk wr sb 5 (u8s (settle st (q.take k))).toArray) (fun u8 _ => q.length - (intOf u8).toNat)
  case atStart => exact ⟨0, Nat.zero_le _, rfl, Chg.refl _ _, HB.out⟩
  case round =>
    obtain ⟨k, hk, rfl, hc, hbk⟩ := hrel
    have HC := Lib.hid hc; clear hc
    have HBK := Lib.hid hbk; clear hbk
    by_cases hlt : k < q.length
    · obtain ⟨p, hp⟩ := get_some q k hlt
      obtain ⟨b, off, rfl, h1, h2, h3⟩ := (HQ.out.chg HC.out hne).at_ hp
      obtain ⟨hp1, hp2⟩ := HI.out p (List.mem_of_getElem? hp)
      have HP := Lib.hid hp; clear hp
      have h1l := lt_of_cell h1
      have hst1 : (settle st (q.take k)).length = n * 64 := settle_length n st _ hst (fun p hp => HI.out p (List.mem_of_mem_take hp))
      have hset := set_any d n sb p.1 (settle st (q.take k)) p.2 (wr.alloc (.cells #[.int .i64 ((p.1 : Int) * 64), .int .i64 (((p.1 : Int) + 1) * 64), .string p.2] 59)) (((HC.out.alloc _)).cell hd H.out) (HBK.out.alloc _) hst1 hp1 h40 (by omega)
      have HSET := Lib.hid hset
      clear hset
      unfold ptr at HSET
      go_wp2_with fail
      refine HSET.out.mono ?_
      rintro e w' ⟨rfl, hc', hb'⟩
      have HC' := Lib.hid hc'; clear hc'
      have HB' := Lib.hid hb'; clear hb'
      go_wp2
      go_roundw
      case rel => exact ⟨k + 1, by omega, by go_num, (HC.out.alloc _).trans HC'.out (fun j hj => .inl hj), by rw [take_snoc q k p HP.out, settle_snoc]; exact HB'.out⟩
      case measure => simp [intOf]; omega
    · have hkq : k = q.length := by omega
      subst hkq
      rw [List.take_length] at HBK
      go_wp2
      go_end0
      exact ⟨rfl, HC.out, HBK.out⟩

end Go.Proofs.Ytdbmimmfpglahaa
