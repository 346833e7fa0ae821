/- Disks that the call itself made, in short words: Own, Two; the contracts said so. -/
import Derived.Test.YtdbmimmfpglahaaPure55
namespace Go.Proofs.Ytdbmimmfpglahaa
open Go.RowKit

/-- The world since the call began: G are blocks of the call that lie beside the disks' blocks F, each as in a known world. -/
structure Keep (w0 w : World) (G : List (Nat × World)) (F : List Nat) : Prop where
  below : Below w0.heap.size w0 w
  low : ∀ k, k ∈ F → w0.heap.size ≤ k
  kept : ∀ p, p ∈ G → w0.heap.size ≤ p.1 ∧ p.1 < w.heap.size ∧ p.1 ∉ F ∧ w.heap[p.1]? = p.2.heap[p.1]?

theorem Keep.step {w0 w w' : World} {G : List (Nat × World)} {F F1 FF : List Nat} (h : Keep w0 w G F) (hc : Chg F1 w w') (h1 : ∀ k, k ∈ F1 → k ∈ F) (hf : ∀ k, k ∈ FF → k ∈ F ∨ w.heap.size ≤ k) : Keep w0 w' G FF := by
  have hs := h.below.size
  refine ⟨h.below.trans (hc.below (fun k hk => h.low k (h1 k hk)) hs), fun k hk => ?_, fun p hp => ?_⟩
  · rcases hf k hk with h2 | h2
    · exact h.low k h2
    · omega
  · obtain ⟨a, b, c, e⟩ := h.kept p hp
    refine ⟨a, Nat.lt_of_lt_of_le b hc.size, fun hm => ?_, (hc.block _ b (fun hm => c (h1 _ hm))).trans e⟩
    rcases hf _ hm with h2 | h2
    · exact c h2
    · omega

theorem Keep.store {w0 w wb : World} {G : List (Nat × World)} {F : List Nat} {b : Nat} (h : Keep w0 w ((b, wb) :: G) F) (hd : ∀ p, p ∈ G → p.1 ≠ b) (i : Nat) (u : Value) :
    Keep w0 (w.setCell ⟨b, i, none⟩ u) ((b, w.setCell ⟨b, i, none⟩ u) :: G) F := by
  obtain ⟨hb1, hb2, hb3, hb4⟩ := h.kept (b, wb) (List.mem_cons_self)
  refine ⟨h.below.setCell (p := ⟨b, i, none⟩) hb1 u, h.low, fun p hp => ?_⟩
  rcases List.mem_cons.1 hp with rfl | hp'
  · exact ⟨hb1, by simpa [World.setCell] using hb2, hb3, rfl⟩
  · obtain ⟨a1, a2, a3, a4⟩ := h.kept p (List.mem_cons_of_mem _ hp')
    exact ⟨a1, by simpa [World.setCell] using a2, a3, (Below.heap_setCell w _ u p.1 (hd p hp')).trans a4⟩

theorem Keep.add {w0 w : World} {G : List (Nat × World)} {F : List Nat} (h : Keep w0 w G F) {b : Nat} (h1 : w0.heap.size ≤ b) (h2 : b < w.heap.size) (h3 : b ∉ F) : Keep w0 w ((b, w) :: G) F :=
  ⟨h.below, h.low, fun p hp => by
    rcases List.mem_cons.1 hp with rfl | hp'
    · exact ⟨h1, h2, h3, rfl⟩
    · exact h.kept p hp'⟩

theorem Keep.sub {w0 w : World} {G G' : List (Nat × World)} {F : List Nat} (h : Keep w0 w G F) (hs : ∀ p, p ∈ G' → p ∈ G) : Keep w0 w G' F := ⟨h.below, h.low, fun p hp => h.kept p (hs p hp)⟩

/-- One disk of the call. -/
def Own (w0 w : World) (d : Nat) (S : DS) (G : List (Nat × World)) : Prop := ∃ F, Dk w d S F ∧ Keep w0 w G F
/-- Two disks of the call. -/
def Two (w0 w : World) (d : Nat) (S : DS) (d2 : Nat) (S2 : DS) (G : List (Nat × World)) : Prop := ∃ F F2, Dk w d S F ∧ Dk w d2 S2 F2 ∧ (∀ k, k ∈ F → k ∉ F2) ∧ Keep w0 w G (F ++ F2)

/-- There is a disk; whatever comes of it, Q holds behind. -/
def Acc (w : World) (d : Nat) (S : DS) (Q : World → DS → Prop) : Prop := ∃ F, Dk w d S F ∧ ∀ S' w', DkTo w w' d F S' → Q w' S'

section
variable {w0 w w' : World} {d d2 : Nat} {S S2 : DS} {G : List (Nat × World)}
theorem Own.acc (h : Own w0 w d S G) : Acc w d S (fun w' S' => Own w0 w' d S' G) := by
  obtain ⟨F, h1, h2⟩ := h
  exact ⟨F, h1, fun S' w' ⟨F', k1, k2, k3⟩ => ⟨F', k1, h2.step k3 (fun _ h => h) k2⟩⟩
theorem Two.acc (h : Two w0 w d S d2 S2 G) : Acc w d S (fun w' S' => Two w0 w' d S' d2 S2 G) := by
  obtain ⟨F, F2, h1, h2, h3, h4⟩ := h
  refine ⟨F, h1, fun S' w' ⟨F', k1, k2, k3⟩ => ⟨F', F2, k1, h2.chg k3 (fun k hk hm => h3 k hm hk), fun k hk hm => ?_, h4.step k3 (fun k hk => List.mem_append.2 (.inl hk)) (fun k hk => ?_)⟩⟩
  · rcases k2 k hk with h5 | h5
    · exact h3 k h5 hm
    · have := h2.lt k hm; omega
  · rcases List.mem_append.1 hk with h5 | h5
    · rcases k2 k h5 with h6 | h6
      · exact .inl (List.mem_append.2 (.inl h6))
      · exact .inr h6
    · exact .inl (List.mem_append.2 (.inr h5))
theorem Two.swap (h : Two w0 w d S d2 S2 G) : Two w0 w d2 S2 d S G := by
  obtain ⟨F, F2, h1, h2, h3, h4⟩ := h
  exact ⟨F2, F, h2, h1, fun k hk hm => h3 k hm hk, h4.below, fun k hk => h4.low k (by simp only [List.mem_append] at *; exact hk.symm), fun p hp => by
    obtain ⟨a, b, c, e⟩ := h4.kept p hp
    exact ⟨a, b, fun hm => c (by simp only [List.mem_append] at *; exact hm.symm), e⟩⟩
theorem Two.acc2 (h : Two w0 w d S d2 S2 G) : Acc w d2 S2 (fun w' S' => Two w0 w' d S d2 S' G) := by
  obtain ⟨F, h1, h2⟩ := h.swap.acc
  exact ⟨F, h1, fun S' w' k => (h2 S' w' k).swap⟩

theorem Own.below (h : Own w0 w d S G) (hb : Below w.heap.size w w') : Own w0 w' d S G := by
  obtain ⟨F, h1, h2⟩ := h
  exact ⟨F, h1.chg (F2 := []) (Chg.of_below hb []) (by simp), h2.step (F1 := []) (Chg.of_below hb []) (by simp) (fun k hk => .inl hk)⟩
theorem Two.below (h : Two w0 w d S d2 S2 G) (hb : Below w.heap.size w w') : Two w0 w' d S d2 S2 G := by
  obtain ⟨F, F2, h1, h2, h3, h4⟩ := h
  exact ⟨F, F2, h1.chg (F2 := []) (Chg.of_below hb []) (by simp), h2.chg (F2 := []) (Chg.of_below hb []) (by simp), h3, h4.step (F1 := []) (Chg.of_below hb []) (by simp) (fun k hk => .inl hk)⟩
theorem Own.sub {G' : List (Nat × World)} (h : Own w0 w d S G) (hs : ∀ p, p ∈ G' → p ∈ G) : Own w0 w d S G' := by
  obtain ⟨F, h1, h2⟩ := h
  exact ⟨F, h1, h2.sub hs⟩
theorem Two.sub {G' : List (Nat × World)} (h : Two w0 w d S d2 S2 G) (hs : ∀ p, p ∈ G' → p ∈ G) : Two w0 w d S d2 S2 G' := by
  obtain ⟨F, F2, h1, h2, h3, h4⟩ := h
  exact ⟨F, F2, h1, h2, h3, h4.sub hs⟩
theorem Own.box (h : Own w0 w d S G) (o : Obj) : Own w0 (w.alloc o) d S ((w.heap.size, w.alloc o) :: G) := by
  have hb : Below w.heap.size w (w.alloc o) := below_alloc (Below.refl _ _) o
  obtain ⟨F, h1, h2⟩ := h
  exact ⟨F, h1.boxed o, (h2.step (F1 := []) (FF := F) (Chg.of_below hb []) (by simp) (fun k hk => .inl hk)).add h2.below.size (by simp) (fun hm => Nat.lt_irrefl _ (h1.lt _ hm))⟩
theorem Own.fresh {b : Nat} (h : Own w0 w d S G) (hb : Below w.heap.size w w') (h1 : w.heap.size ≤ b) (h2 : b < w'.heap.size) : Own w0 w' d S ((b, w') :: G) := by
  obtain ⟨F, h3, h4⟩ := h
  exact ⟨F, h3.chg (F2 := []) (Chg.of_below hb []) (by simp), (h4.step (F1 := []) (FF := F) (Chg.of_below hb []) (by simp) (fun k hk => .inl hk)).add (Nat.le_trans h4.below.size h1) h2 (fun hm => by have := h3.lt _ hm; omega)⟩
theorem Two.fresh {b : Nat} (h : Two w0 w d S d2 S2 G) (hb : Below w.heap.size w w') (h1 : w.heap.size ≤ b) (h2 : b < w'.heap.size) : Two w0 w' d S d2 S2 ((b, w') :: G) := by
  obtain ⟨F, F2, h3, h5, h6, h4⟩ := h
  refine ⟨F, F2, h3.chg (F2 := []) (Chg.of_below hb []) (by simp), h5.chg (F2 := []) (Chg.of_below hb []) (by simp), h6, (h4.step (F1 := []) (FF := F ++ F2) (Chg.of_below hb []) (by simp) (fun k hk => .inl hk)).add (Nat.le_trans h4.below.size h1) h2 (fun hm => ?_)⟩
  rcases List.mem_append.1 hm with h7 | h7
  · have := h3.lt _ h7; omega
  · have := h5.lt _ h7; omega
theorem Own.store {wb : World} {b : Nat} (h : Own w0 w d S ((b, wb) :: G)) (hd : ∀ p, p ∈ G → p.1 ≠ b) (i : Nat) (u : Value) : Own w0 (w.setCell ⟨b, i, none⟩ u) d S ((b, w.setCell ⟨b, i, none⟩ u) :: G) := by
  obtain ⟨F, h1, h2⟩ := h
  obtain ⟨_, _, hb3, _⟩ := h2.kept (b, wb) (List.mem_cons_self)
  exact ⟨F, h1.chg (F2 := [b]) ((Chg.refl [b] w).setCell (.inl (List.mem_cons_self)) u) (fun k hk hm => by
    rcases List.mem_singleton.1 hm with rfl
    exact hb3 hk), h2.store hd i u⟩
theorem Own.lt {wb : World} {b : Nat} (h : Own w0 w d S ((b, wb) :: G)) : b < w.heap.size := by
  obtain ⟨F, h1, h2⟩ := h
  exact (h2.kept (b, wb) (List.mem_cons_self)).2.1
theorem Own.good (h : Own w0 w d S G) : S.ok := by obtain ⟨F, h1, _⟩ := h; exact h1.good
theorem Two.good (h : Two w0 w d S d2 S2 G) : S.ok := by obtain ⟨F, h1, h⟩ := h; exact h.1.good
theorem Two.good2 (h : Two w0 w d S d2 S2 G) : S2.ok := h.swap.good
theorem Own.base (h : Own w0 w d S G) : Below w0.heap.size w0 w := by obtain ⟨F, h1, h2⟩ := h; exact h2.below
theorem Two.base (h : Two w0 w d S d2 S2 G) : Below w0.heap.size w0 w := by obtain ⟨F, F2, _, _, _, h2⟩ := h; exact h2.below
theorem Keep.cell {F : List Nat} (h : Keep w0 w G F) {b : Nat} {wb : World} (hm : (b, wb) ∈ G) {o : Nat} {v : Value} (hv : wb.cell? ⟨b, o, none⟩ = some v) : w.cell? ⟨b, o, none⟩ = some v :=
  (World.cell?_of_block (w := wb) (h.kept _ hm).2.2.2).trans hv
theorem Own.cell (h : Own w0 w d S G) {b : Nat} {wb : World} (hm : (b, wb) ∈ G) {o : Nat} {v : Value} (hv : wb.cell? ⟨b, o, none⟩ = some v) : w.cell? ⟨b, o, none⟩ = some v := by
  obtain ⟨F, h1, h2⟩ := h
  exact h2.cell hm hv
theorem Two.cell (h : Two w0 w d S d2 S2 G) {b : Nat} {wb : World} (hm : (b, wb) ∈ G) {o : Nat} {v : Value} (hv : wb.cell? ⟨b, o, none⟩ = some v) : w.cell? ⟨b, o, none⟩ = some v := by
  obtain ⟨F, F2, _, _, _, h2⟩ := h
  exact h2.cell hm hv
theorem Own.blk {t : TypeId} {cs : Array Value} (h : Own w0 w d S G) {b : Nat} {wb : World} (hm : (b, wb) ∈ G) (hv : Blk wb b t cs) : Blk w b t cs := by
  obtain ⟨F, h1, h2⟩ := h
  exact (h2.kept _ hm).2.2.2.trans hv
end

theorem Strs.to {w w' : World} {b off : Nat} {xs : List ByteArray} (h : Strs w (some ⟨b, off, none⟩) xs) (hb : ∀ o v, w.cell? ⟨b, o, none⟩ = some v → w'.cell? ⟨b, o, none⟩ = some v) : Strs w' (some ⟨b, off, none⟩) xs := by
  refine ⟨h.1, fun hn => ?_⟩
  obtain ⟨b', off', e, hc⟩ := h.2 hn
  obtain ⟨rfl, rfl⟩ : b = b' ∧ off = off' := by simpa using e
  exact ⟨b, off, rfl, fun k v hk => hb _ _ (hc k v hk)⟩

section
variable {w0 w w' : World} {d d2 : Nat} {S S2 : DS} {G : List (Nat × World)} {b off : Nat} {xs : List ByteArray} {wb : World}
theorem Own.strs (h : Own w0 w d S G) (hs : Strs wb (some ⟨b, off, none⟩) xs) (hm : (b, wb) ∈ G) : Strs w (some ⟨b, off, none⟩) xs := hs.to fun _ _ hv => h.cell hm hv
theorem Two.strs (h : Two w0 w d S d2 S2 G) (hs : Strs wb (some ⟨b, off, none⟩) xs) (hm : (b, wb) ∈ G) : Strs w (some ⟨b, off, none⟩) xs := hs.to fun _ _ hv => h.cell hm hv
end

theorem new_own (w0 : World) (n : Nat) (h1 : 1 ≤ n) (h2 : n ≤ 4000) (w : World) (hw : Below w0.heap.size w0 w) : Calls Try.prog 6 #[.int .i64 n] w fun e w' => ∃ d, e = .returned (.pointer (some ⟨d, 0, none⟩)) ∧ Own w0 w' d (DS.new n) [] :=
  (new_any n h1 h2 w).mono fun _ _ ⟨d, F, he, hd, hF, hb⟩ => ⟨d, he, F, hd, below_trans hw hb, fun k hk => Nat.le_trans hw.size (hF k hk), by simp⟩

theorem new_two (w0 : World) (n : Nat) (h1 : 1 ≤ n) (h2 : n ≤ 4000) (w : World) (d : Nat) (S : DS) (hw : Own w0 w d S []) : Calls Try.prog 6 #[.int .i64 n] w fun e w' => ∃ d2, e = .returned (.pointer (some ⟨d2, 0, none⟩)) ∧ Two w0 w' d S d2 (DS.new n) [] :=
  (new_any n h1 h2 w).mono fun _ w' ⟨d2, F2, he, hd, hF, hb⟩ => by
    obtain ⟨F, h3, h4⟩ := hw
    refine ⟨d2, he, F, F2, h3.chg (F2 := []) (Chg.of_below hb []) (by simp), hd, fun k hk hm => ?_, below_trans h4.below hb, fun k hk => ?_, by simp⟩
    · have := h3.lt k hk
      have := hF k hm
      omega
    · rcases List.mem_append.1 hk with h7 | h7
      · exact h4.low k h7
      · exact Nat.le_trans h4.below.size (hF k h7)

section
variable {w : World} {d : Nat} {S : DS} {Q : World → DS → Prop}
theorem write_own (s : Int) (t : ByteArray) (h : Acc w d S Q) (hf : S.q.length < 1000000) :
    Calls Try.prog 13 #[.pointer (some ⟨d, 0, none⟩), .int .i64 s, .string t] w fun e w' => e = .returned (.int .i64 (S.write s t).1) ∧ Q w' (S.write s t).2 := by
  obtain ⟨F, h1, h2⟩ := h
  exact (write_any d S F s t w h1 hf).mono fun _ _ ⟨he, ht⟩ => ⟨he, h2 _ _ ht⟩
theorem read_own (s : Int) (h : Acc w d S Q) :
    Calls Try.prog 11 #[.pointer (some ⟨d, 0, none⟩), .int .i64 s] w fun e w' => e = .returned (.tuple #[.string (S.read s).1, .int .i64 (S.read s).2]) ∧ Q w' S := by
  obtain ⟨F, h1, h2⟩ := h
  exact (read_any d S F s w h1).mono fun _ _ ⟨he, ht⟩ => ⟨he, h2 _ _ (DkTo.of_chg h1 ht)⟩
theorem sync_own (h : Acc w d S Q) :
    Calls Try.prog 15 #[.pointer (some ⟨d, 0, none⟩)] w fun e w' => e = .returned (.int .i64 S.sync.1) ∧ Q w' S.sync.2 := by
  obtain ⟨F, h1, h2⟩ := h
  exact (sync_any d S F w h1).mono fun _ _ ⟨he, ht⟩ => ⟨he, h2 _ _ ht⟩
theorem fail_own (a b : Int) (h : Acc w d S Q) :
    Calls Try.prog 16 #[.pointer (some ⟨d, 0, none⟩), .int .i64 a, .int .i64 b] w fun e w' => e = .returned (.tuple #[]) ∧ Q w' (S.fail a b) := by
  obtain ⟨F, h1, h2⟩ := h
  exact (fail_any d S F a b w h1).mono fun _ _ ⟨he, ht⟩ => ⟨he, h2 _ _ ht⟩
theorem start_own (h : Acc w d S Q) :
    Calls Try.prog 17 #[.pointer (some ⟨d, 0, none⟩)] w fun e w' => e = .returned (.tuple #[]) ∧ Q w' S.start := by
  obtain ⟨F, h1, h2⟩ := h
  exact (start_any d S F w h1).mono fun _ _ ⟨he, ht⟩ => ⟨he, h2 _ _ ht⟩
theorem arm_own (a b c : Int) (h : Acc w d S Q) (ha : a ≤ 9223372036854775807) :
    Calls Try.prog 18 #[.pointer (some ⟨d, 0, none⟩), .int .i64 a, .int .i64 b, .int .i64 c] w fun e w' => e = .returned (.tuple #[]) ∧ Q w' (S.setArm a b c) := by
  obtain ⟨F, h1, h2⟩ := h
  exact (arm_any d S F a b c w h1 ha).mono fun _ _ ⟨he, ht⟩ => ⟨he, h2 _ _ ht⟩
theorem rot_own (a b c : Int) (h : Acc w d S Q) :
    Calls Try.prog 19 #[.pointer (some ⟨d, 0, none⟩), .int .i64 a, .int .i64 b, .int .i64 c] w fun e w' => e = .returned (.tuple #[]) ∧ Q w' (S.rot a b c) := by
  obtain ⟨F, h1, h2⟩ := h
  exact (rot_any d S F a b c w h1).mono fun _ _ ⟨he, ht⟩ => ⟨he, h2 _ _ ht⟩
theorem raw_own (h : Acc w d S Q) :
    Calls Try.prog 20 #[.pointer (some ⟨d, 0, none⟩)] w fun e w' => e = .returned (.string S.raw) ∧ w = w' := by
  obtain ⟨F, h1, h2⟩ := h
  exact raw_any d S F w h1
theorem do_own (a : AC) (h : Acc w d S Q) (ht : a.text.size ≤ 100) (ha : a.after ≤ 9223372036854775807) (hf : S.q.length < 1000000) :
    Calls Try.prog 9 #[.pointer (some ⟨d, 0, none⟩), a.val] w fun e w' => e = .returned (.tuple #[.string (S.act a).1.1, .int .i64 (S.act a).1.2]) ∧ Q w' (S.act a).2 := by
  obtain ⟨F, h1, h2⟩ := h
  exact (do_any d S F a w h1 ht ha hf).mono fun _ _ ⟨he, ht⟩ => ⟨he, h2 _ _ ht⟩
end

end Go.Proofs.Ytdbmimmfpglahaa
