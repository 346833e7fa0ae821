/- Several texts in one: Poly, Poly2, JoinL. Plain: what Join computes does not depend on the order of the shares. The map of the shares that were offered to a vault. Plain laws of the trees of layer 2. Plain laws of the links between trees. What a row's listed tables give a walk. Plain: the string of a share; what SharesCommit says of the strings that were digested. A region that draws its order, whose operations read blocks of the world and whose callees only make new memory: one walk in the order of the text. wp_region_below with what follows hidden behind a variable: many skipped operations in a row else make Lean unfold the region at each step (an expected type is put into weak head normal form). The string of a share, in the program and in the reference; the reference's Element, Valid. Layer 2: half, node, Leaf, total. Layer 2: total, proper, Root. Layer 2: pop, next, done; Check. -/
import Derived.Test.YtdlgejofggbifaaGreatDoorChTopBlindedB
import Derived.Maps.OwnOps
import Derived.Maps.OwnSet
import Derived.Maps.Views
import Derived.Test.YtdlgejofggbifaaGreatDoorRows
import Derived.ProofKit
import Derived.LaidMore
import Derived.Deep.QuietTactic
import Derived.Laws.EntriesVeiled
import Derived.StillTailTactics
namespace Go.Proofs.YtdlgejofggbifaaGreatDoor

section
section
abbrev F := Fin 2147483647

def phi (a : Int) : F := ⟨(a % 2147483647).toNat, by omega⟩

theorem phi_add (a b : Int) : phi (a + b) = phi a + phi b := by
  apply Fin.ext
  rw [Fin.val_add]
  simp only [phi]; omega
theorem phi_sub (a b : Int) : phi (a - b) = phi a - phi b := by
  have h : phi (a - b) + phi b = phi a := by rw [← phi_add]; congr 1; omega
  rw [← h]; grind
theorem phi_mul (a b : Int) : phi (a * b) = phi a * phi b := by
  apply Fin.ext
  rw [Fin.val_mul]
  simp only [phi]
  have h0 : 0 ≤ a % 2147483647 := by omega
  have h1 : 0 ≤ b % 2147483647 := by omega
  obtain ⟨m, hm⟩ := Int.eq_ofNat_of_zero_le h0
  obtain ⟨n, hn⟩ := Int.eq_ofNat_of_zero_le h1
  rw [Int.mul_emod, hm, hn]
  simp only [Int.toNat_natCast]
  omega
theorem phi_emod (a : Int) : phi (a % 2147483647) = phi a := by
  apply Fin.ext
  simp only [phi]; omega
theorem phi_p : phi 2147483647 = 0 := rfl
theorem phi_zero : phi 0 = 0 := rfl
theorem phi_one : phi 1 = 1 := rfl
theorem phi_inj {a b : Int} (ha : 0 ≤ a) (ha' : a < 2147483647) (hb : 0 ≤ b) (hb' : b < 2147483647) (h : phi a = phi b) : a = b := by
  have := congrArg Fin.val h
  simp only [phi] at this; omega
theorem phi_mns (a b : Int) : phi (mns a b) = phi a - phi b := by
  unfold mns
  rw [phi_emod, phi_add, phi_sub, phi_p]; grind

theorem phi_inv (a : Int) (h0 : 0 < a) (h1 : a < 2147483647) : phi (invp a) * phi a = 1 := by
  rw [← phi_mul, ← phi_emod, (invp_spec a h0 h1).2.2]; rfl

theorem phi_ne {a b : Int} (ha : 0 ≤ a) (ha' : a < 2147483647) (hb : 0 ≤ b) (hb' : b < 2147483647) (h : a ≠ b) : phi a ≠ phi b := fun e => h (phi_inj ha ha' hb hb' e)

theorem phi_surj (x : F) : ∃ a : Int, 0 ≤ a ∧ a < 2147483647 ∧ phi a = x :=
  ⟨(x.val : Int), by omega, by omega, by apply Fin.ext; simp only [phi]; omega⟩

/-- In the field: an element that isn't 0 has an inverse. -/
theorem f_inv (x : F) (h : x ≠ 0) : ∃ y : F, y * x = 1 := by
  obtain ⟨a, a0, a1, rfl⟩ := phi_surj x
  have : a ≠ 0 := fun e => h (by rw [e]; rfl)
  exact ⟨_, phi_inv a (by omega) a1⟩

theorem f_cancel (x y : F) (h : x ≠ 0) (e : x * y = 0) : y = 0 := by
  obtain ⟨z, hz⟩ := f_inv x h
  have : z * (x * y) = 0 := by rw [e]; grind
  have e2 : z * (x * y) = (z * x) * y := by grind
  rw [e2, hz] at this; grind

/-- The value of a polynomial, the constant first. -/
def ev : List F → F → F
  | [], _ => 0
  | c :: l, x => ev l x * x + c

theorem phi_evp (l : List Int) (x : Int) : phi (evp l x) = ev (l.map phi) (phi x) := by
  induction l with
  | nil => rfl
  | cons c l ih => rw [evp, phi_emod, phi_add, phi_mul, ih]; rfl

/-- Divided differences. -/
def dd : List F → List F → F
  | [], _ => 0
  | _ :: _, [] => 0
  | c :: l, [a] => c + a * dd l [a]
  | _ :: l, a :: b :: T => a * dd l (a :: b :: T) + dd l (b :: T)

theorem dd_nil (S : List F) : dd [] S = 0 := by cases S <;> rfl
theorem dd_none (cs : List F) : dd cs [] = 0 := by cases cs <;> rfl
theorem dd_one (cs : List F) (x : F) : dd cs [x] = ev cs x := by
  induction cs with
  | nil => rfl
  | cons c l ih => rw [dd, ih, ev]; grind

theorem dd_step (cs : List F) (a b : F) (T : List F) : (a - b) * dd cs (a :: b :: T) = dd cs (a :: T) - dd cs (b :: T) := by
  induction cs generalizing T with
  | nil => simp only [dd_nil]; grind
  | cons c l ih =>
    cases T with
    | nil => have := ih []; simp only [dd] at *; grind
    | cons t T => have := ih (t :: T); simp only [dd] at *; grind

theorem dd_swap (cs : List F) (a b : F) (T : List F) : dd cs (a :: b :: T) = dd cs (b :: a :: T) := by
  induction cs generalizing T with
  | nil => rfl
  | cons c l ih => have h1 := ih T; have h2 := dd_step l a b T; simp only [dd]; grind

theorem dd_perm {S S' : List F} (h : S.Perm S') : ∀ cs, dd cs S = dd cs S' := by
  induction h with
  | nil => intro cs; rfl
  | swap a b l => intro cs; exact dd_swap cs b a l
  | trans _ _ h1 h2 => intro cs; exact (h1 cs).trans (h2 cs)
  | @cons a S S' hp ih =>
    intro cs
    induction cs with
    | nil => simp only [dd_nil]
    | cons c l ihl =>
      cases S with
      | nil => rw [List.nil_perm.1 hp]
      | cons s S =>
        cases S' with
        | nil => exact absurd hp (by simp)
        | cons s' S' => simp only [dd]; rw [ihl, ih l]

theorem dd_long (cs S : List F) (h : cs.length < S.length) : dd cs S = 0 := by
  induction cs generalizing S with
  | nil => exact dd_nil S
  | cons c l ih =>
    match S, h with
    | [a], h => simp at h
    | a :: b :: T, h => simp only [dd]; rw [ih (a :: b :: T) (by simp at h ⊢; omega), ih (b :: T) (by simp at h ⊢; omega)]; grind

def prd (x : F) : List F → F
  | [] => 1
  | a :: l => (x - a) * prd x l

theorem prd_append (x : F) (l m : List F) : prd x (l ++ m) = prd x l * prd x m := by
  induction l with
  | nil => simp only [List.nil_append, prd]; grind
  | cons a l ih => simp only [List.cons_append, prd, ih]; grind
end

section
def nodes (ps : List (Int × Int)) (j k : Nat) : List F := ((ps.drop j).take k).map fun p => phi p.1

theorem nodes_cons (ps : List (Int × Int)) (j k : Nat) (p : Int × Int) (h : ps[j]? = some p) : nodes ps j (k + 1) = phi p.1 :: nodes ps (j + 1) k := by
  obtain ⟨hj, rfl⟩ := List.getElem?_eq_some_iff.1 h
  unfold nodes
  rw [List.drop_eq_getElem_cons hj]; rfl

theorem nodes_snoc (ps : List (Int × Int)) (j k : Nat) (p : Int × Int) (h : ps[j + k]? = some p) : nodes ps j (k + 1) = nodes ps j k ++ [phi p.1] := by
  unfold nodes
  rw [take_snoc (ps.drop j) k p (by rw [List.getElem?_drop]; exact h)]; simp

/-- The list of a slice of points: elements of the field, different places. -/
structure Good (ps : List (Int × Int)) : Prop where
  elems : ∀ p, p ∈ ps → elemB p.1 = true ∧ elemB p.2 = true
  nodup : (ps.map (·.1)).Nodup

theorem nev_alg (f x a b u vi vj m d1 d2 d3 : F) (hu : u * (a - b) = 1) (i1 : f - vi = (x - a) * m * d1) (i2 : f - vj = m * ((x - b) * 1) * d2) (h4 : (a - b) * d3 = d1 - d2) :
    f - ((x - b) * vi - (x - a) * vj) * u = (x - a) * (m * ((x - b) * 1)) * d3 := by
  have e1 : f - ((x - b) * vi - (x - a) * vj) * u = ((x - b) * (f - vi) - (x - a) * (f - vj)) * u + f * (1 - u * (a - b)) := by grind
  rw [e1, i1, i2, hu]
  have e2 : ((x - b) * ((x - a) * m * d1) - (x - a) * (m * ((x - b) * 1) * d2)) * u + f * (1 - 1) = (x - a) * m * (x - b) * u * (d1 - d2) := by grind
  rw [e2, ← h4]
  have e3 : (x - a) * m * (x - b) * u * ((a - b) * d3) = (x - a) * m * (x - b) * (u * (a - b)) * d3 := by grind
  rw [e3, hu]; grind

theorem neville (ps : List (Int × Int)) (hg : Good ps) (C : List F) (hC : ∀ p, p ∈ ps → phi p.2 = ev C (phi p.1)) (x : Int) :
    ∀ k j, j + k < ps.length → ev C (phi x) - phi (nv x ps k j) = prd (phi x) (nodes ps j (k + 1)) * dd C (nodes ps j (k + 1) ++ [phi x]) := by
  intro k
  induction k with
  | zero =>
    intro j hj
    obtain ⟨p, hp⟩ := get_some ps j (by omega)
    have h1 := hC p (List.mem_of_getElem? hp)
    have h2 := dd_step C (phi x) (phi p.1) []
    rw [nodes_cons ps j 0 p hp]
    simp only [nv, hp, Option.getD_some, nodes, List.take_zero, List.map_nil, List.cons_append, List.nil_append, prd]
    rw [dd_one, dd_one] at h2
    rw [h1, dd_swap]
    grind
  | succ k ih =>
    intro j hj
    obtain ⟨p, hp⟩ := get_some ps j (by omega)
    obtain ⟨q, hq⟩ := get_some ps (j + (k + 1)) (by omega)
    have i1 := ih j (by omega)
    have i2 := ih (j + 1) (by omega)
    have hne : p.1 ≠ q.1 := nodup_ne hg.nodup j (j + (k + 1)) _ _ (by simp [hp]) (by simp [hq]) (by omega)
    have hpe := (elemB_iff _).1 (hg.elems p (List.mem_of_getElem? hp)).1
    have hqe := (elemB_iff _).1 (hg.elems q (List.mem_of_getElem? hq)).1
    have hm := mns_range p.1 q.1
    have hmp := mns_pos p.1 q.1 hpe.1 hpe.2 hqe.1 hqe.2 hne
    have hu := phi_inv (mns p.1 q.1) hmp hm.2
    rw [phi_mns] at hu
    have hn : phi (nv x ps (k + 1) j) = ((phi x - phi q.1) * phi (nv x ps k j) - (phi x - phi p.1) * phi (nv x ps k (j + 1))) * phi (invp (mns p.1 q.1)) := by
      simp only [nv, hp, hq, Option.getD_some, nst]
      rw [phi_emod, phi_mul, phi_mns, phi_emod, phi_emod, phi_mul, phi_mul, phi_mns, phi_mns]
    rw [nodes_cons ps j k p hp] at i1
    rw [nodes_snoc ps (j + 1) k q (by rw [show j + 1 + k = j + (k + 1) by omega]; exact hq)] at i2
    have e3 : nodes ps j (k + 1 + 1) = phi p.1 :: (nodes ps (j + 1) k ++ [phi q.1]) := by
      rw [nodes_cons ps j (k + 1) p hp, nodes_snoc ps (j + 1) k q (by rw [show j + 1 + k = j + (k + 1) by omega]; exact hq)]
    rw [e3, hn]
    generalize nodes ps (j + 1) k = M at *
    have p1 : dd C (phi p.1 :: (M ++ [phi q.1]) ++ [phi x]) = dd C (phi p.1 :: phi q.1 :: (M ++ [phi x])) := by
      apply dd_perm
      rw [List.cons_append, List.append_assoc]
      exact List.Perm.cons _ (by simp)
    have p2 : dd C (M ++ [phi q.1] ++ [phi x]) = dd C (phi q.1 :: (M ++ [phi x])) := by
      apply dd_perm
      rw [List.append_assoc]
      simp
    have h4 := dd_step C (phi p.1) (phi q.1) (M ++ [phi x])
    rw [p1]
    rw [p2, prd_append] at i2
    simp only [prd, List.cons_append] at i1 i2 ⊢
    rw [prd_append]
    simp only [prd]
    exact nev_alg _ _ _ _ _ _ _ _ _ _ _ hu i1 i2 h4

/-- Interpolation through at least as many points of a polynomial as it has coefficients gives its values. -/
theorem nv_ev (ps : List (Int × Int)) (hg : Good ps) (C : List F) (hC : ∀ p, p ∈ ps → phi p.2 = ev C (phi p.1)) (x : Int) (hl : C.length ≤ ps.length) (h0 : 0 < ps.length) :
    phi (nv x ps (ps.length - 1) 0) = ev C (phi x) := by
  have h := neville ps hg C hC x (ps.length - 1) 0 (by omega)
  have hn : (nodes ps 0 (ps.length - 1 + 1)).length = ps.length := by
    unfold nodes
    rw [List.drop_zero, List.length_map, List.length_take]; omega
  rw [dd_long C _ (by rw [List.length_append, hn]; simp; omega)] at h
  grind

theorem nv_evp (ps : List (Int × Int)) (hg : Good ps) (c : List Int) (hC : ∀ p, p ∈ ps → p.2 = evp c p.1) (x : Int) (hl : c.length ≤ ps.length) (h0 : 0 < ps.length) :
    nv x ps (ps.length - 1) 0 = evp c x := by
  have h := nv_ev ps hg (c.map phi) (fun p hp => by rw [← phi_evp, ← hC p hp]) x (by simpa using hl) h0
  rw [← phi_evp] at h
  have r1 := nv_range x ps hg.elems (ps.length - 1) 0
  have r2 := evp_range c x
  exact phi_inj r1.1 r1.2 r2.1 r2.2 h

/-! ### interpolation exists -/
def addP : List F → List F → List F
  | [], m => m
  | a :: l, [] => a :: l
  | a :: l, b :: m => (a + b) :: addP l m
theorem ev_addP (l m : List F) (x : F) : ev (addP l m) x = ev l x + ev m x := by
  induction l generalizing m with
  | nil => simp only [addP, ev]; grind
  | cons a l ih =>
    cases m with
    | nil => simp only [addP, ev]; grind
    | cons b m => simp only [addP, ev, ih]; grind
theorem length_addP (l m : List F) (n : Nat) (h1 : l.length ≤ n) (h2 : m.length ≤ n) : (addP l m).length ≤ n := by
  induction l generalizing m n with
  | nil => exact h2
  | cons a l ih =>
    cases m with
    | nil => exact h1
    | cons b m =>
      cases n with
      | zero => simp at h1
      | succ n => simp only [addP, List.length_cons] at *; have := ih m n (by omega) (by omega); omega
theorem ev_smul (c : F) (l : List F) (x : F) : ev (l.map (c * ·)) x = c * ev l x := by
  induction l with
  | nil => simp only [List.map_nil, ev]; grind
  | cons a l ih => simp only [List.map_cons, ev, ih]; grind

/-- The polynomial that is zero at the nodes. -/
def zeroP : List F → List F
  | [] => [1]
  | a :: S => addP (0 :: zeroP S) ((zeroP S).map ((-a) * ·))
theorem ev_zeroP (S : List F) (x : F) : ev (zeroP S) x = prd x S := by
  induction S with
  | nil => simp only [zeroP, ev, prd]; grind
  | cons a S ih => simp only [zeroP, ev_addP, ev_smul, ev, ih, prd]; grind
theorem length_zeroP (S : List F) : (zeroP S).length ≤ S.length + 1 := by
  induction S with
  | nil => simp [zeroP]
  | cons a S ih =>
    simp only [zeroP, List.length_cons]
    exact length_addP _ _ _ (by simp; omega) (by simp; omega)
theorem prd_ne (x : F) (S : List F) (h : ∀ a, a ∈ S → x ≠ a) : prd x S ≠ 0 := by
  induction S with
  | nil => simp only [prd]; decide
  | cons a S ih =>
    intro e
    simp only [prd] at e
    have h1 : x - a ≠ 0 := fun h0 => h a (by simp) (by grind)
    exact ih (fun b hb => h b (by simp [hb])) (f_cancel _ _ h1 e)
theorem prd_zero (x : F) (S : List F) (h : x ∈ S) : prd x S = 0 := by
  induction S with
  | nil => cases h
  | cons a S ih =>
    simp only [prd]
    rcases List.mem_cons.1 h with rfl | h
    · grind
    · rw [ih h]; grind

theorem interp_exists (ps : List (F × F)) (hnd : (ps.map (·.1)).Nodup) : ∃ C : List F, C.length ≤ ps.length ∧ ∀ p, p ∈ ps → ev C p.1 = p.2 := by
  induction ps with
  | nil => exact ⟨[], by simp, by simp⟩
  | cons p ps ih =>
    rw [List.map_cons, List.nodup_cons] at hnd
    obtain ⟨C, hl, hC⟩ := ih hnd.2
    have hne : prd p.1 (ps.map (·.1)) ≠ 0 := prd_ne _ _ fun a ha e => hnd.1 (e ▸ ha)
    obtain ⟨u, hu⟩ := f_inv _ hne
    refine ⟨addP C ((zeroP (ps.map (·.1))).map (((p.2 - ev C p.1) * u) * ·)), length_addP _ _ _ (by simp; omega) (by have := length_zeroP (ps.map (·.1)); simp at this ⊢; omega), ?_⟩
    intro q hq
    rw [ev_addP, ev_smul, ev_zeroP]
    rcases List.mem_cons.1 hq with rfl | hq
    · grind
    · rw [hC q hq, prd_zero _ _ (List.mem_map_of_mem hq)]; grind
end

section
/-- A list of shares of the polynomial p at different places. -/
structure On (p : List Int) (l : List (Int × Int)) : Prop where
  place : ∀ s, s ∈ l → 1 ≤ s.1 ∧ s.1 ≤ 16
  value : ∀ s, s ∈ l → s.2 = evp p s.1
  nodup : (l.map (·.1)).Nodup

theorem On.valid {p : List Int} {l : List (Int × Int)} (h : On p l) : l.all validB = true := by
  rw [List.all_eq_true]
  intro s hs
  rw [validB_iff, elemB_iff, h.value s hs]
  have := h.place s hs
  have := evp_range p s.1
  omega

theorem good_of (l : List (Int × Int)) (hv : l.all validB = true) (hn : (l.map (·.1)).Nodup) : Good l :=
  ⟨fun s hs => by
    have := (validB_iff s).1 (List.all_eq_true.1 hv s hs)
    exact ⟨by rw [elemB_iff]; omega, this.2.2⟩, hn⟩

theorem Good.take {l : List (Int × Int)} (h : Good l) (n : Nat) : Good (l.take n) :=
  ⟨fun s hs => h.elems s (List.mem_of_mem_take hs), h.nodup.sublist ((List.take_sublist n l).map _)⟩

theorem On.good {p : List Int} {l : List (Int × Int)} (h : On p l) : Good l := good_of l h.valid h.nodup

theorem On.sublist {p : List Int} {l m : List (Int × Int)} (h : On p l) (hs : m.Sublist l) : On p m :=
  ⟨fun s hm => h.place s (hs.mem hm), fun s hm => h.value s (hs.mem hm), h.nodup.sublist (hs.map _)⟩

theorem On.nv_take {p : List Int} {l : List (Int × Int)} (h : On p l) (hp : p.length ≤ l.length) (h0 : 0 < l.length) (x : Int) : nv x l (l.length - 1) 0 = evp p x :=
  nv_evp l h.good p h.value x hp h0

/-- Enough shares are joined to the constant. -/
theorem joinF_on (p : List Int) (n : Nat) (l : List (Int × Int)) (h : On p l) (hn : 1 ≤ n) (hn' : n ≤ 16) (hp : p.length ≤ n) (hl : n ≤ l.length) : joinF l n = (evp p 0, 0) := by
  have ht : (l.take n).length = n := List.length_take_of_le hl
  have hv : ∀ x, nv x (l.take n) (n - 1) 0 = evp p x := by
    intro x
    have := (h.sublist (List.take_sublist n l)).nv_take (by omega) (by omega) x
    rwa [ht] at this
  rw [joinF_ok l n hn hn' h.valid h.nodup hl (fun s hs => by rw [hv, h.value s (List.mem_of_mem_drop hs)]), hv]

theorem joinF_on_few (p : List Int) (n : Nat) (l : List (Int × Int)) (h : On p l) (hn : 1 ≤ n) (hn' : n ≤ 16) (hl : l.length < n) : joinF l n = (0, 25) :=
  joinF_few l n (by omega) (by omega) h.valid h.nodup (by omega)

/-- More than enough shares, one of them with another value: ErrProof. -/
theorem joinF_on_wrong (p : List Int) (n : Nat) (l : List (Int × Int)) (h : On p l) (hn : 1 ≤ n) (hn' : n ≤ 16) (hp : p.length ≤ n) (hl : n < l.length)
    (k : Nat) (s : Int × Int) (hs : l[k]? = some s) (y : Int) (y0 : 0 ≤ y) (y1 : y < 2147483647) (hy : y ≠ s.2) : joinF (l.set k (s.1, y)) n = (0, 24) := by
  have hk : k < l.length := (List.getElem?_eq_some_iff.1 hs).1
  have hsm := List.mem_of_getElem? hs
  have hmap : (l.set k (s.1, y)).map (·.1) = l.map (·.1) := by
    apply List.ext_getElem?
    intro i
    by_cases hi : i = k
    · subst hi
      rw [List.getElem?_map, List.getElem?_map, hs, List.getElem?_set_self hk]; rfl
    · rw [List.getElem?_map, List.getElem?_map, List.getElem?_set_ne (fun e => hi e.symm)]
  have hv : (l.set k (s.1, y)).all validB = true := by
    rw [List.all_eq_true]
    intro t ht
    rcases List.mem_or_eq_of_mem_set ht with ht | rfl
    · exact List.all_eq_true.1 h.valid t ht
    · have hp := h.place s hsm
      rw [validB_iff, elemB_iff]; simp only; omega
  have hnd : ((l.set k (s.1, y)).map (·.1)).Nodup := by rw [hmap]; exact h.nodup
  have hg := good_of _ hv hnd
  have hlen : (l.set k (s.1, y)).length = l.length := by simp
  have hgk : (l.set k (s.1, y))[k]? = some (s.1, y) := by simp [hk]
  by_cases hall : ∀ t, t ∈ (l.set k (s.1, y)).drop n → nv t.1 ((l.set k (s.1, y)).take n) (n - 1) 0 = t.2
  · exfalso
    generalize hl' : l.set k (s.1, y) = l' at *
    have ht : (l'.take n).length = n := List.length_take_of_le (by omega)
    have hphi : (((l'.take n).map fun p => (phi p.1, phi p.2)).map (·.1)).Nodup := by
      have e : ((l'.take n).map fun p => (phi p.1, phi p.2)).map (·.1) = ((l'.take n).map (·.1)).map phi := by rw [List.map_map, List.map_map]; rfl
      rw [e]
      refine List.pairwise_map.2 (List.Pairwise.imp_of_mem ?_ (hg.take n).nodup)
      intro a b ha hb hab
      obtain ⟨pa, hpa, rfl⟩ := List.mem_map.1 ha
      obtain ⟨pb, hpb, rfl⟩ := List.mem_map.1 hb
      have r1 := (elemB_iff _).1 ((hg.take n).elems pa hpa).1
      have r2 := (elemB_iff _).1 ((hg.take n).elems pb hpb).1
      exact phi_ne r1.1 r1.2 r2.1 r2.2 hab
    obtain ⟨C, hCl, hC⟩ := interp_exists _ hphi
    have hCt : ∀ t, t ∈ l'.take n → phi t.2 = ev C (phi t.1) := fun t ht => (hC _ (List.mem_map_of_mem (f := fun p : Int × Int => (phi p.1, phi p.2)) ht)).symm
    have hnv : ∀ x, phi (nv x (l'.take n) (n - 1) 0) = ev C (phi x) := by
      intro x
      have := nv_ev (l'.take n) (hg.take n) C hCt x (by simpa using hCl) (by omega)
      rwa [ht] at this
    have hCall : ∀ t, t ∈ l' → phi t.2 = ev C (phi t.1) := by
      intro t ht'
      rw [← List.take_append_drop n l'] at ht'
      rcases List.mem_append.1 ht' with h1 | h1
      · exact hCt t h1
      · rw [← hnv, hall t h1]
    -- the others, which lie on p too
    have hsub : ((l'.eraseIdx k).take n).Sublist l' := (List.take_sublist _ _).trans (List.eraseIdx_sublist _ _)
    have hql : ((l'.eraseIdx k).take n).length = n := by
      rw [List.length_take_of_le]; rw [List.length_eraseIdx_of_lt (by omega)]; omega
    have hqon : ∀ t, t ∈ (l'.eraseIdx k).take n → t.2 = evp p t.1 := by
      intro t ht'
      have hm := List.mem_of_mem_take ht'
      obtain ⟨i, hi⟩ := List.getElem?_of_mem hm
      rw [List.getElem?_eraseIdx] at hi
      rw [← hl'] at hi
      split at hi
      · rw [List.getElem?_set_ne (by omega)] at hi
        exact h.value t (List.mem_of_getElem? hi)
      · rw [List.getElem?_set_ne (by omega)] at hi
        exact h.value t (List.mem_of_getElem? hi)
    have hqg : Good ((l'.eraseIdx k).take n) := ⟨fun t ht => hg.elems t (hsub.mem ht), hg.nodup.sublist (hsub.map _)⟩
    have h1 := nv_evp _ hqg p hqon s.1 (by omega) (by omega)
    have h2 := nv_ev _ hqg C (fun t ht => hCall t (hsub.mem ht)) s.1 (by rw [hql]; rw [List.length_map, ht] at hCl; exact hCl) (by omega)
    rw [h1] at h2
    have h3 := hCall (s.1, y) (List.mem_of_getElem? hgk)
    simp only at h3
    rw [← h2, ← h.value s hsm] at h3
    have hr := evp_range p s.1
    rw [← h.value s hsm] at hr
    exact hy (phi_inj y0 y1 hr.1 hr.2 h3)
  · obtain ⟨t, ht⟩ := Classical.not_forall.1 hall
    have ht1 : t ∈ (l.set k (s.1, y)).drop n := Classical.byContradiction fun e => ht fun h' => absurd h' e
    have ht2 : ¬ nv t.1 ((l.set k (s.1, y)).take n) (n - 1) 0 = t.2 := fun e => ht fun _ => e
    obtain ⟨i, hi⟩ := List.getElem?_of_mem ht1
    exact joinF_wrong _ n hn hn' hv hnd (by omega) i t hi ht2
end
end

section
open Go.RowKit

theorem good_phi {l : List (Int × Int)} (hg : Good l) : ((l.map fun p => (phi p.1, phi p.2)).map (·.1)).Nodup := by
  have e : (l.map fun p => (phi p.1, phi p.2)).map (·.1) = (l.map (·.1)).map phi := by rw [List.map_map, List.map_map]; rfl
  rw [e]
  refine List.pairwise_map.2 (List.Pairwise.imp_of_mem ?_ hg.nodup)
  intro a b ha hb hab
  obtain ⟨pa, hpa, rfl⟩ := List.mem_map.1 ha
  obtain ⟨pb, hpb, rfl⟩ := List.mem_map.1 hb
  have r1 := (elemB_iff _).1 (hg.elems pa hpa).1
  have r2 := (elemB_iff _).1 (hg.elems pb hpb).1
  exact phi_ne r1.1 r1.2 r2.1 r2.2 hab

/-- The shares lie on a polynomial of the field. -/
def OnC (C : List F) (l : List (Int × Int)) : Prop := ∀ s, s ∈ l → phi s.2 = ev C (phi s.1)

theorem onC_nv {l : List (Int × Int)} {n : Nat} (hg : Good l) (hn : 1 ≤ n) (hl : n ≤ l.length) {C : List F} (hC : C.length ≤ n) (h : OnC C (l.take n)) (x : Int) :
    phi (nv x (l.take n) (n - 1) 0) = ev C (phi x) := by
  have ht : (l.take n).length = n := List.length_take_of_le hl
  have := nv_ev (l.take n) (hg.take n) C h x (by omega) (by omega)
  rwa [ht] at this

theorem joinF_onC {l : List (Int × Int)} {n : Nat} (hv : l.all validB = true) (hnd : (l.map (·.1)).Nodup) (hn : 1 ≤ n) (hn' : n ≤ 16) (hl : n ≤ l.length) {C : List F} (hC : C.length ≤ n) (h : OnC C l) :
    joinF l n = (nv 0 (l.take n) (n - 1) 0, 0) := by
  have hg := good_of l hv hnd
  refine joinF_ok l n hn hn' hv hnd hl (fun s hs => ?_)
  have h1 := onC_nv hg hn hl hC (fun s hs => h s (List.mem_of_mem_take hs)) s.1
  have hsl := List.mem_of_mem_drop hs
  rw [← h s hsl] at h1
  have r1 := nv_range s.1 (l.take n) (hg.take n).elems (n - 1) 0
  have r2 := (elemB_iff _).1 (hg.elems s hsl).2
  exact phi_inj r1.1 r1.2 r2.1 r2.2 h1

theorem onC_of {l : List (Int × Int)} {n : Nat} (hg : Good l) (hn : 1 ≤ n) (hl : n ≤ l.length) (hw : ∀ s, s ∈ l.drop n → nv s.1 (l.take n) (n - 1) 0 = s.2) : ∃ C : List F, C.length ≤ n ∧ OnC C l := by
  obtain ⟨C, hCl, hC⟩ := interp_exists _ (good_phi (hg.take n))
  have hct : OnC C (l.take n) := fun t ht => (hC _ (List.mem_map_of_mem (f := fun p : Int × Int => (phi p.1, phi p.2)) ht)).symm
  have hcn : C.length ≤ n := by rw [List.length_map, List.length_take] at hCl; omega
  refine ⟨C, hcn, fun s hs => ?_⟩
  rw [← List.take_append_drop n l] at hs
  rcases List.mem_append.1 hs with h1 | h1
  · exact hct s h1
  · rw [← onC_nv hg hn hl hcn hct, hw s h1]

theorem joinF_perm {l m : List (Int × Int)} (h : l.Perm m) (need : Int) : joinF l need = joinF m need := by
  by_cases hneed : need < 1 ∨ 16 < need
  · rw [joinF_need l need hneed, joinF_need m need hneed]
  have hn1 : 1 ≤ need := by omega
  have hn16 : need ≤ 16 := by omega
  have hall : l.all validB = m.all validB := by
    rw [Bool.eq_iff_iff, List.all_eq_true, List.all_eq_true]
    exact ⟨fun k s hs => k s (h.mem_iff.2 hs), fun k s hs => k s (h.mem_iff.1 hs)⟩
  cases hv : l.all validB
  · rw [joinF_bad l need hn1 hn16 hv, joinF_bad m need hn1 hn16 (by rw [← hall]; exact hv)]
  have hv' : m.all validB = true := by rw [← hall]; exact hv
  have hnd : (l.map (·.1)).Nodup ↔ (m.map (·.1)).Nodup := (h.map _).nodup_iff
  by_cases hd : (l.map (·.1)).Nodup
  case neg => rw [joinF_dup l need hn1 hn16 hv hd, joinF_dup m need hn1 hn16 hv' (fun k => hd (hnd.2 k))]
  have hd' := hnd.1 hd
  have hlen := h.length_eq
  by_cases hfew : (l.length : Int) < need
  · rw [joinF_few l need hn1 hn16 hv hd hfew, joinF_few m need hn1 hn16 hv' hd' (by omega)]
  obtain ⟨n, rfl⟩ := Int.eq_ofNat_of_zero_le (show 0 ≤ need by omega)
  have hgl := good_of l hv hd
  have hgm := good_of m hv' hd'
  -- on one polynomial, in whatever order
  have key : ∀ (a b : List (Int × Int)), a.Perm b → a.all validB = true → b.all validB = true → (a.map (·.1)).Nodup → (b.map (·.1)).Nodup → n ≤ a.length → n ≤ b.length →
      (∀ s, s ∈ a.drop n → nv s.1 (a.take n) (n - 1) 0 = s.2) → joinF a n = joinF b n := by
    intro a b hab va vb da db la lb hw
    obtain ⟨C, hC, hon⟩ := onC_of (good_of a va da) (by omega) la hw
    have honb : OnC C b := fun s hs => hon s (hab.mem_iff.2 hs)
    rw [joinF_onC va da (by omega) (by omega) la hC hon, joinF_onC vb db (by omega) (by omega) lb hC honb]
    have h1 := onC_nv (good_of a va da) (by omega) la hC (fun s hs => hon s (List.mem_of_mem_take hs)) 0
    have h2 := onC_nv (good_of b vb db) (by omega) lb hC (fun s hs => honb s (List.mem_of_mem_take hs)) 0
    have r1 := nv_range 0 (a.take n) ((good_of a va da).take n).elems (n - 1) 0
    have r2 := nv_range 0 (b.take n) ((good_of b vb db).take n).elems (n - 1) 0
    rw [phi_inj r1.1 r1.2 r2.1 r2.2 (h1.trans h2.symm)]
  by_cases hw : ∀ s, s ∈ l.drop n → nv s.1 (l.take n) (n - 1) 0 = s.2
  · exact key l m h hv hv' hd hd' (by omega) (by omega) hw
  by_cases hw' : ∀ s, s ∈ m.drop n → nv s.1 (m.take n) (n - 1) 0 = s.2
  · exact (key m l h.symm hv' hv hd' hd (by omega) (by omega) hw').symm
  have bad : ∀ (a : List (Int × Int)), a.all validB = true → (a.map (·.1)).Nodup → n ≤ a.length → ¬ (∀ s, s ∈ a.drop n → nv s.1 (a.take n) (n - 1) 0 = s.2) → joinF a n = (0, 24) := by
    intro a va da la hno
    obtain ⟨t, ht⟩ := Classical.not_forall.1 hno
    have ht1 : t ∈ a.drop n := Classical.byContradiction fun e => ht fun h' => absurd h' e
    have ht2 : ¬ nv t.1 (a.take n) (n - 1) 0 = t.2 := fun e => ht fun _ => e
    obtain ⟨i, hi⟩ := List.getElem?_of_mem ht1
    exact joinF_wrong a n (by omega) (by omega) va da la i t hi ht2
  rw [bad l hv hd (by omega) hw, bad m hv' hd' (by omega) hw']
end

section
open Go.RowKit Go.Maps

def shD (a b : Int) : DataW Unit := .agg [.lit (.int .i64 a), .lit (.int .i64 b)]
def shR (v : Value) : Option (DataW Unit × List MemPlace) :=
  match v with
  | .agg ⟨[.int .i64 a, .int .i64 b]⟩ => some (shD a b, [])
  | _ => none
theorem shR_mk (a b : Int) : shR (.agg #[.int .i64 a, .int .i64 b]) = some (shD a b, []) := rfl
theorem shR_inv {v : Value} {a b : Int} {ps : List MemPlace} (h : shR v = some (shD a b, ps)) : v = .agg #[.int .i64 a, .int .i64 b] := by
  unfold shR at h
  split at h
  · next x y =>
    simp only [Option.some.injEq, Prod.mk.injEq, shD, DataW.agg.injEq, List.cons.injEq, DataW.lit.injEq, Lit.int.injEq, true_and, and_true] at h
    obtain ⟨⟨rfl, rfl⟩, -⟩ := h
    rfl
  · cases h

/-- The share with a given place, among those offered. -/
def fnd (S : List (Int × Int)) (y : Int) : Option (Int × Int) := S.find? (fun s => s.1 == y)
theorem fnd_none {S : List (Int × Int)} {y : Int} : fnd S y = none ↔ y ∉ S.map (·.1) := by
  unfold fnd
  rw [List.find?_eq_none]
  constructor
  · intro h hm
    obtain ⟨s, hs, rfl⟩ := List.mem_map.1 hm
    exact h s hs (by simp)
  · intro h s hs he
    exact h (List.mem_map.2 ⟨s, hs, by simpa using he⟩)
theorem fnd_some {S : List (Int × Int)} {y : Int} {s : Int × Int} (h : fnd S y = some s) : s ∈ S ∧ s.1 = y := by
  unfold fnd at h
  exact ⟨List.mem_of_find?_eq_some h, by have := List.find?_some h; simpa using this⟩
theorem fnd_snoc (S : List (Int × Int)) (s : Int × Int) (y : Int) : fnd (S ++ [s]) y = (fnd S y).or (if s.1 = y then some s else none) := by
  unfold fnd
  rw [List.find?_append]
  congr 1
  by_cases h : s.1 = y
  · rw [if_pos h]; simp [h]
  · rw [if_neg h]; simp [h]

def Offs (w : World) (B n : Nat) (S : List (Int × Int)) : Prop :=
  ∃ D : DataW Unit, w.ownsMap Tryz.prog 3 shR B n D ∧ IsMap D ∧ (∀ y : Int, Maps.has D (.int .i64 y) = (fnd S y).isSome) ∧ ∀ (y : Int) (z : DataW Unit), D.atKey (.int .i64 y) z = match fnd S y with | some s => shD s.1 s.2 | none => z

theorem intKeyedO : Keyed Tryz.prog 3 := int_keyed Tryz.underlying3

theorem Offs.made (w : World) : Offs (w.alloc (.map #[] 0)) w.heap.size 0 [] :=
  ⟨_, World.ownsMap_made _ _ _ _, ⟨[], rfl⟩, fun y => rfl, fun y z => rfl⟩
theorem Offs.kept {w w' : World} {B n : Nat} {S : List (Int × Int)} (h : Offs w B n S) (hb : w'.heap[B]? = w.heap[B]?) : Offs w' B n S := by
  obtain ⟨D, ⟨es, clock, h1, h2⟩, h3⟩ := h
  exact ⟨D, ⟨es, clock, hb.trans h1, h2⟩, h3⟩
theorem Offs.lt {w : World} {B n : Nat} {S : List (Int × Int)} (h : Offs w B n S) : B < w.heap.size := by
  obtain ⟨D, h1, _⟩ := h
  exact h1.lt
theorem Offs.below {w w' : World} {B n : Nat} {S : List (Int × Int)} (h : Offs w B n S) (hb : Below w.heap.size w w') : Offs w' B n S := h.kept (hb.block B h.lt)

theorem zeroShare (w : World) : (zeroValue 37).run Tryz.prog w = .ok (.agg #[.int .i64 0, .int .i64 0]) w := by kernel_rfl

set_option maxRecDepth 100000 in
theorem Offs.look {w : World} {B n : Nat} {S : List (Int × Int)} (h : Offs w B n S) (y : Int) (hy : (Lit.int .i64 y).wf = true) :
    (Instr.lookup 82 (.map (some B)) (.int .i64 y) true).run Tryz.prog w = .ok (.tuple #[match fnd S y with | some s => .agg #[.int .i64 s.1, .int .i64 s.2] | none => .agg #[.int .i64 0, .int .i64 0], .bool (fnd S y).isSome]) w := by
  obtain ⟨D, h1, h2, h3, h4⟩ := h
  obtain ⟨v, ps, hr, hv⟩ := h1.look_ok intKeyedO Tryz.underlying82 (zeroShare w) (shR_mk 0 0) (keyOf_int_mk Tryz.underlying3 hy)
  rw [h4] at hv
  rw [hr, h3]
  congr 4
  cases hf : fnd S y with
  | none => rw [hf] at hv; exact shR_inv hv
  | some s => rw [hf] at hv; exact shR_inv hv

set_option maxRecDepth 100000 in
theorem Offs.put {w : World} {B n : Nat} {S : List (Int × Int)} (h : Offs w B n S) (s : Int × Int) (hy : (Lit.int .i64 s.1).wf = true) (hn : n < 100000) (hno : fnd S s.1 = none) :
    ∃ w', (Instr.mapUpdate 82 (.map (some B)) (.int .i64 s.1) (.agg #[.int .i64 s.1, .int .i64 s.2])).run Tryz.prog w = .ok () w' ∧ Offs w' B (n + 1) (S ++ [s]) ∧ w.grownBy w' (some B) := by
  obtain ⟨D, h1, h2, h3, h4⟩ := h
  obtain ⟨w', hr, ho, hg⟩ := h1.update intKeyedO Tryz.underlying82 (by unfold maxLen; omega) (keyOf_int_mk Tryz.underlying3 hy) (shR_mk s.1 s.2)
  refine ⟨w', hr, ⟨_, ho, ?_, ?_, ?_⟩, hg⟩
  · obtain ⟨es, rfl⟩ := h2
    exact ⟨_, rfl⟩
  · intro y
    rw [fnd_snoc]
    by_cases hys : y = s.1
    · subst hys
      rw [has_put_same h2 (by trivial), hno]; simp
    · rw [has_put_other (by simpa using hys), h3 y, if_neg (fun e => hys e.symm), Option.or_none]
  · intro y z
    rw [fnd_snoc]
    by_cases hys : y = s.1
    · subst hys
      rw [atKey_put_same h2 (by trivial), hno]; simp
    · rw [atKey_put_other (by simpa using hys), h4 y z, if_neg (fun e => hys e.symm), Option.or_none]
end

section
open Go.RowKit

def bNode : ByteArray := ⟨#[110, 111, 100, 101]⟩
def bLeaf : ByteArray := ⟨#[108, 101, 97, 102]⟩
def bEmpty : ByteArray := ⟨#[101, 109, 112, 116, 121]⟩
/-- The joined text of a list. -/
def jb (l : List ByteArray) : ByteArray := ⟨(jn l).toArray⟩
def nd (a b : ByteArray) : ByteArray := dg (jb [bNode, a, b])
def lf (s : ByteArray) : ByteArray := dg (jb [bLeaf, s])
def em : ByteArray := dg (jb [bEmpty])

/-! ### half -/
def hf (n : Nat) : Nat := if n ≤ 1 then 1 else 2 ^ Nat.log2 (n - 1)
theorem hf_pos (n : Nat) : 1 ≤ hf n := by
  unfold hf; split
  · exact Nat.le_refl _
  · exact Nat.one_le_two_pow
theorem hf_lt (n : Nat) (h : 2 ≤ n) : hf n < n := by
  unfold hf
  rw [if_neg (by omega)]
  have := Nat.log2_self_le (n := n - 1) (by omega)
  omega
theorem hf_le (n : Nat) : n ≤ 2 * hf n := by
  unfold hf
  split
  · omega
  · have := Nat.lt_log2_self (n := n - 1)
    rw [Nat.pow_succ] at this
    omega
theorem hf_eq (n j : Nat) (h1 : 2 ^ j < n ∨ j = 0) (h2 : n ≤ 2 * 2 ^ j) : hf n = 2 ^ j := by
  unfold hf
  split
  · rcases h1 with h1 | rfl
    · have := Nat.one_le_two_pow (n := j); omega
    · rfl
  · rename_i hn
    congr 1
    apply (Nat.log2_eq_iff (by omega)).2
    rw [Nat.pow_succ]
    rcases h1 with h1 | rfl
    · omega
    · simp at h2 ⊢; omega
theorem hf_mid (n m : Nat) (h1 : hf n < m) (h2 : m ≤ n) : hf m = hf n := by
  have h3 := hf_le n
  have h4 : ∃ j, hf n = 2 ^ j := by
    unfold hf; split
    · exact ⟨0, rfl⟩
    · exact ⟨_, rfl⟩
  obtain ⟨j, hj⟩ := h4
  rw [hj] at h1 h3 ⊢
  exact hf_eq m j (.inl h1) (by omega)

/-! ### the root -/
def rt (l : List ByteArray) : ByteArray :=
  if _h : 2 ≤ l.length then nd (rt (l.take (hf l.length))) (rt (l.drop (hf l.length))) else l.headD em
termination_by l.length
decreasing_by
  all_goals
    have h1 := hf_lt l.length _h
    have h2 := hf_pos l.length
    simp only [List.length_take, List.length_drop]; omega
theorem rt_two (l : List ByteArray) (h : 2 ≤ l.length) : rt l = nd (rt (l.take (hf l.length))) (rt (l.drop (hf l.length))) := by rw [rt, dif_pos h]
theorem rt_one (x : ByteArray) : rt [x] = x := by rw [rt, dif_neg (by simp)]; rfl
theorem rt_nil : rt [] = em := by rw [rt, dif_neg (by simp)]; rfl
theorem rt_split (l : List ByteArray) (k : Nat) (h : 2 ≤ l.length) (hk : hf l.length = k) : rt l = nd (rt (l.take k)) (rt (l.drop k)) := by rw [rt_two l h, hk]

def allD (l : List ByteArray) : Bool := l.all isD
theorem allD_take {l : List ByteArray} (h : allD l = true) (k : Nat) : allD (l.take k) = true := by
  simp only [allD, List.all_eq_true] at h ⊢
  exact fun x hx => h x (List.mem_of_mem_take hx)
theorem allD_drop {l : List ByteArray} (h : allD l = true) (k : Nat) : allD (l.drop k) = true := by
  simp only [allD, List.all_eq_true] at h ⊢
  exact fun x hx => h x (List.mem_of_mem_drop hx)
theorem isD_nd (a b : ByteArray) : isD (nd a b) = true := isD_dg _
theorem isD_em : isD em = true := isD_dg _
theorem isD_rt (l : List ByteArray) (h : allD l = true) : isD (rt l) = true := by
  by_cases h2 : 2 ≤ l.length
  · rw [rt_two l h2]; exact isD_nd _ _
  · match l, h2 with
    | [], _ => rw [rt_nil]; exact isD_em
    | [x], _ => rw [rt_one]; simpa [allD] using h
    | x :: y :: l, h2 => simp at h2
theorem isD_16 {s : ByteArray} (h : isD s = true) : s.size = 16 := by
  rcases Nat.decEq s.size 16 with h2 | h2
  · exfalso
    simp [isD, h2] at h
  · exact h2

/-! ### the strings that are digested -/
def Col (T : List ByteArray) : Prop := ∃ x ∈ T, ∃ y ∈ T, x ≠ y ∧ dg x = dg y
theorem Col.mono {T U : List ByteArray} (h : Col T) (hs : ∀ x, x ∈ T → x ∈ U) : Col U := by
  obtain ⟨x, hx, y, hy, h⟩ := h
  exact ⟨x, hs x hx, y, hs y hy, h⟩
def txt (l : List ByteArray) : List ByteArray :=
  if _h : 2 ≤ l.length then txt (l.take (hf l.length)) ++ txt (l.drop (hf l.length)) ++ [jb [bNode, rt (l.take (hf l.length)), rt (l.drop (hf l.length))]]
  else if l.length = 0 then [jb [bEmpty]] else []
termination_by l.length
decreasing_by
  all_goals
    have h1 := hf_lt l.length _h
    have h2 := hf_pos l.length
    simp only [List.length_take, List.length_drop]; omega
theorem txt_two (l : List ByteArray) (h : 2 ≤ l.length) : txt l = txt (l.take (hf l.length)) ++ txt (l.drop (hf l.length)) ++ [jb [bNode, rt (l.take (hf l.length)), rt (l.drop (hf l.length))]] := by rw [txt, dif_pos h]
theorem txt_one (x : ByteArray) : txt [x] = [] := by rw [txt, dif_neg (by simp), if_neg (by simp)]
theorem txt_nil : txt [] = [jb [bEmpty]] := by rw [txt, dif_neg (by simp), if_pos (by simp)]

theorem jb_inj {l m : List ByteArray} (h : jb l = jb m) : l = m := (jn_ba l m).1 h
/-- Two nodes with one digest: their parts are equal, or their strings collide. -/
theorem nd_bind (a b c d : ByteArray) (T : List ByteArray) (h : nd a b = nd c d) (h1 : jb [bNode, a, b] ∈ T) (h2 : jb [bNode, c, d] ∈ T) : (a = c ∧ b = d) ∨ Col T := by
  by_cases e : jb [bNode, a, b] = jb [bNode, c, d]
  · have := jb_inj e
    simp only [List.cons.injEq, and_true, true_and] at this
    exact .inl this
  · exact .inr ⟨_, h1, _, h2, e, h⟩

theorem roots_bind (a b : List ByteArray) (hl : a.length = b.length) (h : rt a = rt b) : a = b ∨ Col (txt a ++ txt b) := by
  obtain ⟨n, hn⟩ : ∃ n, a.length = n := ⟨_, rfl⟩
  induction n using Nat.strongRecOn generalizing a b with
  | _ n ih =>
    by_cases h2 : 2 ≤ a.length
    · have hb2 : 2 ≤ b.length := by omega
      obtain ⟨k, hk⟩ : ∃ k, hf a.length = k := ⟨_, rfl⟩
      have hkb : hf b.length = k := by rw [← hl]; exact hk
      have k1 := hf_lt a.length h2
      have k2 := hf_pos a.length
      rw [rt_two a h2, rt_two b hb2, hk, hkb] at h
      rw [txt_two a h2, txt_two b hb2, hk, hkb]
      rcases nd_bind _ _ _ _ _ h (List.mem_append.2 (.inl (List.mem_append.2 (.inr List.mem_cons_self)))) (List.mem_append.2 (.inr (List.mem_append.2 (.inr List.mem_cons_self)))) with ⟨e1, e2⟩ | hc
      · rcases ih (a.take k).length (by rw [List.length_take]; omega) (a.take k) (b.take k) (by rw [List.length_take, List.length_take]; omega) e1 rfl with f1 | hc
        · rcases ih (a.drop k).length (by rw [List.length_drop]; omega) (a.drop k) (b.drop k) (by rw [List.length_drop, List.length_drop]; omega) e2 rfl with f2 | hc
          · left
            rw [← List.take_append_drop k a, f1, f2, List.take_append_drop]
          · right
            exact hc.mono (fun x hx => by simp only [List.mem_append] at hx ⊢; rcases hx with hx | hx <;> simp [hx])
        · right
          exact hc.mono (fun x hx => by simp only [List.mem_append] at hx ⊢; rcases hx with hx | hx <;> simp [hx])
      · exact .inr hc
    · match a, b, hl, h2, h with
      | [], [], _, _, _ => exact .inl rfl
      | [x], [y], _, _, h => rw [rt_one, rt_one] at h; exact .inl (by rw [h])
      | x :: y :: l, _, _, h2, _ => simp at h2
      | [], y :: m, hl, _, _ => simp at hl
      | [x], y :: z :: m, hl, _, _ => simp at hl
      | [x], [], hl, _, _ => simp at hl

/-! ### paths -/
def pt (l : List ByteArray) (i : Nat) : List ByteArray :=
  if _h : 2 ≤ l.length then
    if i < hf l.length then pt (l.take (hf l.length)) i ++ [rt (l.drop (hf l.length))] else pt (l.drop (hf l.length)) (i - hf l.length) ++ [rt (l.take (hf l.length))]
  else []
termination_by l.length
decreasing_by
  all_goals
    have h1 := hf_lt l.length _h
    have h2 := hf_pos l.length
    simp only [List.length_take, List.length_drop]; omega
theorem pt_lt (l : List ByteArray) (i : Nat) (h : 2 ≤ l.length) (hi : i < hf l.length) : pt l i = pt (l.take (hf l.length)) i ++ [rt (l.drop (hf l.length))] := by rw [pt, dif_pos h, if_pos hi]
theorem pt_ge (l : List ByteArray) (i : Nat) (h : 2 ≤ l.length) (hi : ¬ i < hf l.length) : pt l i = pt (l.drop (hf l.length)) (i - hf l.length) ++ [rt (l.take (hf l.length))] := by rw [pt, dif_pos h, if_neg hi]
theorem pt_one (l : List ByteArray) (i : Nat) (h : ¬ 2 ≤ l.length) : pt l i = [] := by rw [pt, dif_neg h]

def plen (n i : Nat) : Nat := if _h : 2 ≤ n then 1 + (if i < hf n then plen (hf n) i else plen (n - hf n) (i - hf n)) else 0
termination_by n
decreasing_by
  all_goals
    have h1 := hf_lt n _h
    have h2 := hf_pos n
    omega
theorem plen_lt (n i : Nat) (h : 2 ≤ n) (hi : i < hf n) : plen n i = 1 + plen (hf n) i := by rw [plen, dif_pos h, if_pos hi]
theorem plen_ge (n i : Nat) (h : 2 ≤ n) (hi : ¬ i < hf n) : plen n i = 1 + plen (n - hf n) (i - hf n) := by rw [plen, dif_pos h, if_neg hi]
theorem plen_one (n i : Nat) (h : ¬ 2 ≤ n) : plen n i = 0 := by rw [plen, dif_neg h]

def upv (n i : Nat) (s : ByteArray) (p : List ByteArray) : ByteArray :=
  if _h : 2 ≤ n then
    if i < hf n then nd (upv (hf n) i s p.dropLast) (p.getLastD ByteArray.empty) else nd (p.getLastD ByteArray.empty) (upv (n - hf n) (i - hf n) s p.dropLast)
  else s
termination_by n
decreasing_by
  all_goals
    have h1 := hf_lt n _h
    have h2 := hf_pos n
    omega
theorem upv_lt (n i : Nat) (s : ByteArray) (p : List ByteArray) (h : 2 ≤ n) (hi : i < hf n) : upv n i s p = nd (upv (hf n) i s p.dropLast) (p.getLastD ByteArray.empty) := by rw [upv, dif_pos h, if_pos hi]
theorem upv_ge (n i : Nat) (s : ByteArray) (p : List ByteArray) (h : 2 ≤ n) (hi : ¬ i < hf n) : upv n i s p = nd (p.getLastD ByteArray.empty) (upv (n - hf n) (i - hf n) s p.dropLast) := by rw [upv, dif_pos h, if_neg hi]
theorem upv_one (n i : Nat) (s : ByteArray) (p : List ByteArray) (h : ¬ 2 ≤ n) : upv n i s p = s := by rw [upv, dif_neg h]

def ptx (n i : Nat) (s : ByteArray) (p : List ByteArray) : List ByteArray :=
  if _h : 2 ≤ n then
    if i < hf n then ptx (hf n) i s p.dropLast ++ [jb [bNode, upv (hf n) i s p.dropLast, p.getLastD ByteArray.empty]]
    else ptx (n - hf n) (i - hf n) s p.dropLast ++ [jb [bNode, p.getLastD ByteArray.empty, upv (n - hf n) (i - hf n) s p.dropLast]]
  else []
termination_by n
decreasing_by
  all_goals
    have h1 := hf_lt n _h
    have h2 := hf_pos n
    omega
theorem ptx_lt (n i : Nat) (s : ByteArray) (p : List ByteArray) (h : 2 ≤ n) (hi : i < hf n) : ptx n i s p = ptx (hf n) i s p.dropLast ++ [jb [bNode, upv (hf n) i s p.dropLast, p.getLastD ByteArray.empty]] := by rw [ptx, dif_pos h, if_pos hi]
theorem ptx_ge (n i : Nat) (s : ByteArray) (p : List ByteArray) (h : 2 ≤ n) (hi : ¬ i < hf n) : ptx n i s p = ptx (n - hf n) (i - hf n) s p.dropLast ++ [jb [bNode, p.getLastD ByteArray.empty, upv (n - hf n) (i - hf n) s p.dropLast]] := by rw [ptx, dif_pos h, if_neg hi]
theorem ptx_one (n i : Nat) (s : ByteArray) (p : List ByteArray) (h : ¬ 2 ≤ n) : ptx n i s p = [] := by rw [ptx, dif_neg h]

theorem pt_len (l : List ByteArray) (i : Nat) : (pt l i).length = plen l.length i := by
  obtain ⟨n, hn⟩ : ∃ n, l.length = n := ⟨_, rfl⟩
  induction n using Nat.strongRecOn generalizing l i with
  | _ n ih =>
    by_cases h : 2 ≤ l.length
    · have k1 := hf_lt l.length h
      have k2 := hf_pos l.length
      by_cases hi : i < hf l.length
      · have e : (l.take (hf l.length)).length = hf l.length := by rw [List.length_take]; omega
        rw [pt_lt l i h hi, plen_lt _ i h hi, List.length_append, ih _ (by rw [e]; omega) _ i rfl, e, List.length_singleton]; omega
      · have e : (l.drop (hf l.length)).length = l.length - hf l.length := by rw [List.length_drop]
        rw [pt_ge l i h hi, plen_ge _ i h hi, List.length_append, ih _ (by rw [e]; omega) _ _ rfl, e, List.length_singleton]; omega
    · rw [pt_one l i h, plen_one _ i h]; rfl
theorem pt_up (l : List ByteArray) (i : Nat) (s : ByteArray) (hs : l[i]? = some s) : upv l.length i s (pt l i) = rt l := by
  obtain ⟨n, hn⟩ : ∃ n, l.length = n := ⟨_, rfl⟩
  induction n using Nat.strongRecOn generalizing l i with
  | _ n ih =>
    by_cases h : 2 ≤ l.length
    · have k1 := hf_lt l.length h
      have k2 := hf_pos l.length
      rw [rt_two l h]
      by_cases hi : i < hf l.length
      · have e : (l.take (hf l.length)).length = hf l.length := by rw [List.length_take]; omega
        have := ih _ (by rw [e]; omega) (l.take (hf l.length)) i (by rw [List.getElem?_take, if_pos hi, hs]) rfl
        rw [e] at this
        rw [upv_lt _ _ _ _ h hi, pt_lt l i h hi, List.dropLast_concat, List.getLastD_concat, this]
      · have e : (l.drop (hf l.length)).length = l.length - hf l.length := by rw [List.length_drop]
        have := ih _ (by rw [e]; omega) (l.drop (hf l.length)) (i - hf l.length) (by rw [List.getElem?_drop, ← hs]; congr 1; omega) rfl
        rw [e] at this
        rw [upv_ge _ _ _ _ h hi, pt_ge l i h hi, List.dropLast_concat, List.getLastD_concat, this]
    · rw [upv_one _ _ _ _ h]
      match l, h, i, hs with
      | [], _, i, hs => simp at hs
      | [x], _, 0, hs => rw [rt_one]; simpa using hs.symm
      | [x], _, i + 1, hs => simp at hs
      | x :: y :: l, h, _, _ => simp at h
theorem path_bind (l : List ByteArray) (i : Nat) (s t : ByteArray) (p : List ByteArray) (ht : l[i]? = some t) (h : upv l.length i s p = rt l) : s = t ∨ Col (txt l ++ ptx l.length i s p) := by
  obtain ⟨n, hn⟩ : ∃ n, l.length = n := ⟨_, rfl⟩
  induction n using Nat.strongRecOn generalizing l i p with
  | _ n ih =>
    by_cases h2 : 2 ≤ l.length
    · have k1 := hf_lt l.length h2
      have k2 := hf_pos l.length
      rw [rt_two l h2] at h
      rw [txt_two l h2]
      by_cases hi : i < hf l.length
      · have e : (l.take (hf l.length)).length = hf l.length := by rw [List.length_take]; omega
        rw [upv_lt _ _ _ _ h2 hi] at h
        rw [ptx_lt _ _ _ _ h2 hi]
        rcases nd_bind _ _ _ _ _ h (List.mem_append.2 (.inr (List.mem_append.2 (.inr List.mem_cons_self)))) (List.mem_append.2 (.inl (List.mem_append.2 (.inr List.mem_cons_self)))) with ⟨e1, _⟩ | hc
        · rcases ih _ (by rw [e]; omega) (l.take (hf l.length)) i p.dropLast (by rw [List.getElem?_take, if_pos hi, ht]) (by rw [e]; exact e1) rfl with hh | hc
          · exact .inl hh
          · right
            rw [e] at hc
            exact hc.mono (fun x hx => by simp only [List.mem_append] at hx ⊢; rcases hx with hx | hx <;> simp [hx])
        · exact .inr hc
      · have e : (l.drop (hf l.length)).length = l.length - hf l.length := by rw [List.length_drop]
        rw [upv_ge _ _ _ _ h2 hi] at h
        rw [ptx_ge _ _ _ _ h2 hi]
        rcases nd_bind _ _ _ _ _ h (List.mem_append.2 (.inr (List.mem_append.2 (.inr List.mem_cons_self)))) (List.mem_append.2 (.inl (List.mem_append.2 (.inr List.mem_cons_self)))) with ⟨_, e1⟩ | hc
        · rcases ih _ (by rw [e]; omega) (l.drop (hf l.length)) (i - hf l.length) p.dropLast (by rw [List.getElem?_drop, ← ht]; congr 1; omega) (by rw [e]; exact e1) rfl with hh | hc
          · exact .inl hh
          · right
            rw [e] at hc
            exact hc.mono (fun x hx => by simp only [List.mem_append] at hx ⊢; rcases hx with hx | hx <;> simp [hx])
        · exact .inr hc
    · rw [upv_one _ _ _ _ h2] at h
      left
      match l, h2, i, ht, h with
      | [], _, i, hs, _ => simp at hs
      | [x], _, 0, hs, h => rw [rt_one] at h; rw [h]; simpa using hs
      | [x], _, i + 1, hs, _ => simp at hs
      | x :: y :: l, h2, _, _, _ => simp at h2
end

section
open Go.RowKit

/-! ### links: m of the n first elements, 1 ≤ m ≤ n -/
def lk (l : List ByteArray) (m : Nat) (whole : Bool) : List ByteArray :=
  if _h : m < l.length ∧ 2 ≤ l.length then
    if m ≤ hf l.length then lk (l.take (hf l.length)) m whole ++ [rt (l.drop (hf l.length))] else lk (l.drop (hf l.length)) (m - hf l.length) false ++ [rt (l.take (hf l.length))]
  else if whole then [] else [rt l]
termination_by l.length
decreasing_by
  all_goals
    have h1 := hf_lt l.length _h.2
    have h2 := hf_pos l.length
    simp only [List.length_take, List.length_drop]; omega
theorem lk_end (l : List ByteArray) (m : Nat) (whole : Bool) (h : ¬ m < l.length) : lk l m whole = if whole then [] else [rt l] := by rw [lk, dif_neg (fun e => h e.1)]
theorem lk_le (l : List ByteArray) (m : Nat) (whole : Bool) (h1 : m < l.length) (h2 : 2 ≤ l.length) (h : m ≤ hf l.length) : lk l m whole = lk (l.take (hf l.length)) m whole ++ [rt (l.drop (hf l.length))] := by rw [lk, dif_pos ⟨h1, h2⟩, if_pos h]
theorem lk_gt (l : List ByteArray) (m : Nat) (whole : Bool) (h1 : m < l.length) (h2 : 2 ≤ l.length) (h : ¬ m ≤ hf l.length) : lk l m whole = lk (l.drop (hf l.length)) (m - hf l.length) false ++ [rt (l.take (hf l.length))] := by rw [lk, dif_pos ⟨h1, h2⟩, if_neg h]

def llen (n m : Nat) (whole : Bool) : Nat :=
  if _h : m < n ∧ 2 ≤ n then 1 + (if m ≤ hf n then llen (hf n) m whole else llen (n - hf n) (m - hf n) false) else if whole then 0 else 1
termination_by n
decreasing_by
  all_goals
    have h1 := hf_lt n _h.2
    have h2 := hf_pos n
    omega
theorem llen_end (n m : Nat) (whole : Bool) (h : ¬ m < n) : llen n m whole = if whole then 0 else 1 := by rw [llen, dif_neg (fun e => h e.1)]
theorem llen_le (n m : Nat) (whole : Bool) (h1 : m < n) (h2 : 2 ≤ n) (h : m ≤ hf n) : llen n m whole = 1 + llen (hf n) m whole := by rw [llen, dif_pos ⟨h1, h2⟩, if_pos h]
theorem llen_gt (n m : Nat) (whole : Bool) (h1 : m < n) (h2 : 2 ≤ n) (h : ¬ m ≤ hf n) : llen n m whole = 1 + llen (n - hf n) (m - hf n) false := by rw [llen, dif_pos ⟨h1, h2⟩, if_neg h]

def bothv (n m : Nat) (whole : Bool) (old : ByteArray) (p : List ByteArray) : ByteArray × ByteArray :=
  if _h : m < n ∧ 2 ≤ n then
    if m ≤ hf n then ((bothv (hf n) m whole old p.dropLast).1, nd (bothv (hf n) m whole old p.dropLast).2 (p.getLastD ByteArray.empty))
    else (nd (p.getLastD ByteArray.empty) (bothv (n - hf n) (m - hf n) false old p.dropLast).1, nd (p.getLastD ByteArray.empty) (bothv (n - hf n) (m - hf n) false old p.dropLast).2)
  else if whole then (old, old) else (p.getLastD ByteArray.empty, p.getLastD ByteArray.empty)
termination_by n
decreasing_by
  all_goals
    have h1 := hf_lt n _h.2
    have h2 := hf_pos n
    omega
theorem bothv_end (n m : Nat) (whole : Bool) (old : ByteArray) (p : List ByteArray) (h : ¬ m < n) : bothv n m whole old p = if whole then (old, old) else (p.getLastD ByteArray.empty, p.getLastD ByteArray.empty) := by rw [bothv, dif_neg (fun e => h e.1)]
theorem bothv_le (n m : Nat) (whole : Bool) (old : ByteArray) (p : List ByteArray) (h1 : m < n) (h2 : 2 ≤ n) (h : m ≤ hf n) :
    bothv n m whole old p = ((bothv (hf n) m whole old p.dropLast).1, nd (bothv (hf n) m whole old p.dropLast).2 (p.getLastD ByteArray.empty)) := by rw [bothv, dif_pos ⟨h1, h2⟩, if_pos h]
theorem bothv_gt (n m : Nat) (whole : Bool) (old : ByteArray) (p : List ByteArray) (h1 : m < n) (h2 : 2 ≤ n) (h : ¬ m ≤ hf n) :
    bothv n m whole old p = (nd (p.getLastD ByteArray.empty) (bothv (n - hf n) (m - hf n) false old p.dropLast).1, nd (p.getLastD ByteArray.empty) (bothv (n - hf n) (m - hf n) false old p.dropLast).2) := by rw [bothv, dif_pos ⟨h1, h2⟩, if_neg h]

def ltx (n m : Nat) (whole : Bool) (old : ByteArray) (p : List ByteArray) : List ByteArray :=
  if _h : m < n ∧ 2 ≤ n then
    if m ≤ hf n then ltx (hf n) m whole old p.dropLast ++ [jb [bNode, (bothv (hf n) m whole old p.dropLast).2, p.getLastD ByteArray.empty]]
    else ltx (n - hf n) (m - hf n) false old p.dropLast ++ [jb [bNode, p.getLastD ByteArray.empty, (bothv (n - hf n) (m - hf n) false old p.dropLast).1]] ++ [jb [bNode, p.getLastD ByteArray.empty, (bothv (n - hf n) (m - hf n) false old p.dropLast).2]]
  else []
termination_by n
decreasing_by
  all_goals
    have h1 := hf_lt n _h.2
    have h2 := hf_pos n
    omega
theorem ltx_end (n m : Nat) (whole : Bool) (old : ByteArray) (p : List ByteArray) (h : ¬ m < n) : ltx n m whole old p = [] := by rw [ltx, dif_neg (fun e => h e.1)]
theorem ltx_le (n m : Nat) (whole : Bool) (old : ByteArray) (p : List ByteArray) (h1 : m < n) (h2 : 2 ≤ n) (h : m ≤ hf n) :
    ltx n m whole old p = ltx (hf n) m whole old p.dropLast ++ [jb [bNode, (bothv (hf n) m whole old p.dropLast).2, p.getLastD ByteArray.empty]] := by rw [ltx, dif_pos ⟨h1, h2⟩, if_pos h]
theorem ltx_gt (n m : Nat) (whole : Bool) (old : ByteArray) (p : List ByteArray) (h1 : m < n) (h2 : 2 ≤ n) (h : ¬ m ≤ hf n) :
    ltx n m whole old p = ltx (n - hf n) (m - hf n) false old p.dropLast ++ [jb [bNode, p.getLastD ByteArray.empty, (bothv (n - hf n) (m - hf n) false old p.dropLast).1]] ++ [jb [bNode, p.getLastD ByteArray.empty, (bothv (n - hf n) (m - hf n) false old p.dropLast).2]] := by rw [ltx, dif_pos ⟨h1, h2⟩, if_neg h]

theorem lk_len (l : List ByteArray) (m : Nat) (whole : Bool) (hm : 1 ≤ m) : (lk l m whole).length = llen l.length m whole := by
  obtain ⟨n, hn⟩ : ∃ n, l.length = n := ⟨_, rfl⟩
  induction n using Nat.strongRecOn generalizing l m whole with
  | _ n ih =>
    by_cases h : m < l.length
    · have h2 : 2 ≤ l.length := by omega
      have k1 := hf_lt l.length h2
      have k2 := hf_pos l.length
      have e : (l.take (hf l.length)).length = hf l.length := by rw [List.length_take]; omega
      have e2 : (l.drop (hf l.length)).length = l.length - hf l.length := by rw [List.length_drop]
      by_cases hm2 : m ≤ hf l.length
      · rw [lk_le _ _ _ h h2 hm2, llen_le _ _ _ h h2 hm2, List.length_append, ih _ (by rw [e]; omega) _ m whole hm rfl, e, List.length_singleton]; omega
      · rw [lk_gt _ _ _ h h2 hm2, llen_gt _ _ _ h h2 hm2, List.length_append, ih _ (by rw [e2]; omega) _ _ false (by omega) rfl, e2, List.length_singleton]; omega
    · rw [lk_end _ _ _ h, llen_end _ _ _ h]
      cases whole <;> rfl

/-- The root of the first m, as the tree of all parts them. -/
theorem rt_gt (l : List ByteArray) (m : Nat) (hm : ¬ m ≤ hf l.length) (h : m ≤ l.length) : rt (l.take m) = nd (rt (l.take (hf l.length))) (rt ((l.drop (hf l.length)).take (m - hf l.length))) := by
  have k2 := hf_pos l.length
  have e : (l.take m).length = m := by rw [List.length_take]; omega
  have e2 : hf (l.take m).length = hf l.length := by rw [e]; exact hf_mid _ _ (by omega) h
  rw [rt_split (l.take m) (hf l.length) (by rw [e]; omega) e2, List.take_take, List.drop_take]
  congr 2
  congr 1
  omega
theorem rt_le (l : List ByteArray) (m : Nat) (hm : m ≤ hf l.length) : (l.take (hf l.length)).take m = l.take m := by
  rw [List.take_take]; congr 1; omega

theorem link_both (l : List ByteArray) (m : Nat) (whole : Bool) (old : ByteArray) (hm : 1 ≤ m) (hml : m ≤ l.length) (ho : whole = true → old = rt (l.take m)) : bothv l.length m whole old (lk l m whole) = (rt (l.take m), rt l) := by
  obtain ⟨n, hn⟩ : ∃ n, l.length = n := ⟨_, rfl⟩
  induction n using Nat.strongRecOn generalizing l m whole with
  | _ n ih =>
    by_cases h : m < l.length
    · have h2 : 2 ≤ l.length := by omega
      have k1 := hf_lt l.length h2
      have k2 := hf_pos l.length
      have e : (l.take (hf l.length)).length = hf l.length := by rw [List.length_take]; omega
      have e2 : (l.drop (hf l.length)).length = l.length - hf l.length := by rw [List.length_drop]
      by_cases hm2 : m ≤ hf l.length
      · have := ih _ (by rw [e]; omega) (l.take (hf l.length)) m whole hm (by omega) (by rw [rt_le l m hm2]; exact ho) rfl
        rw [e, rt_le l m hm2] at this
        rw [lk_le _ _ _ h h2 hm2, bothv_le _ _ _ _ _ h h2 hm2, List.dropLast_concat, List.getLastD_concat, this, ← rt_two l h2]
      · have := ih _ (by rw [e2]; omega) (l.drop (hf l.length)) (m - hf l.length) false (by omega) (by omega) (by simp) rfl
        rw [e2] at this
        rw [lk_gt _ _ _ h h2 hm2, bothv_gt _ _ _ _ _ h h2 hm2, List.dropLast_concat, List.getLastD_concat, this, ← rt_two l h2, ← rt_gt l m hm2 hml]
    · have e : l.take m = l := List.take_of_length_le (by omega)
      rw [lk_end _ _ _ h, bothv_end _ _ _ _ _ h, e]
      rw [e] at ho
      cases whole
      · rfl
      · rw [if_pos rfl, ho rfl]

theorem link_bind (l : List ByteArray) (m : Nat) (whole : Bool) (old x : ByteArray) (p : List ByteArray) (hm : 1 ≤ m) (hml : m ≤ l.length) (h : bothv l.length m whole old p = (x, rt l)) : x = rt (l.take m) ∨ Col (txt l ++ ltx l.length m whole old p) := by
  obtain ⟨n, hn⟩ : ∃ n, l.length = n := ⟨_, rfl⟩
  induction n using Nat.strongRecOn generalizing l m whole p x with
  | _ n ih =>
    by_cases hlt : m < l.length
    · have h2 : 2 ≤ l.length := by omega
      have k1 := hf_lt l.length h2
      have k2 := hf_pos l.length
      have e : (l.take (hf l.length)).length = hf l.length := by rw [List.length_take]; omega
      have e2 : (l.drop (hf l.length)).length = l.length - hf l.length := by rw [List.length_drop]
      rw [txt_two l h2]
      by_cases hm2 : m ≤ hf l.length
      · rw [bothv_le _ _ _ _ _ hlt h2 hm2, rt_two l h2, Prod.mk.injEq] at h
        rw [ltx_le _ _ _ _ _ hlt h2 hm2]
        rcases nd_bind _ _ _ _ _ h.2 (List.mem_append.2 (.inr (List.mem_append.2 (.inr List.mem_cons_self)))) (List.mem_append.2 (.inl (List.mem_append.2 (.inr List.mem_cons_self)))) with ⟨e1, _⟩ | hc
        · have := ih _ (by rw [e]; omega) (l.take (hf l.length)) m whole x p.dropLast hm (by omega) (by rw [e, ← e1, ← h.1]) rfl
          rw [rt_le l m hm2, e] at this
          rcases this with hh | hc
          · exact .inl hh
          · exact .inr (hc.mono (fun x hx => by simp only [List.mem_append] at hx ⊢; rcases hx with hx | hx <;> simp [hx]))
        · exact .inr hc
      · rw [bothv_gt _ _ _ _ _ hlt h2 hm2, rt_two l h2, Prod.mk.injEq] at h
        rw [ltx_gt _ _ _ _ _ hlt h2 hm2]
        rcases nd_bind _ _ _ _ _ h.2 (List.mem_append.2 (.inr (List.mem_append.2 (.inr List.mem_cons_self)))) (List.mem_append.2 (.inl (List.mem_append.2 (.inr List.mem_cons_self)))) with ⟨e0, e1⟩ | hc
        · have := ih _ (by rw [e2]; omega) (l.drop (hf l.length)) (m - hf l.length) false (bothv (l.length - hf l.length) (m - hf l.length) false old p.dropLast).1 p.dropLast (by omega) (by omega) (by rw [e2, ← e1]) rfl
          rw [e2] at this
          rcases this with hh | hc
          · left
            rw [← h.1, e0, hh, ← rt_gt l m hm2 hml]
          · exact .inr (hc.mono (fun x hx => by simp only [List.mem_append] at hx ⊢; rcases hx with hx | hx <;> simp [hx]))
        · exact .inr hc
    · have e : l.take m = l := List.take_of_length_le (by omega)
      rw [bothv_end _ _ _ _ _ hlt] at h
      rw [e]
      left
      cases whole
      · simp only [Bool.false_eq_true, if_false, Prod.mk.injEq] at h; rw [← h.1, h.2]
      · simp only [if_true, Prod.mk.injEq] at h; rw [← h.1, h.2]

/-! ### lengths -/
def bdig (n : Nat) : Nat := if n = 0 then 0 else 1 + bdig (n / 2)
theorem bdig_pos (n : Nat) (h : 0 < n) : bdig n = 1 + bdig (n / 2) := by rw [bdig, if_neg (by omega)]
theorem bdig_pow (n j : Nat) (h : 2 ^ j ≤ n) : j + 1 ≤ bdig n := by
  induction j generalizing n with
  | zero => rw [bdig_pos n (by simp at h; omega)]; omega
  | succ j ih =>
    have h0 : 0 < n := by have := Nat.one_le_two_pow (n := j + 1); omega
    rw [bdig_pos n h0]
    have := ih (n / 2) (by rw [Nat.pow_succ] at h; omega)
    omega
theorem hf_pow (n : Nat) : ∃ j, hf n = 2 ^ j := by
  unfold hf; split
  · exact ⟨0, rfl⟩
  · exact ⟨_, rfl⟩
/-- A tree of n ≤ 2^j elements has paths of at most j. -/
theorem plen_pow (j n i : Nat) (h : n ≤ 2 ^ j) : plen n i ≤ j := by
  induction j generalizing n i with
  | zero => rw [plen_one n i (by simp at h; omega)]; exact Nat.zero_le _
  | succ j ih =>
    by_cases h2 : 2 ≤ n
    · have k1 := hf_lt n h2
      have k2 := hf_le n
      obtain ⟨a, ha⟩ := hf_pow n
      rw [Nat.pow_succ] at h
      have h3 : hf n ≤ 2 ^ j := by
        rw [ha] at k1 ⊢
        apply Nat.pow_le_pow_right (by decide)
        have : 2 ^ a < 2 ^ (j + 1) := by rw [Nat.pow_succ]; omega
        have := (Nat.pow_lt_pow_iff_right (by decide : 1 < 2)).1 this
        omega
      by_cases hi : i < hf n
      · rw [plen_lt n i h2 hi]; have := ih (hf n) i h3; omega
      · rw [plen_ge n i h2 hi]; have := ih (n - hf n) (i - hf n) (by omega); omega
    · rw [plen_one n i h2]; exact Nat.zero_le _
theorem llen_pow (j n m : Nat) (w : Bool) (h : n ≤ 2 ^ j) (hm : 1 ≤ m) : llen n m w ≤ j + 1 := by
  induction j generalizing n m w with
  | zero =>
    rw [llen_end n m w (by simp at h; omega)]; split <;> omega
  | succ j ih =>
    by_cases hl : m < n
    · have h2 : 2 ≤ n := by omega
      have k1 := hf_lt n h2
      have k2 := hf_le n
      obtain ⟨a, ha⟩ := hf_pow n
      rw [Nat.pow_succ] at h
      have h3 : hf n ≤ 2 ^ j := by
        rw [ha] at k1 ⊢
        apply Nat.pow_le_pow_right (by decide)
        have : 2 ^ a < 2 ^ (j + 1) := by rw [Nat.pow_succ]; omega
        have := (Nat.pow_lt_pow_iff_right (by decide : 1 < 2)).1 this
        omega
      by_cases hi : m ≤ hf n
      · rw [llen_le n m w hl h2 hi]; have := ih (hf n) m w h3 hm; omega
      · rw [llen_gt n m w hl h2 hi]; have := ih (n - hf n) (m - hf n) false (by omega) (by omega); omega
    · rw [llen_end n m w hl]; split <;> omega
theorem le_bdig (n : Nat) (h : 1 ≤ n) : ∃ j, n ≤ 2 ^ j ∧ j ≤ bdig n := by
  induction n using Nat.strongRecOn with
  | _ n ih =>
    by_cases h1 : n = 1
    · exact ⟨0, by omega, Nat.zero_le _⟩
    · obtain ⟨j, h2, h3⟩ := ih (n / 2) (by omega) (by omega)
      by_cases he : n % 2 = 0
      · exact ⟨j + 1, by rw [Nat.pow_succ]; omega, by rw [bdig_pos n (by omega)]; omega⟩
      · rcases Nat.lt_or_ge (n / 2) (2 ^ j) with h4 | h4
        · exact ⟨j + 1, by rw [Nat.pow_succ]; omega, by rw [bdig_pos n (by omega)]; omega⟩
        · have h5 : n / 2 = 2 ^ j := by omega
          have h6 := bdig_pow (n / 2) j (by omega)
          exact ⟨j + 2, by rw [Nat.pow_succ, Nat.pow_succ]; omega, by rw [bdig_pos n (by omega)]; omega⟩
theorem plen_bdig (n i : Nat) (h : 1 ≤ n) : plen n i ≤ bdig n := by
  obtain ⟨j, h1, h2⟩ := le_bdig n h
  exact Nat.le_trans (plen_pow j n i h1) h2
theorem llen_bdig (n m : Nat) (w : Bool) (h : 1 ≤ n) (hm : 1 ≤ m) : llen n m w ≤ bdig n + 1 := by
  obtain ⟨j, h1, h2⟩ := le_bdig n h
  exact Nat.le_trans (llen_pow j n m w h1 hm) (by omega)
theorem plen_zero (n i : Nat) : plen n i = 0 ↔ ¬ 2 ≤ n := by
  constructor
  · intro h h2
    by_cases hi : i < hf n
    · rw [plen_lt n i h2 hi] at h; omega
    · rw [plen_ge n i h2 hi] at h; omega
  · exact plen_one n i
theorem llen_zero (n m : Nat) (hm : 1 ≤ m) : llen n m true = 0 ↔ ¬ m < n := by
  constructor
  · intro h h2
    have h3 : 2 ≤ n := by omega
    by_cases hi : m ≤ hf n
    · rw [llen_le n m true h2 h3 hi] at h; omega
    · rw [llen_gt n m true h2 h3 hi] at h; omega
  · intro h; rw [llen_end n m true h]; rfl
end

section
open Go.RowKit

theorem laid_tab {P : Program} {W : World} {name : String} {k : IntKind} {zs : List Int} {g t e n : Nat} (hg : P.globalNamed name = some g) (hty : (P.globals[g]?).map (·.type) = some t) (ht : P.underlying t = some (.array n e)) (he : P.underlying e = some (.int k)) (hce : P.cellsOf e = 1) (hct : P.cellsOf t = n) :
    ∀ (laid : List (String × DataW Unit)) (ps : List MemPlace), DataW.LaidVars P W laid ps → (name, Go.Lib.tabData k zs) ∈ laid → Go.Lib.TabIs P W name k zs := by
  intro laid
  induction laid with
  | nil => intro ps _ h; cases h
  | cons x r ih =>
    intro ps h hm
    obtain ⟨nm, d⟩ := x
    obtain ⟨g', t', cs, fuel, p, q, hg', ht', hvar, hd, hr, _⟩ := h
    rcases List.mem_cons.1 hm with h1 | h1
    · injection h1 with h2 h3
      subst h2
      subst h3
      obtain rfl := Option.some.inj (hg.symm.trans hg')
      obtain rfl := Option.some.inj (hty.symm.trans ht')
      unfold Go.Lib.TabIs
      rw [hvar, ← Go.Lib.cells_of_tab ht he hce hct hd]
    · exact ih q hr h1

def tab64z : List Int := [0, 1, 56, 2, 57, 49, 28, 3, 61, 58, 42, 50, 38, 29, 17, 4, 62, 47, 59, 36, 45, 43, 51, 22, 53, 39, 33, 30, 24, 18, 12, 5, 63, 55, 48, 27, 60, 41, 37, 16, 46, 35, 44, 21, 52, 32, 23, 11, 54, 26, 40, 15, 34, 20, 31, 10, 25, 14, 19, 9, 13, 8, 7, 6]

theorem tabs_of {laid : List (String × DataW Unit)} {W : World} (h : laidMetH Tryz.prog laid W) (hp : (laid.all fun x => x.2.handleName?.isNone) = true)
    (h1 : ("math/bits.deBruijn64tab", (Rows.laid_math_bits_deBruijn64tab : DataW Unit)) ∈ laid) (h2 : ("internal/strconv.uint64pow10", (Rows.laid_internal_strconv_uint64pow10 : DataW Unit)) ∈ laid) : Tabs W := by
  rw [MakeChecks.laidMetH_plain _ _ _ hp] at h
  obtain ⟨ps, hl, _⟩ := h
  have e1 : (Rows.laid_math_bits_deBruijn64tab : DataW Unit) = Go.Lib.tabData .u8 tab64z := by rfl
  have e2 : (Rows.laid_internal_strconv_uint64pow10 : DataW Unit) = Go.Lib.tabData .u64 Go.Lib.pow10Tab := by rfl
  rw [e1] at h1
  rw [e2] at h2
  have g1 : Tryz.prog.globalNamed "math/bits.deBruijn64tab" = some 7 := by kernel_rfl
  have g2 : Tryz.prog.globalNamed "internal/strconv.uint64pow10" = some 4 := by kernel_rfl
  have k1 := laid_tab g1 (t := 195) (by kernel_rfl) Tryz.underlying195 Tryz.underlying5 (by kernel_rfl) (by kernel_rfl) laid ps hl h1
  have k2 := laid_tab g2 (t := 186) (by kernel_rfl) Tryz.underlying186 Tryz.underlying109 (by kernel_rfl) (by kernel_rfl) laid ps hl h2
  exact ⟨k1.cell g1 15 (by decide), k2⟩
end

section
open Go.RowKit

def bSp : ByteArray := ⟨#[32]⟩
def shT (s : Int × Int) : ByteArray := dec s.1.toNat ++ bSp ++ dec s.2.toNat
def shLf (s : Int × Int) : ByteArray := lf (shT s)
def shJ (s : Int × Int) : ByteArray := jb [bLeaf, shT s]

theorem dd_no32 (n : Nat) : ∀ c ∈ Go.Lib.decDigits n, c ≠ 32 := by
  induction n using Nat.strongRecOn with
  | _ n ih =>
    intro c hc
    rw [Go.Lib.decDigits] at hc
    have key : ∀ d, d < 10 → UInt8.ofNat (48 + d) ≠ 32 := by decide
    split at hc
    · next h => rw [List.mem_singleton.1 hc]; exact key n h
    · next h =>
      rcases List.mem_append.1 hc with h1 | h1
      · exact ih (n / 10) (by omega) c h1
      · rw [List.mem_singleton.1 h1]; exact key (n % 10) (by omega)
theorem cut_eq32 (p q X Y : List UInt8) (hp : ∀ c ∈ p, c ≠ 32) (hq : ∀ c ∈ q, c ≠ 32) (h : p ++ 32 :: X = q ++ 32 :: Y) : p = q ∧ X = Y := by
  induction p generalizing q with
  | nil =>
    cases q with
    | nil => exact ⟨rfl, by simpa using h⟩
    | cons c q =>
      simp only [List.nil_append, List.cons_append, List.cons.injEq] at h
      exact absurd h.1.symm (hq c List.mem_cons_self)
  | cons c p ih =>
    cases q with
    | nil =>
      simp only [List.nil_append, List.cons_append, List.cons.injEq] at h
      exact absurd h.1 (hp c List.mem_cons_self)
    | cons d q =>
      simp only [List.cons_append, List.cons.injEq] at h
      obtain ⟨h1, h2⟩ := ih q (fun x hx => hp x (List.mem_cons_of_mem _ hx)) (fun x hx => hq x (List.mem_cons_of_mem _ hx)) h.2
      exact ⟨by rw [h.1, h1], h2⟩

theorem shT_inj (s t : Int × Int) (hs : 0 ≤ s.1 ∧ 0 ≤ s.2) (ht : 0 ≤ t.1 ∧ 0 ≤ t.2) (h : shT s = shT t) : s = t := by
  have e : ∀ u : Int × Int, (shT u).data.toList = Go.Lib.decDigits u.1.toNat ++ 32 :: Go.Lib.decDigits u.2.toNat := fun u => by
    simp [shT, dec, bSp]
  have h1 := congrArg (fun x : ByteArray => x.data.toList) h
  simp only [e] at h1
  obtain ⟨h2, h3⟩ := cut_eq32 _ _ _ _ (dd_no32 _) (dd_no32 _) h1
  have h4 := dd_inj h2
  have h5 := dd_inj h3
  exact Prod.ext (by omega) (by omega)

theorem shT_size (s : Int × Int) (h1 : s.1 ≤ 16) (h2 : s.2 < 2147483647) : (shT s).size ≤ 60 := by
  have a1 := dec_len s.1.toNat 9 (by omega)
  have a2 := dec_len s.2.toNat 9 (by omega)
  have e : (shT s).size = (Go.Lib.decDigits s.1.toNat).length + 1 + (Go.Lib.decDigits s.2.toNat).length := by
    simp [shT, dec, bSp]
    show _ = _
    rfl
  omega

theorem commit_col (L : List (Int × Int)) (j : Nat) (s t : Int × Int) (p : List ByteArray) (hs : 0 ≤ s.1 ∧ 0 ≤ s.2) (ht : 0 ≤ t.1 ∧ 0 ≤ t.2) (hj : L[j]? = some t) (hne : s ≠ t)
    (h : upv L.length j (shLf s) p = rt (L.map shLf)) : Col (L.map shJ ++ txt (L.map shLf) ++ [shJ s] ++ ptx L.length j (shLf s) p) := by
  have hb := path_bind (L.map shLf) j (shLf s) (shLf t) p (by rw [List.getElem?_map, hj]; rfl) (by rw [List.length_map]; exact h)
  rw [List.length_map] at hb
  rcases hb with hb | hb
  · refine ⟨shJ s, ?_, shJ t, ?_, ?_, hb⟩
    · exact List.mem_append.2 (.inl (List.mem_append.2 (.inr List.mem_cons_self)))
    · exact List.mem_append.2 (.inl (List.mem_append.2 (.inl (List.mem_append.2 (.inl (List.mem_map.2 ⟨t, List.mem_of_getElem? hj, rfl⟩))))))
    · intro e
      have e1 := jb_inj e
      simp only [List.cons.injEq, and_true, true_and] at e1
      exact hne (shT_inj s t hs ht e1)
  · exact hb.mono fun x hx => by
      rcases List.mem_append.1 hx with h1 | h1
      · exact List.mem_append.2 (.inl (List.mem_append.2 (.inl (List.mem_append.2 (.inr h1)))))
      · exact List.mem_append.2 (.inr h1)
end

section
open Go.RowKit

/-- The class: whatever new memory lies behind that of w. -/
theorem wp_region_below {P : Program} {id : Nat} {Q : Exit → Act → World → Prop} {a : Act} {w : World} {l : List Oper} (hm : P.follows .mixedOrders = true) (hB : Region.lexB .any l.toArray = true)
    (h : wpQuiet P l.toArray (fun W => Below w.heap.size w W) (fun a' => ∀ W, Below w.heap.size w W → Q .normal a' W) l a) : (Code.region id l.toArray true).wp P Q a w :=
  wp_region_quiet (C := fun W => Below w.heap.size w W) hm hB (Below.drew (Below.refl _ _)) (by simpa using h)

theorem quiet_op {P : Program} {ops : Array Oper} {C : World → Prop} {Q : Act → Prop} {a : Act} {o : Oper} {rest : List Oper} (v : Value) (hw : Region.wanted o (yielded ops a.tmps) = true)
    (h1 : ∀ W, C W → o.quietAt P a C W v) (h2 : wpQuiet P ops C Q rest (a.put o.dst v)) : wpQuiet P ops C Q (o :: rest) a := by
  unfold wpQuiet
  rw [if_pos hw]
  exact ⟨v, h1, h2⟩
theorem quiet_none {P : Program} {ops : Array Oper} {C : World → Prop} {Q : Act → Prop} {a : Act} {o : Oper} {rest : List Oper} (hw : Region.wanted o (yielded ops a.tmps) = false)
    (h2 : wpQuiet P ops C Q rest (a.put o.dst undef)) : wpQuiet P ops C Q (o :: rest) a := by
  unfold wpQuiet
  rw [if_neg (by simp [hw])]
  exact h2
end

section
open Go.RowKit

def QStep (WQ : Program → Array Oper → (World → Prop) → (Act → Prop) → List Oper → Act → Prop) : Prop :=
  ∀ (P : Program) (ops : Array Oper) (C : World → Prop) (Q : Act → Prop) (a : Act) (o : Oper) (rest : List Oper),
    (∀ K : Act → Prop, (∀ a, WQ P ops C Q rest a → K a) → if Region.wanted o (yielded ops a.tmps) then o.quiet P a C K else K (a.put o.dst undef)) → WQ P ops C Q (o :: rest) a
def QNil (WQ : Program → Array Oper → (World → Prop) → (Act → Prop) → List Oper → Act → Prop) : Prop :=
  ∀ (P : Program) (ops : Array Oper) (C : World → Prop) (Q : Act → Prop) (a : Act), Q a → WQ P ops C Q [] a

theorem QStep.go {WQ : Program → Array Oper → (World → Prop) → (Act → Prop) → List Oper → Act → Prop} (h : QStep WQ) {P : Program} {ops : Array Oper} {C : World → Prop} {Q : Act → Prop} {a : Act} {o : Oper} {rest : List Oper}
    (hk : ∀ K : Act → Prop, (∀ a, WQ P ops C Q rest a → K a) → if Region.wanted o (yielded ops a.tmps) then o.quiet P a C K else K (a.put o.dst undef)) : WQ P ops C Q (o :: rest) a := h P ops C Q a o rest hk
theorem QNil.go {WQ : Program → Array Oper → (World → Prop) → (Act → Prop) → List Oper → Act → Prop} (h : QNil WQ) {P : Program} {ops : Array Oper} {C : World → Prop} {Q : Act → Prop} {a : Act} (hq : Q a) : WQ P ops C Q [] a := h P ops C Q a hq

theorem wp_region_belowC {P : Program} {id : Nat} {Q : Exit → Act → World → Prop} {a : Act} {w : World} {l : List Oper} (hm : P.follows .mixedOrders = true) (hB : Region.lexB .any l.toArray = true)
    (h : ∀ WQ, QStep WQ → QNil WQ → WQ P l.toArray (fun W => Below w.heap.size w W) (fun a' => ∀ W, Below w.heap.size w W → Q .normal a' W) l a) : (Code.region id l.toArray true).wp P Q a w :=
  wp_region_below hm hB (h wpQuiet (fun _ _ _ _ _ _ _ hk => wpQuiet_step hk) (fun _ _ _ _ _ hq => wpQuiet_nil hq))
end

section
open Go.RowKit

theorem dec_size (n : Nat) (h : n ≤ 9223372036854775807) : (dec n).size ≤ 19 := by
  have := dec_len n 18 (by omega)
  have e : (dec n).size = (Go.Lib.decDigits n).length := rfl
  omega

theorem relement_any (a : Int) (w : World) :
    Calls Tryz.prog 43 #[.int .i64 a] w fun e w' => e = .returned (.bool (elemB a)) ∧ w = w' := by
  by_cases h0 : 0 ≤ a
  · by_cases h1 : a < 2147483647
    · go_enter Tryz.func43, Tryz.ntmps43
      go_wp2
      go_ret
      exact ⟨by simp [elemB, h0, h1], rfl⟩
    · go_enter Tryz.func43, Tryz.ntmps43
      go_wp2
      go_ret
      exact ⟨by simp [elemB, h0, h1], rfl⟩
  · go_enter Tryz.func43, Tryz.ntmps43
    go_wp2
    go_ret
    exact ⟨by simp [elemB]; omega, rfl⟩

theorem rvalid_any (x y : Int) (w : World) :
    Calls Tryz.prog 54 #[.agg #[.int .i64 x, .int .i64 y]] w fun e w' => e = .returned (.bool (validB (x, y))) ∧ w.alloc (.cells #[.int .i64 x, .int .i64 y] 37) = w' := by
  by_cases h0 : 1 ≤ x
  · by_cases h1 : x ≤ 16
    · go_enter Tryz.func54, Tryz.ntmps54
      go_wp2_with (go_at_call 43; refine (relement_any _ _).mono ?_; rintro e w' ⟨rfl, rfl⟩)
      go_ret
      exact ⟨ret_bool (by simp [validB, h0, h1]), rfl⟩
    · go_enter Tryz.func54, Tryz.ntmps54
      go_wp2
      go_ret
      exact ⟨ret_bool (by simp [validB]; omega), rfl⟩
  · go_enter Tryz.func54, Tryz.ntmps54
    go_wp2
    go_ret
    exact ⟨ret_bool (by simp [validB]; omega), rfl⟩
set_option maxHeartbeats 4000000 in
theorem stext_any (s : Int × Int) (w : World) (h1 : 0 ≤ s.1 ∧ s.1 ≤ 9223372036854775807) (h2 : 0 ≤ s.2 ∧ s.2 ≤ 9223372036854775807) (hT : Tabs w) :
    Calls Tryz.prog 52 #[.agg #[.int .i64 s.1, .int .i64 s.2]] w fun e w' => e = .returned (.string (shT s)) ∧ Below w.heap.size w w' := by
  obtain ⟨x, y⟩ := s
  simp only at h1 h2 ⊢
  obtain ⟨X, rfl⟩ : ∃ X : Nat, x = X := ⟨x.toNat, by omega⟩
  obtain ⟨Y, rfl⟩ : ∃ Y : Nat, y = Y := ⟨y.toNat, by omega⟩
  have hsh : shT ((X : Int), (Y : Int)) = dec X ++ ⟨#[32]⟩ ++ dec Y := by
    unfold shT bSp
    rw [Int.toNat_natCast, Int.toNat_natCast]
  rw [hsh]
  obtain ⟨w0, hw0⟩ : ∃ w0, w.alloc (.cells #[.int .i64 (X : Int), .int .i64 (Y : Int)] 37) = w0 := ⟨_, rfl⟩
  have HB0 : Hid (Below w.heap.size w w0) := Lib.hid (by rw [← hw0]; exact below_alloc (Below.refl _ _) _)
  have HK : Hid (∀ W, Below w0.heap.size w0 W → W.cell? ⟨w.heap.size, 0, none⟩ = some (.int .i64 (X : Int)) ∧ W.cell? ⟨w.heap.size, 1, none⟩ = some (.int .i64 (Y : Int))) := Lib.hid (fun W hW => by
    have hb : Blk w0 w.heap.size 37 #[.int .i64 (X : Int), .int .i64 (Y : Int)] := by rw [← hw0]; exact Blk.new w _ _ _ rfl
    exact ⟨kept_cell hW (hb.of_cell rfl), kept_cell hW (hb.of_cell rfl)⟩)
  have HD : Hid (∀ (n : Nat) (W : World), n ≤ 9223372036854775807 → Below w.heap.size w W → Calls Tryz.prog 80 #[.int .i64 (n : Int)] W fun e w' => e = .returned (.string (dec n)) ∧ Below W.heap.size W w') := Lib.hid (fun n W h hW => itoa_any n h W (hT.below hW))
  have HDX := Lib.hid (fun W (hW : Below w0.heap.size w0 W) => (HD.out X W (by omega) (below_trans HB0.out hW)).mono fun _ _ ⟨he, hb⟩ => (⟨he, below_trans hW hb⟩ : _ ∧ Below w0.heap.size w0 _))
  have HDY := Lib.hid (fun W (hW : Below w0.heap.size w0 W) => (HD.out Y W (by omega) (below_trans HB0.out hW)).mono fun _ _ ⟨he, hb⟩ => (⟨he, below_trans hW hb⟩ : _ ∧ Below w0.heap.size w0 _))
  have z1 := dec_size X (by omega)
  have z2 := dec_size Y (by omega)
  have HW0 := Lib.hid hw0
  clear hw0 h1 h2 hsh HD
  generalize dec X = dx at *
  generalize dec Y = dy at *
  have s1 : ¬ 9223372036854775807 < dx.size + 1 := by omega
  have s2 : ¬ 9223372036854775807 < (dx ++ ⟨#[32]⟩ : ByteArray).size + dy.size := by
    rw [ByteArray.size_append]
    have : (⟨#[32]⟩ : ByteArray).size = 1 := rfl
    omega
  have s3 : ¬ 9223372036854775807 < dx.size + 1 + dy.size := by omega
  go_enter Tryz.func52, Tryz.ntmps52
  go_wp2_with fail
  have hw0 := HW0.out
  rw [hw0]
  clear hw0
  refine wp_region_belowC (by kernel_rfl) (by kernel_rfl) (fun WQ HQS HQN => ?_)
  refine HQS.go (fun K hK => ?_)
  go_simp
  apply Exists.intro
  refine ⟨fun W hW => ?_, hK _ ?_⟩
  · (try go_simp)
    exact rfl
  clear hK K
  refine HQS.go (fun K hK => ?_)
  go_simp
  apply Exists.intro
  refine ⟨fun W hW => ?_, hK _ ?_⟩
  · obtain ⟨q1, q2⟩ := HK.out W hW
    have ql := lt_of_cell q1
    go_simp
    exact rfl
  clear hK K
  refine HQS.go (fun K hK => ?_)
  go_simp
  apply Exists.intro
  refine ⟨fun W hW => ?_, hK _ ?_⟩
  · exact HDX.out W hW
  clear hK K
  refine HQS.go (fun K hK => ?_)
  go_simp
  apply Exists.intro
  refine ⟨fun W hW => ?_, hK _ ?_⟩
  · (try go_simp)
    exact rfl
  clear hK K
  refine HQS.go (fun K hK => ?_)
  go_simp
  apply Exists.intro
  refine ⟨fun W hW => ?_, hK _ ?_⟩
  · (try go_simp)
    exact rfl
  clear hK K
  refine HQS.go (fun K hK => ?_)
  go_simp
  apply Exists.intro
  refine ⟨fun W hW => ?_, hK _ ?_⟩
  · obtain ⟨q1, q2⟩ := HK.out W hW
    have ql := lt_of_cell q1
    go_simp
    exact rfl
  clear hK K
  refine HQS.go (fun K hK => ?_)
  go_simp
  apply Exists.intro
  refine ⟨fun W hW => ?_, hK _ ?_⟩
  · exact HDY.out W hW
  clear hK K
  refine HQS.go (fun K hK => ?_)
  go_simp
  apply Exists.intro
  refine ⟨fun W hW => ?_, hK _ ?_⟩
  · (try go_simp)
    exact rfl
  clear hK K
  refine HQS.go (fun K hK => ?_)
  go_simp
  apply Exists.intro
  refine ⟨fun W hW => ?_, hK _ ?_⟩
  · (try go_simp)
    exact rfl
  clear hK K
  refine HQN.go ?_
  intro W hW
  go_wp2
  go_ret
  exact ⟨rfl, below_trans HB0.out hW⟩
set_option maxHeartbeats 4000000 in
theorem rtext_any (s : Int × Int) (w : World) (h1 : 0 ≤ s.1 ∧ s.1 ≤ 9223372036854775807) (h2 : 0 ≤ s.2 ∧ s.2 ≤ 9223372036854775807) :
    Calls Tryz.prog 33 #[.agg #[.int .i64 s.1, .int .i64 s.2]] w fun e w' => e = .returned (.string (shT s)) ∧ Below w.heap.size w w' := by
  obtain ⟨x, y⟩ := s
  simp only at h1 h2 ⊢
  obtain ⟨X, rfl⟩ : ∃ X : Nat, x = X := ⟨x.toNat, by omega⟩
  obtain ⟨Y, rfl⟩ : ∃ Y : Nat, y = Y := ⟨y.toNat, by omega⟩
  have hsh : shT ((X : Int), (Y : Int)) = dec X ++ ⟨#[32]⟩ ++ dec Y := by
    unfold shT bSp
    rw [Int.toNat_natCast, Int.toNat_natCast]
  rw [hsh]
  obtain ⟨w0, hw0⟩ : ∃ w0, w.alloc (.cells #[.int .i64 (X : Int), .int .i64 (Y : Int)] 37) = w0 := ⟨_, rfl⟩
  have HB0 : Hid (Below w.heap.size w w0) := Lib.hid (by rw [← hw0]; exact below_alloc (Below.refl _ _) _)
  have HK : Hid (∀ W, Below w0.heap.size w0 W → W.cell? ⟨w.heap.size, 0, none⟩ = some (.int .i64 (X : Int)) ∧ W.cell? ⟨w.heap.size, 1, none⟩ = some (.int .i64 (Y : Int))) := Lib.hid (fun W hW => by
    have hb : Blk w0 w.heap.size 37 #[.int .i64 (X : Int), .int .i64 (Y : Int)] := by rw [← hw0]; exact Blk.new w _ _ _ rfl
    exact ⟨kept_cell hW (hb.of_cell rfl), kept_cell hW (hb.of_cell rfl)⟩)
  have HD : Hid (∀ (n : Nat) (W : World), n ≤ 9223372036854775807 → Below w.heap.size w W → Calls Tryz.prog 56 #[.int .i64 (n : Int)] W fun e w' => e = .returned (.string (dec n)) ∧ Below W.heap.size W w') := Lib.hid (fun n W h hW => (rdecimal n h W).mono fun _ _ ⟨he, hw⟩ => ⟨he, hw ▸ Below.refl _ _⟩)
  have HDX := Lib.hid (fun W (hW : Below w0.heap.size w0 W) => (HD.out X W (by omega) (below_trans HB0.out hW)).mono fun _ _ ⟨he, hb⟩ => (⟨he, below_trans hW hb⟩ : _ ∧ Below w0.heap.size w0 _))
  have HDY := Lib.hid (fun W (hW : Below w0.heap.size w0 W) => (HD.out Y W (by omega) (below_trans HB0.out hW)).mono fun _ _ ⟨he, hb⟩ => (⟨he, below_trans hW hb⟩ : _ ∧ Below w0.heap.size w0 _))
  have z1 := dec_size X (by omega)
  have z2 := dec_size Y (by omega)
  have HW0 := Lib.hid hw0
  clear hw0 h1 h2 hsh HD
  generalize dec X = dx at *
  generalize dec Y = dy at *
  have s1 : ¬ 9223372036854775807 < dx.size + 1 := by omega
  have s2 : ¬ 9223372036854775807 < (dx ++ ⟨#[32]⟩ : ByteArray).size + dy.size := by
    rw [ByteArray.size_append]
    have : (⟨#[32]⟩ : ByteArray).size = 1 := rfl
    omega
  have s3 : ¬ 9223372036854775807 < dx.size + 1 + dy.size := by omega
  go_enter Tryz.func33, Tryz.ntmps33
  go_wp2_with fail
  have hw0 := HW0.out
  rw [hw0]
  clear hw0
  refine wp_region_belowC (by kernel_rfl) (by kernel_rfl) (fun WQ HQS HQN => ?_)
  refine HQS.go (fun K hK => ?_)
  go_simp
  apply Exists.intro
  refine ⟨fun W hW => ?_, hK _ ?_⟩
  · (try go_simp)
    exact rfl
  clear hK K
  refine HQS.go (fun K hK => ?_)
  go_simp
  apply Exists.intro
  refine ⟨fun W hW => ?_, hK _ ?_⟩
  · obtain ⟨q1, q2⟩ := HK.out W hW
    have ql := lt_of_cell q1
    go_simp
    exact rfl
  clear hK K
  refine HQS.go (fun K hK => ?_)
  go_simp
  apply Exists.intro
  refine ⟨fun W hW => ?_, hK _ ?_⟩
  · exact HDX.out W hW
  clear hK K
  refine HQS.go (fun K hK => ?_)
  go_simp
  apply Exists.intro
  refine ⟨fun W hW => ?_, hK _ ?_⟩
  · (try go_simp)
    exact rfl
  clear hK K
  refine HQS.go (fun K hK => ?_)
  go_simp
  apply Exists.intro
  refine ⟨fun W hW => ?_, hK _ ?_⟩
  · (try go_simp)
    exact rfl
  clear hK K
  refine HQS.go (fun K hK => ?_)
  go_simp
  apply Exists.intro
  refine ⟨fun W hW => ?_, hK _ ?_⟩
  · obtain ⟨q1, q2⟩ := HK.out W hW
    have ql := lt_of_cell q1
    go_simp
    exact rfl
  clear hK K
  refine HQS.go (fun K hK => ?_)
  go_simp
  apply Exists.intro
  refine ⟨fun W hW => ?_, hK _ ?_⟩
  · exact HDY.out W hW
  clear hK K
  refine HQS.go (fun K hK => ?_)
  go_simp
  apply Exists.intro
  refine ⟨fun W hW => ?_, hK _ ?_⟩
  · (try go_simp)
    exact rfl
  clear hK K
  refine HQS.go (fun K hK => ?_)
  go_simp
  apply Exists.intro
  refine ⟨fun W hW => ?_, hK _ ?_⟩
  · (try go_simp)
    exact rfl
  clear hK K
  refine HQN.go ?_
  intro W hW
  go_wp2
  go_ret
  exact ⟨rfl, below_trans HB0.out hW⟩
end

section
open Go.RowKit

def sm (l : List ByteArray) : Prop := ∀ s, s ∈ l → s.size ≤ 200
theorem sm.take {l : List ByteArray} (h : sm l) (k : Nat) : sm (l.take k) := fun s hs => h s (List.mem_of_mem_take hs)
theorem sm.drop {l : List ByteArray} (h : sm l) (k : Nat) : sm (l.drop k) := fun s hs => h s (List.mem_of_mem_drop hs)
theorem nd_size (a b : ByteArray) : (nd a b).size = 16 := dg_size _
theorem rt_size (l : List ByteArray) (h : sm l) : (rt l).size ≤ 200 := by
  by_cases h2 : 2 ≤ l.length
  · rw [rt_two l h2, nd_size]; omega
  · match l, h2 with
    | [], _ => rw [rt_nil]; show (dg _).size ≤ 200; rw [dg_size]; omega
    | [x], _ => rw [rt_one]; exact h x List.mem_cons_self
    | x :: y :: l, h2 => simp at h2
theorem Strs.take {w : World} {A : Option Addr} {xs : List ByteArray} (h : Strs w A xs) (k : Nat) : Strs w A (xs.take k) := by
  refine ⟨by simp, fun hn => ?_⟩
  have hl : 0 < xs.length := by rw [List.length_take] at hn; omega
  obtain ⟨b, off, e, hc⟩ := h.2 hl
  refine ⟨b, off, e, fun j u hu => hc j u ?_⟩
  rw [List.getElem?_map, List.getElem?_take] at hu
  rw [List.getElem?_map]
  split at hu
  · exact hu
  · simp at hu
theorem Strs.drop {w : World} {b off : Nat} {xs : List ByteArray} (h : Strs w (some ⟨b, off, none⟩) xs) (k : Nat) : Strs w (some ⟨b, off + k, none⟩) (xs.drop k) := by
  refine ⟨by simp, fun hn => ⟨b, off + k, rfl, fun j u hu => ?_⟩⟩
  have hl : 0 < xs.length := by rw [List.length_drop] at hn; omega
  obtain ⟨b', off', e, hc⟩ := h.2 hl
  obtain ⟨rfl, rfl⟩ : b = b' ∧ off = off' := by simpa using e
  rw [List.getElem?_map, List.getElem?_drop, ← List.getElem?_map] at hu
  rw [Nat.add_assoc]
  exact hc (k + j) u hu

set_option maxHeartbeats 1600000 in
theorem half_any (n : Nat) (h : n ≤ 1000000) (w : World) : Calls Tryz.prog 66 #[.int .i64 n] w fun e w' => e = .returned (.int .i64 (hf n)) ∧ w = w' := by
  go_enter Tryz.func66, Tryz.ntmps66
  go_wp2_with fail
  go_loop [3] (fun u => ∃ j k : Nat, k = 2 ^ j ∧ (k < n ∨ j = 0) ∧ u = .int .i64 k) (fun u => n - (intOf u).toNat)
  case atStart => exact ⟨0, 1, rfl, .inr rfl, rfl⟩
  case round =>
    obtain ⟨j, k, hk, hj, rfl⟩ := hrel
    have hk1 : 1 ≤ k := by rw [hk]; exact Nat.one_le_two_pow
    have hk2 : k ≤ 1000000 := by
      rcases hj with h1 | rfl
      · omega
      · simp at hk; omega
    have HK := Lib.hid hk
    have HJ := Lib.hid hj
    clear hk hj
    by_cases hlt : 2 * k < n
    · go_wp2
      go_round
      case rel => exact ⟨j + 1, 2 * k, by rw [HK.out, Nat.pow_succ]; omega, .inl hlt, by go_num⟩
      case measure => simp [intOf]; omega
    · have he : hf n = k := by
        have := hf_eq n j (by rcases HJ.out with h1 | h1; exact .inl (by rw [← HK.out]; exact h1); exact .inr h1) (by rw [← HK.out]; omega)
        rw [this, HK.out]
      have HE := Lib.hid he
      clear he
      go_wp2
      go_ret
      exact ⟨ret_int (by rw [HE.out]), rfl⟩

theorem jb3 (a b c : ByteArray) (ha : a.size ≤ 200) (hb : b.size ≤ 200) (hc : c.size ≤ 200) : (jn [a, b, c]).length ≤ 1000 := by
  have := jn_few [a, b, c] (by
    intro s hs
    simp only [List.mem_cons, List.not_mem_nil, or_false] at hs
    rcases hs with rfl | rfl | rfl <;> assumption)
  simp only [List.length_cons, List.length_nil] at this; omega
theorem jb2 (a b : ByteArray) (ha : a.size ≤ 200) (hb : b.size ≤ 200) : (jn [a, b]).length ≤ 1000 := by
  have := jn_few [a, b] (by
    intro s hs
    simp only [List.mem_cons, List.not_mem_nil, or_false] at hs
    rcases hs with rfl | rfl <;> assumption)
  simp only [List.length_cons, List.length_nil] at this; omega

set_option maxHeartbeats 1600000 in
theorem node_any (a b : ByteArray) (ha : a.size ≤ 200) (hb : b.size ≤ 200) (w : World) (hT : Tabs w) :
    Calls Tryz.prog 93 #[.string a, .string b] w fun e w' => e = .returned (.string (nd a b)) ∧ Below w.heap.size w w' := by
  obtain ⟨wa, hwa⟩ : ∃ wa, w.alloc (.cells #[.string bNode, .string a, .string b] 9) = wa := ⟨_, rfl⟩
  have HBA : Hid (Below w.heap.size w wa) := Lib.hid (by rw [← hwa]; exact below_alloc (Below.refl _ _) _)
  have HSA : Hid (Strs wa (some ⟨w.heap.size, 0, none⟩) [bNode, a, b]) := Lib.hid (by rw [← hwa]; exact Strs_new _ _ _ _ _ rfl rfl)
  have HWA := Lib.hid hwa
  have hj := jb3 bNode a b (by decide) ha hb
  have HL := Lib.hid (list_any (some ⟨w.heap.size, 0, none⟩) 3 [bNode, a, b] wa HSA.out (hT.below HBA.out) (by omega) (by simp))
  clear hwa hT hj
  go_enter Tryz.func93, Tryz.ntmps93
  go_wp2_with fail
  have hwa := HWA.out
  unfold bNode at hwa
  rw [hwa]
  refine HL.out.mono ?_
  rintro e w1 ⟨rfl, hb1⟩
  have HB1 := Lib.hid (below_trans HBA.out hb1)
  clear hb1 hwa
  go_wp2
  go_ret
  exact ⟨rfl, HB1.out⟩

set_option maxHeartbeats 1600000 in
theorem leaf_any (a : ByteArray) (ha : a.size ≤ 200) (w : World) (hT : Tabs w) :
    Calls Tryz.prog 51 #[.string a] w fun e w' => e = .returned (.string (lf a)) ∧ Below w.heap.size w w' := by
  obtain ⟨wa, hwa⟩ : ∃ wa, w.alloc (.cells #[.string bLeaf, .string a] 9) = wa := ⟨_, rfl⟩
  have HBA : Hid (Below w.heap.size w wa) := Lib.hid (by rw [← hwa]; exact below_alloc (Below.refl _ _) _)
  have HSA : Hid (Strs wa (some ⟨w.heap.size, 0, none⟩) [bLeaf, a]) := Lib.hid (by rw [← hwa]; exact Strs_new _ _ _ _ _ rfl rfl)
  have HWA := Lib.hid hwa
  have hj := jb2 bLeaf a (by decide) ha
  have HL := Lib.hid (list_any (some ⟨w.heap.size, 0, none⟩) 2 [bLeaf, a] wa HSA.out (hT.below HBA.out) (by omega) (by simp))
  clear hwa hT hj
  go_enter Tryz.func51, Tryz.ntmps51
  go_wp2_with fail
  have hwa := HWA.out
  unfold bLeaf at hwa
  rw [hwa]
  refine HL.out.mono ?_
  rintro e w1 ⟨rfl, hb1⟩
  have HB1 := Lib.hid (below_trans HBA.out hb1)
  clear hb1 hwa
  go_wp2
  go_ret
  exact ⟨rfl, HB1.out⟩

set_option maxRecDepth 100000 in
set_option maxHeartbeats 8000000 in
theorem totalc_any (n : Nat) : ∀ (fb : Nat) (A : Option Addr) (c : Nat) (l : List ByteArray) (w : World), l.length ≤ n → 1 ≤ l.length → l.length ≤ 1000000 → l.length ≤ c →
    w.cell? ⟨fb, 0, none⟩ = some (.func (.func 92) #[] #[.pointer (some ⟨fb, 0, none⟩)]) → Strs w A l → sm l → Tabs w →
    Calls Tryz.prog 92 #[.slice A l.length c, .pointer (some ⟨fb, 0, none⟩)] w fun e w' => e = .returned (.string (rt l)) ∧ Below w.heap.size w w' := by
  induction n with
  | zero => intro fb A c l w h1 h2; omega
  | succ n ih =>
    intro fb A c l w hn h1 hbig hcap hfc hS hsm hT
    have IH := Lib.hid ih
    by_cases h2 : 2 ≤ l.length
    · obtain ⟨b, off, rfl, -⟩ := hS.2 (by omega)
      obtain ⟨k, hk⟩ : ∃ k, hf l.length = k := ⟨_, rfl⟩
      have HH := Lib.hid (half_any l.length hbig w)
      rw [hk] at HH
      have k1 := hf_lt l.length h2
      have k2 := hf_pos l.length
      rw [hk] at k1 k2
      have hrt := rt_split l k h2 hk
      have hs1 := rt_size _ (hsm.take k)
      have hs2 := rt_size _ (hsm.drop k)
      have H1 : Hid (∀ W, Below w.heap.size w W → Calls Tryz.prog 92 #[.slice (some ⟨b, off, none⟩) k c, .pointer (some ⟨fb, 0, none⟩)] W fun e w' => e = .returned (.string (rt (l.take k))) ∧ Below w.heap.size w w') := Lib.hid (fun W hW => by
        have := ih fb (some ⟨b, off, none⟩) c (l.take k) W (by rw [List.length_take]; omega) (by rw [List.length_take]; omega) (by rw [List.length_take]; omega) (by rw [List.length_take]; omega) (kept_cell hW hfc) ((hS.below hW).take k) (hsm.take k) (hT.below hW)
        rw [List.length_take, Nat.min_eq_left (by omega)] at this
        exact this.mono fun _ _ ⟨he, hb⟩ => ⟨he, below_trans hW hb⟩)
      have H2 : Hid (∀ W, Below w.heap.size w W → Calls Tryz.prog 92 #[.slice (some ⟨b, off + k, none⟩) (l.length - k) (c - k), .pointer (some ⟨fb, 0, none⟩)] W fun e w' => e = .returned (.string (rt (l.drop k))) ∧ Below w.heap.size w w') := Lib.hid (fun W hW => by
        have := ih fb (some ⟨b, off + k, none⟩) (c - k) (l.drop k) W (by rw [List.length_drop]; omega) (by rw [List.length_drop]; omega) (by rw [List.length_drop]; omega) (by rw [List.length_drop]; omega) (kept_cell hW hfc) ((hS.below hW).drop k) (hsm.drop k) (hT.below hW)
        rw [List.length_drop] at this
        exact this.mono fun _ _ ⟨he, hb⟩ => ⟨he, below_trans hW hb⟩)
      have H3 : Hid (∀ W, Below w.heap.size w W → Calls Tryz.prog 93 #[.string (rt (l.take k)), .string (rt (l.drop k))] W fun e w' => e = .returned (.string (nd (rt (l.take k)) (rt (l.drop k)))) ∧ Below w.heap.size w w') := Lib.hid (fun W hW => (node_any _ _ hs1 hs2 W (hT.below hW)).mono fun _ _ ⟨he, hb⟩ => ⟨he, below_trans hW hb⟩)
      have HC : Hid (∀ W, Below w.heap.size w W → W.cell? ⟨fb, 0, none⟩ = some (.func (.func 92) #[] #[.pointer (some ⟨fb, 0, none⟩)])) := Lib.hid (fun W hW => kept_cell hW hfc)
      rw [hrt]
      generalize rt (l.take k) = r1 at *
      generalize rt (l.drop k) = r2 at *
      generalize l.length = m at *
      clear hrt hs1 hs2 hS hsm hT hfc IH ih hk h2
      have hne : ¬ (m : Int) = 1 := by omega
      have hkm : (k : Int) ≤ (m : Int) := by omega
      have hkc : (k : Int) ≤ (c : Int) := by omega
      have hck : (c = k) = False := by simp; omega
      go_enter Tryz.func92, Tryz.ntmps92
      go_wp2_with fail
      refine HH.out.mono ?_
      rintro e _ ⟨rfl, rfl⟩
      go_wp2_with fail
      refine wp_region_below (by kernel_rfl) (by kernel_rfl) ?_
      refine wpQuiet_step (fun K hK => ?_)
      go_simp
      apply Exists.intro
      refine ⟨fun W hW => ?_, hK _ ?_⟩
      · (have c1 := HC.out W hW
         try go_simp
         exact rfl)
      clear hK K
      refine wpQuiet_step (fun K hK => ?_)
      go_simp
      apply Exists.intro
      refine ⟨fun W hW => ?_, hK _ ?_⟩
      · (try go_simp
         exact rfl)
      clear hK K
      refine wpQuiet_step (fun K hK => ?_)
      go_simp
      apply Exists.intro
      refine ⟨fun W hW => ?_, hK _ ?_⟩
      · (try go_simp
         exact rfl)
      clear hK K
      refine wpQuiet_step (fun K hK => ?_)
      go_simp
      apply Exists.intro
      refine ⟨fun W hW => ?_, hK _ ?_⟩
      · (try go_simp
         exact rfl)
      clear hK K
      refine wpQuiet_step (fun K hK => ?_)
      go_simp
      apply Exists.intro
      refine ⟨fun W hW => ?_, hK _ ?_⟩
      · (try go_simp
         exact H1.out W hW)
      clear hK K
      refine wpQuiet_step (fun K hK => ?_)
      go_simp
      apply Exists.intro
      refine ⟨fun W hW => ?_, hK _ ?_⟩
      · (have c1 := HC.out W hW
         try go_simp
         exact rfl)
      clear hK K
      refine wpQuiet_step (fun K hK => ?_)
      go_simp
      apply Exists.intro
      refine ⟨fun W hW => ?_, hK _ ?_⟩
      · (try go_simp
         exact rfl)
      clear hK K
      refine wpQuiet_step (fun K hK => ?_)
      go_simp
      apply Exists.intro
      refine ⟨fun W hW => ?_, hK _ ?_⟩
      · (try go_simp
         exact rfl)
      clear hK K
      refine wpQuiet_step (fun K hK => ?_)
      go_simp
      apply Exists.intro
      refine ⟨fun W hW => ?_, hK _ ?_⟩
      · (try go_simp
         exact rfl)
      clear hK K
      refine wpQuiet_step (fun K hK => ?_)
      go_simp
      apply Exists.intro
      refine ⟨fun W hW => ?_, hK _ ?_⟩
      · (try go_simp
         exact H2.out W hW)
      clear hK K
      refine wpQuiet_step (fun K hK => ?_)
      go_simp
      apply Exists.intro
      refine ⟨fun W hW => ?_, hK _ ?_⟩
      · (try go_simp
         exact H3.out W hW)
      clear hK K
      refine wpQuiet_step (fun K hK => ?_)
      go_simp
      apply Exists.intro
      refine ⟨fun W hW => ?_, hK _ ?_⟩
      · (try go_simp
         exact rfl)
      clear hK K
      refine wpQuiet_nil ?_
      intro W hW
      go_wp2
      go_ret
      exact ⟨rfl, hW⟩
    · obtain ⟨x, rfl⟩ : ∃ x, l = [x] := by
        match l, h1, h2 with
        | [x], _, _ => exact ⟨x, rfl⟩
        | x :: y :: l, _, h2 => simp at h2
      obtain ⟨b, off, rfl, c0⟩ := hS.at_ (k := 0) (x := x) rfl
      have c0l := lt_of_cell c0
      rw [rt_one]
      clear ih IH hS hsm hT
      simp only [List.length_singleton, Nat.add_zero] at *
      go_enter Tryz.func92, Tryz.ntmps92
      go_wp2
      go_ret
      exact ⟨rfl, Below.refl _ _⟩
end

section
open Go.RowKit

set_option maxRecDepth 100000 in
set_option maxHeartbeats 4000000 in
theorem total_any (A : Option Addr) (c : Nat) (l : List ByteArray) (w : World) (hbig : l.length ≤ 1000000) (hcap : l.length ≤ c) (hS : Strs w A l) (hsm : sm l) (hT : Tabs w) :
    Calls Tryz.prog 67 #[.slice A l.length c] w fun e w' => e = .returned (.string (rt l)) ∧ Below w.heap.size w w' := by
  obtain ⟨wf, hwf⟩ : ∃ wf, (w.alloc (.cells #[.func (.func 92) #[] #[.pointer (some ⟨w.heap.size, 0, none⟩)]] 61)) = wf := ⟨_, rfl⟩
  have HBF : Hid (Below w.heap.size w wf) := Lib.hid (by rw [← hwf]; exact below_alloc (Below.refl _ _) _)
  have HCF : Hid (wf.cell? ⟨w.heap.size, 0, none⟩ = some (.func (.func 92) #[] #[.pointer (some ⟨w.heap.size, 0, none⟩)])) := Lib.hid (by rw [← hwf]; simp)
  by_cases h0 : l.length = 0
  · obtain rfl : l = [] := List.eq_nil_of_length_eq_zero h0
    rw [rt_nil]
    have HL := Lib.hid (list_any (some ⟨wf.heap.size, 0, none⟩) 1 [bEmpty] (wf.alloc (.cells #[.string bEmpty] 9)) (Strs_new _ _ _ _ _ rfl rfl) (hT.below (below_alloc HBF.out _)) (by have := jn_few [bEmpty] (by intro s hs; rw [List.mem_singleton.1 hs]; decide); simp only [List.length_singleton] at this; omega) (by simp))
    have HB2 : Hid (Below w.heap.size w (wf.alloc (.cells #[.string bEmpty] 9))) := Lib.hid (below_alloc HBF.out _)
    unfold bEmpty at HL HB2
    clear hT
    go_enter Tryz.func67, Tryz.ntmps67
    go_wp2_with fail
    refine HL.out.mono ?_
    rintro e w1 ⟨rfl, hb1⟩
    have HB1 := Lib.hid (below_trans HB2.out hb1)
    clear hb1
    go_wp2
    go_ret
    exact ⟨rfl, HB1.out⟩
  · have HC := Lib.hid ((totalc_any l.length w.heap.size A c l wf (Nat.le_refl _) (by omega) hbig hcap HCF.out (hS.below HBF.out) hsm (hT.below HBF.out)).mono fun _ _ ⟨he, hb⟩ => (⟨he, below_trans HBF.out hb⟩ : _ ∧ Below w.heap.size w _))
    have HWF := Lib.hid hwf
    clear hS hsm hT hwf
    have hl1 : ¬ l.length = 0 := h0
    generalize rt l = r at *
    generalize l.length = m at *
    have hl2 : ((m : Int) == 0) = false := by simp; omega
    go_enter Tryz.func67, Tryz.ntmps67
    go_wp2_with fail
    rw [HWF.out]
    refine HC.out.mono ?_
    rintro e w1 ⟨rfl, hb1⟩
    have HB1 := Lib.hid hb1
    clear hb1
    go_wp2
    go_ret
    exact ⟨rfl, HB1.out⟩

/-! ### proper -/
theorem notis_any (s : ByteArray) (hs : s.size ≤ 1000000000) (w : World) : Calls Tryz.prog 91 #[.string s] w fun e w' => e = .returned (.bool (!isD s)) ∧ Below w.heap.size w w' := by
  have H := Lib.hid (is_any s w hs)
  go_enter Tryz.func91, Tryz.ntmps91
  go_wp2_with fail
  refine H.out.mono ?_
  rintro e w1 ⟨rfl, hb1⟩
  have HB1 := Lib.hid hb1
  clear hb1
  go_wp2
  go_ret
  exact ⟨rfl, HB1.out⟩

def badAt (l : List ByteArray) : Int := match l.findIdx? (fun s => !isD s) with | some i => i | none => -1
set_option maxHeartbeats 4000000 in
theorem idx_any (A : Option Addr) (c : Nat) (l : List ByteArray) (w : World) (hbig : l.length ≤ 1000000) (hS : Strs w A l) (hsm : ∀ s, s ∈ l → s.size ≤ 1000000000) :
    Calls Tryz.prog 113 #[.slice A l.length c, .func (.func 91) #[] #[]] w fun e w' => (∃ v : Int, e = .returned (.int .i64 v) ∧ (0 ≤ v ↔ allD l = false)) ∧ Below w.heap.size w w' := by
  have HS := Lib.hid hS
  have HSM := Lib.hid hsm
  clear hS hsm
  go_enter Tryz.func113, Tryz.ntmps113
  go_wp2_with fail
  go_loopw [8] (fun u8 wr => ∃ k : Nat, k ≤ l.length ∧ u8 = .int .i64 k ∧ allD (l.take k) = true ∧ Below w.heap.size w wr) (fun u8 _ => l.length - (intOf u8).toNat)
  case atStart => exact ⟨0, Nat.zero_le _, rfl, rfl, Below.refl _ _⟩
  case round =>
    obtain ⟨k, hk, rfl, hall, hb⟩ := hrel
    have HALL := Lib.hid hall
    have HB := Lib.hid hb
    clear hall hb
    by_cases hlt : k < l.length
    · obtain ⟨s, hs⟩ := get_some l k hlt
      obtain ⟨b, off, rfl, c0⟩ := (HS.out.below HB.out).at_ hs
      have c0l := lt_of_cell c0
      have HC := Lib.hid (notis_any s (HSM.out s (List.mem_of_getElem? hs)) wr)
      have hall2 : allD (l.take (k + 1)) = isD s := by
        have := all_take_succ isD l k s hs
        unfold allD at HALL ⊢
        rw [this, HALL.out, Bool.true_and]
      have HA2 := Lib.hid hall2
      have hmem : s ∈ l := List.mem_of_getElem? hs
      have hbad : isD s = false → allD l = false := fun h => by
        unfold allD
        rw [List.all_eq_false]
        exact ⟨s, hmem, by simp [h]⟩
      have HBAD := Lib.hid hbad
      clear hs hall2 hbad hmem
      obtain ⟨v, hv⟩ : ∃ v, isD s = v := ⟨_, rfl⟩
      rw [hv] at HC HA2 HBAD
      clear hv
      go_wp2_with fail
      refine HC.out.mono ?_
      rintro e w1 ⟨rfl, hb1⟩
      have HB1 := Lib.hid (below_trans HB.out hb1)
      clear hb1
      cases v with
      | true =>
        go_wp2
        go_roundw
        case rel => exact ⟨k + 1, by omega, by go_num, HA2.out, HB1.out⟩
        case measure => simp [intOf]; omega
      | false =>
        go_wp2
        go_ret
        exact ⟨⟨k, rfl, fun _ => by first | exact HBAD.out rfl | exact HBAD.out trivial, fun _ => Int.natCast_nonneg k⟩, HB1.out⟩
    · obtain rfl : k = l.length := by omega
      rw [List.take_length] at HALL
      go_wp2
      go_ret
      exact ⟨⟨-1, rfl, by rw [HALL.out]; simp⟩, HB.out⟩

set_option maxHeartbeats 1600000 in
theorem proper_any (A : Option Addr) (c : Nat) (l : List ByteArray) (w : World) (hbig : l.length ≤ 1000000) (hS : Strs w A l) (hsm : ∀ s, s ∈ l → s.size ≤ 1000000000) :
    Calls Tryz.prog 65 #[.slice A l.length c] w fun e w' => e = .returned (.bool (allD l)) ∧ Below w.heap.size w w' := by
  have H := Lib.hid (idx_any A c l w hbig hS hsm)
  clear hS hsm
  have HC : Hid (Calls Tryz.prog 90 #[.slice A l.length c, .func (.func 91) #[] #[]] w fun e w' => e = .returned (.bool (!allD l)) ∧ Below w.heap.size w w') := Lib.hid (by
    go_enter Tryz.func90, Tryz.ntmps90
    go_wp2_with fail
    refine H.out.mono ?_
    rintro e w1 ⟨⟨v, rfl, hv⟩, hb1⟩
    have HB1 := Lib.hid hb1
    have HV := Lib.hid hv
    clear hb1 hv
    go_wp2
    go_ret
    refine ⟨ret_bool ?_, HB1.out⟩
    have := HV.out
    cases h : allD l <;> rw [h] at this <;> simp at this <;> simp [this])
  go_enter Tryz.func65, Tryz.ntmps65
  go_wp2_with fail
  refine HC.out.mono ?_
  rintro e w1 ⟨rfl, hb1⟩
  have HB1 := Lib.hid hb1
  clear hb1
  go_wp2
  go_ret
  exact ⟨ret_bool (by simp), HB1.out⟩

set_option maxHeartbeats 1600000 in
theorem root_any (A : Option Addr) (c : Nat) (l : List ByteArray) (w : World) (hbig : l.length ≤ 1000000) (hcap : l.length ≤ c) (hS : Strs w A l) (hsm : sm l) (hT : Tabs w) :
    Calls Tryz.prog 53 #[.slice A l.length c] w fun e w' => e = .returned (.tuple #[.string (if allD l then rt l else ByteArray.empty), .int .i64 (if allD l then 0 else 1)]) ∧ Below w.heap.size w w' := by
  have HP := Lib.hid (proper_any A c l w hbig hS (fun s hs => by have := hsm s hs; omega))
  have HT : Hid (∀ W, Below w.heap.size w W → Calls Tryz.prog 67 #[.slice A l.length c] W fun e w' => e = .returned (.string (rt l)) ∧ Below w.heap.size w w') := Lib.hid (fun W hW => (total_any A c l W hbig hcap (hS.below hW) hsm (hT.below hW)).mono fun _ _ ⟨he, hb⟩ => ⟨he, below_trans hW hb⟩)
  clear hS hsm hT
  cases hv : allD l
  all_goals
    rw [hv] at HP
    clear hv
    go_enter Tryz.func53, Tryz.ntmps53
    go_wp2_with fail
    refine HP.out.mono ?_
    rintro e w1 ⟨rfl, hb1⟩
    have HB1 := Lib.hid hb1
    clear hb1
    go_wp2_with fail
  · go_ret2
    exact ⟨rfl, HB1.out⟩
  · refine (HT.out w1 HB1.out).mono ?_
    rintro e w2 ⟨rfl, hb2⟩
    have HB2 := Lib.hid hb2
    clear hb2
    go_wp2
    go_ret2
    exact ⟨rfl, HB2.out⟩
end

section
open Go.RowKit

theorem Strs.chg {w w' : World} {A : Option Addr} {l : List ByteArray} {F : List Nat} (h : Strs w A l) (hc : Chg F w w') (hF : ∀ a, A = some a → a.block ∉ F) : Strs w' A l := by
  refine ⟨h.1, fun hn => ?_⟩
  obtain ⟨b, off, e, hv⟩ := h.2 hn
  exact ⟨b, off, e, fun j u hu => hc.cell (hF _ e) (hv j u hu)⟩

set_option maxRecDepth 100000 in
set_option maxHeartbeats 4000000 in
theorem pop_any (Db : Nat) (A : Option Addr) (c : Nat) (p : List ByteArray) (w : World) (hD : Blk w Db 98 #[.slice A p.length c]) (hS : Strs w A p) (hc : p.length ≤ c) (hbig : p.length ≤ 1000000) :
    Calls Tryz.prog 137 #[.pointer (some ⟨Db, 0, none⟩)] w fun e w' => e = .returned (.string (p.getLastD ByteArray.empty)) ∧ Chg [Db] w w' ∧ Blk w' Db 98 #[.slice A p.dropLast.length c] := by
  have c0 := hD.cell 0
  have f0 := hD.frozen 0
  have hl := hD.lt
  simp only [List.getElem?_toArray, List.getElem?_cons_zero] at c0
  have HD := Lib.hid hD
  clear hD
  by_cases h0 : p.length = 0
  · obtain rfl : p = [] := List.eq_nil_of_length_eq_zero h0
    simp only [List.length_nil] at c0
    go_enter Tryz.func137, Tryz.ntmps137
    go_wp2
    go_ret
    exact ⟨rfl, Chg.refl _ _, HD.out⟩
  · obtain ⟨k, hk⟩ : ∃ k, p.length = k + 1 := ⟨p.length - 1, by omega⟩
    obtain ⟨x, hx⟩ := get_some p k (by omega)
    obtain ⟨b, off, rfl, c1⟩ := hS.at_ hx
    have c1l := lt_of_cell c1
    have hlast : p.getLastD ByteArray.empty = x := by
      rw [List.getLastD_eq_getLast?, List.getLast?_eq_getElem?, hk]
      simp only [Nat.add_sub_cancel, hx, Option.getD_some]
    have hdl : p.dropLast.length = k := by rw [List.length_dropLast, hk]; rfl
    rw [hlast, hdl]
    rw [hk] at c0 hc hbig HD
    have hwr : IntKind.i64.wrap (((k + 1 : Nat) : Int) - 1) = (k : Int) := by rw [IntWalk.i64_in _ (by omega)]; omega
    generalize hK : k + 1 = K at *
    have hkK : k < K := by omega
    have hkc : (k : Int) ≤ (c : Int) := by omega
    have hkk : (k : Int) ≤ (K : Int) := by omega
    have hK0 : ((K : Int) == 0) = false := by simp; omega
    have HKK := Lib.hid hK
    clear hlast hdl hk hS hx h0 hK
    go_enter Tryz.func137, Tryz.ntmps137
    go_wp2_with fail
    refine wp_region_still_lit (by kernel_rfl) (by kernel_rfl) ?_
    repeat still_step
    refine wpStill_nil ?_
    change Exit.then _ _ Exit.normal _ (World.drew w)
    go_wp2_with fail
    refine wp_region_still_tail 11 (by kernel_rfl) (by kernel_rfl) ?_
    simp only [List.take_succ_cons, List.take_zero, List.drop_succ_cons, List.drop_zero]
    change wpStill _ _ (World.drew _) _ _ _
    repeat still_step
    refine wpStill_nil ?_
    change wpList _ _ _ _ _ (World.drew _)
    go_wp2
    go_ret
    have h1 := HD.out.set 0 (.slice (some ⟨b, off, none⟩) k c)
    simp at h1
    exact ⟨rfl, ((Chg.refl [Db] w).setCell (p := ⟨Db, 0, none⟩) (.inl (by simp)) _).drew.drew, h1⟩

/-- What is left of a proof: the blocks of its list and of itself. -/
structure PrS (w : World) (Db Pb : Nat) (p : List ByteArray) (short : Bool) : Prop where
  ex : ∃ A c, Blk w Db 98 #[.slice A p.length c] ∧ Strs w A p ∧ p.length ≤ c ∧ (∀ a, A = some a → a.block ∉ [Db, Pb])
  pr : Blk w Pb 141 #[.pointer (some ⟨Db, 0, none⟩), .bool short]
  ne : Db ≠ Pb
  few : p.length ≤ 1000000
  all : allD p = true

theorem PrS.chg {w w' : World} {Db Pb : Nat} {p : List ByteArray} {short : Bool} (h : PrS w Db Pb p short) (hc : Below w.heap.size w w') : PrS w' Db Pb p short := by
  obtain ⟨A, c, h1, h2, h3, h4⟩ := h.ex
  have hc0 := Chg.of_below hc []
  exact ⟨⟨A, c, h1.chg hc0 (by simp), h2.below hc, h3, h4⟩, h.pr.chg hc0 (by simp), h.ne, h.few, h.all⟩

theorem toList_isEmpty (t : ByteArray) (h : ¬ t.size = 0) : t.toList.isEmpty = false := by
  rw [ByteArray.toList_eq]
  cases hl : t.data.toList with
  | nil =>
    exfalso
    apply h
    have := congrArg List.length hl
    simpa using this
  | cons _ _ => rfl

set_option maxRecDepth 100000 in
set_option maxHeartbeats 4000000 in
theorem next_any (Db Pb : Nat) (p : List ByteArray) (short : Bool) (w : World) (h : PrS w Db Pb p short) :
    Calls Tryz.prog 120 #[.pointer (some ⟨Pb, 0, none⟩)] w fun e w' => e = .returned (.string (p.getLastD ByteArray.empty)) ∧ Chg [Db, Pb] w w' ∧ PrS w' Db Pb p.dropLast (short || p.isEmpty) := by
  obtain ⟨A, c, hD, hS, hc, hA⟩ := h.ex
  have hP := h.pr
  have c0 := hP.cell 0
  have c1 := hP.cell 1
  simp only [List.getElem?_toArray, List.getElem?_cons_zero, List.getElem?_cons_succ] at c0 c1
  have hl := hP.lt
  have HPOP := Lib.hid (pop_any Db A c p w hD hS hc h.few)
  have HH := Lib.hid h
  have HD := Lib.hid hD
  have HS := Lib.hid hS
  have HC := Lib.hid hc
  have HA := Lib.hid hA
  have hsh : p.isEmpty = false → ¬ (p.getLastD ByteArray.empty).size = 0 := fun he => by
    have hne : p ≠ [] := by intro e; rw [e] at he; cases he
    have hm : p.getLastD ByteArray.empty ∈ p := by
      rw [List.getLastD_eq_getLast?, List.getLast?_eq_some_getLast hne]
      exact List.getLast_mem hne
    have := h.all
    simp only [allD, List.all_eq_true] at this
    rw [isD_16 (this _ hm)]; decide
  have hse : p.isEmpty = true → p.getLastD ByteArray.empty = ByteArray.empty := fun he => by
    rw [List.isEmpty_iff.1 he]; rfl
  have HSH := Lib.hid hsh
  have HSE := Lib.hid hse
  clear h hD hS hc hA hP hsh hse
  have fin : ∀ w1 w2 : World, Chg [Db] w w1 → Blk w1 Db 98 #[.slice A p.dropLast.length c] → w2 = w1.setCell ⟨Pb, 1, none⟩ (.bool (short || p.isEmpty)) → Chg [Db, Pb] w w2 ∧ PrS w2 Db Pb p.dropLast (short || p.isEmpty) := by
    rintro w1 w2 h1 h2 rfl
    have hne := HH.out.ne
    have k1 : Chg [Db, Pb] w w1 := (Chg.refl [Db, Pb] w).trans h1 (fun j hj => .inl (by rw [List.mem_singleton] at hj; simp [hj]))
    have k2 := k1.setCell (p := ⟨Pb, 1, none⟩) (.inl (by simp)) (.bool (short || p.isEmpty))
    have k3 := (HH.out.pr.chg h1 (by simpa using Ne.symm hne)).set 1 (.bool (short || p.isEmpty))
    simp at k3
    refine ⟨k2, ⟨A, c, h2.far (p := ⟨Pb, 1, none⟩) hne _, ?_, ?_, HA.out⟩, k3, hne, ?_, ?_⟩
    · have := (HS.out.chg k2 HA.out).take (p.length - 1)
      rw [← List.dropLast_eq_take] at this
      exact this
    · have := HC.out; rw [List.length_dropLast]; omega
    · have := HH.out.few; rw [List.length_dropLast]; omega
    · rw [List.dropLast_eq_take]; exact allD_take HH.out.all _
  have HFIN := Lib.hid fin
  clear fin
  have hPD : Pb ∉ [Db] := by simpa using Ne.symm HH.out.ne
  obtain ⟨x, hx⟩ : ∃ x, p.getLastD ByteArray.empty = x := ⟨_, rfl⟩
  rw [hx] at HPOP HSH HSE ⊢
  clear hx
  generalize p.isEmpty = v at HFIN HSH HSE ⊢
  go_enter Tryz.func120, Tryz.ntmps120
  go_wp2_with fail
  refine HPOP.out.mono ?_
  rintro e w1 ⟨rfl, hc1, hd1⟩
  have hP1 := HH.out.pr.chg hc1 hPD
  have c0' := hP1.cell 0
  have c1' := hP1.cell 1
  simp only [List.getElem?_toArray, List.getElem?_cons_zero, List.getElem?_cons_succ] at c0' c1'
  have f1' := hP1.frozen 1
  have hl' := hP1.lt
  have HF := Lib.hid (HFIN.out w1 _ hc1 hd1 rfl)
  clear hc1 hd1 hP1 c0 c1 hl
  cases short with
  | true =>
    simp only [Bool.true_or] at HF ⊢
    go_wp2
    go_ret
    exact ⟨rfl, HF.out.1, HF.out.2⟩
  | false =>
    simp only [Bool.false_or] at HF ⊢
    cases v with
    | true =>
      have hx := HSE.out rfl
      subst hx
      go_wp2
      go_ret
      exact ⟨rfl, HF.out.1, HF.out.2⟩
    | false =>
      have hx := toList_isEmpty x (HSH.out rfl)
      go_wp2
      go_ret
      exact ⟨rfl, HF.out.1, HF.out.2⟩

set_option maxHeartbeats 4000000 in
theorem done_any (Db Pb : Nat) (p : List ByteArray) (short : Bool) (w : World) (h : PrS w Db Pb p short) :
    Calls Tryz.prog 121 #[.pointer (some ⟨Pb, 0, none⟩)] w fun e w' => e = .returned (.bool (!short && decide (p.length = 0))) ∧ w = w' := by
  obtain ⟨A, c, hD, -, -, -⟩ := h.ex
  have hP := h.pr
  have c0 := hP.cell 0
  have c1 := hP.cell 1
  have d0 := hD.cell 0
  simp only [List.getElem?_toArray, List.getElem?_cons_zero, List.getElem?_cons_succ] at c0 c1 d0
  have hl := hP.lt
  have hl2 := hD.lt
  clear h hD hP
  cases short
  all_goals
    go_enter Tryz.func121, Tryz.ntmps121
    go_wp2
    go_ret
    refine ⟨ret_bool ?_, rfl⟩
    by_cases h0 : p.length = 0 <;> simp [h0]
    try omega
end

end Go.Proofs.YtdlgejofggbifaaGreatDoor
