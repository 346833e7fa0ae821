/- Polynomials modulo the prime: Neville's scheme through points of a polynomial gives its values; uniqueness. No program in sight. -/
import Derived.Test.YthkagcelpdcfkaaJoin
namespace Go.Proofs.Ythkagcelpdcfkaa

abbrev F := Fin 2147483647

def phi (a : Int) : F := ⟨(a % 2147483647).toNat, by omega⟩

theorem phi_add (a b : Int) : phi (a + b) = phi a + phi b := by
  apply Fin.ext
  rw [Fin.val_add]
  simp only [phi]; omega
theorem phi_sub (a b : Int) : phi (a - b) = phi a - phi b := by
  have h : phi (a - b) + phi b = phi a := by rw [← phi_add]; congr 1; omega
  rw [← h]; grind
theorem phi_mul (a b : Int) : phi (a * b) = phi a * phi b := by
  apply Fin.ext
  rw [Fin.val_mul]
  simp only [phi]
  have h0 : 0 ≤ a % 2147483647 := by omega
  have h1 : 0 ≤ b % 2147483647 := by omega
  obtain ⟨m, hm⟩ := Int.eq_ofNat_of_zero_le h0
  obtain ⟨n, hn⟩ := Int.eq_ofNat_of_zero_le h1
  rw [Int.mul_emod, hm, hn]
  simp only [Int.toNat_natCast]
  omega
theorem phi_emod (a : Int) : phi (a % 2147483647) = phi a := by
  apply Fin.ext
  simp only [phi]; omega
theorem phi_p : phi 2147483647 = 0 := rfl
theorem phi_zero : phi 0 = 0 := rfl
theorem phi_one : phi 1 = 1 := rfl
theorem phi_inj {a b : Int} (ha : 0 ≤ a) (ha' : a < 2147483647) (hb : 0 ≤ b) (hb' : b < 2147483647) (h : phi a = phi b) : a = b := by
  have := congrArg Fin.val h
  simp only [phi] at this; omega
theorem phi_mns (a b : Int) : phi (mns a b) = phi a - phi b := by
  unfold mns
  rw [phi_emod, phi_add, phi_sub, phi_p]; grind

theorem phi_inv (a : Int) (h0 : 0 < a) (h1 : a < 2147483647) : phi (invp a) * phi a = 1 := by
  rw [← phi_mul, ← phi_emod, (invp_spec a h0 h1).2.2]; rfl

theorem phi_ne {a b : Int} (ha : 0 ≤ a) (ha' : a < 2147483647) (hb : 0 ≤ b) (hb' : b < 2147483647) (h : a ≠ b) : phi a ≠ phi b := fun e => h (phi_inj ha ha' hb hb' e)

theorem phi_surj (x : F) : ∃ a : Int, 0 ≤ a ∧ a < 2147483647 ∧ phi a = x :=
  ⟨(x.val : Int), by omega, by omega, by apply Fin.ext; simp only [phi]; omega⟩

/-- In the field: an element that isn't 0 has an inverse. -/
theorem f_inv (x : F) (h : x ≠ 0) : ∃ y : F, y * x = 1 := by
  obtain ⟨a, a0, a1, rfl⟩ := phi_surj x
  have : a ≠ 0 := fun e => h (by rw [e]; rfl)
  exact ⟨_, phi_inv a (by omega) a1⟩

theorem f_cancel (x y : F) (h : x ≠ 0) (e : x * y = 0) : y = 0 := by
  obtain ⟨z, hz⟩ := f_inv x h
  have : z * (x * y) = 0 := by rw [e]; grind
  have e2 : z * (x * y) = (z * x) * y := by grind
  rw [e2, hz] at this; grind

/-- The value of a polynomial, the constant first. -/
def ev : List F → F → F
  | [], _ => 0
  | c :: l, x => ev l x * x + c

theorem phi_evp (l : List Int) (x : Int) : phi (evp l x) = ev (l.map phi) (phi x) := by
  induction l with
  | nil => rfl
  | cons c l ih => rw [evp, phi_emod, phi_add, phi_mul, ih]; rfl

/-- Divided differences. -/
def dd : List F → List F → F
  | [], _ => 0
  | _ :: _, [] => 0
  | c :: l, [a] => c + a * dd l [a]
  | _ :: l, a :: b :: T => a * dd l (a :: b :: T) + dd l (b :: T)

theorem dd_nil (S : List F) : dd [] S = 0 := by cases S <;> rfl
theorem dd_none (cs : List F) : dd cs [] = 0 := by cases cs <;> rfl
theorem dd_one (cs : List F) (x : F) : dd cs [x] = ev cs x := by
  induction cs with
  | nil => rfl
  | cons c l ih => rw [dd, ih, ev]; grind

theorem dd_step (cs : List F) (a b : F) (T : List F) : (a - b) * dd cs (a :: b :: T) = dd cs (a :: T) - dd cs (b :: T) := by
  induction cs generalizing T with
  | nil => simp only [dd_nil]; grind
  | cons c l ih =>
    cases T with
    | nil => have := ih []; simp only [dd] at *; grind
    | cons t T => have := ih (t :: T); simp only [dd] at *; grind

theorem dd_swap (cs : List F) (a b : F) (T : List F) : dd cs (a :: b :: T) = dd cs (b :: a :: T) := by
  induction cs generalizing T with
  | nil => rfl
  | cons c l ih => have h1 := ih T; have h2 := dd_step l a b T; simp only [dd]; grind

theorem dd_perm {S S' : List F} (h : S.Perm S') : ∀ cs, dd cs S = dd cs S' := by
  induction h with
  | nil => intro cs; rfl
  | swap a b l => intro cs; exact dd_swap cs b a l
  | trans _ _ h1 h2 => intro cs; exact (h1 cs).trans (h2 cs)
  | @cons a S S' hp ih =>
    intro cs
    induction cs with
    | nil => simp only [dd_nil]
    | cons c l ihl =>
      cases S with
      | nil => rw [List.nil_perm.1 hp]
      | cons s S =>
        cases S' with
        | nil => exact absurd hp (by simp)
        | cons s' S' => simp only [dd]; rw [ihl, ih l]

theorem dd_long (cs S : List F) (h : cs.length < S.length) : dd cs S = 0 := by
  induction cs generalizing S with
  | nil => exact dd_nil S
  | cons c l ih =>
    match S, h with
    | [a], h => simp at h
    | a :: b :: T, h => simp only [dd]; rw [ih (a :: b :: T) (by simp at h ⊢; omega), ih (b :: T) (by simp at h ⊢; omega)]; grind

def prd (x : F) : List F → F
  | [] => 1
  | a :: l => (x - a) * prd x l

theorem prd_append (x : F) (l m : List F) : prd x (l ++ m) = prd x l * prd x m := by
  induction l with
  | nil => simp only [List.nil_append, prd]; grind
  | cons a l ih => simp only [List.cons_append, prd, ih]; grind

end Go.Proofs.Ythkagcelpdcfkaa
