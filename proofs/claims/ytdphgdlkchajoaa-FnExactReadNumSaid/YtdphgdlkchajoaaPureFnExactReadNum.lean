/- The plain statement of the law FnExactReadNum: at all arguments within the row's bounds the printed function answers true. No further condition. -/
import Derived.Test.YtdphgdlkchajoaaPFnExactReadNumx3
import Derived.Test.YtdphgdlkchajoaaBase
set_option linter.unusedVariables false
set_option linter.unusedSimpArgs false
namespace Go.Proofs.Ytdphgdlkchajoaa.Pure
open Go.RowKit Go.Proofs.Ytdphgdlkchajoaa.PFnExactReadNum Go.Proofs.YtdphgdlkchajoaaW.PrintWords Go.Proofs.YtdphgdlkchajoaaW.PrintLast

/-! ### inF -/
theorem spec_l1In_eq (a b c : Int) : spec_l1In.f a b c = some (decide (b ≤ a ∧ a ≤ c)) := by
  unfold spec_l1In.f
  by_cases h : a ≥ b
  · rw [if_pos h]; simp [h]
  · rw [if_neg h]; simp [h]
theorem impl_in_eq (a b c : Int) : impl_in.f a b c = some (decide (b ≤ a ∧ a ≤ c)) := by
  unfold impl_in.f
  by_cases h : a ≥ b
  · rw [if_pos h]; simp [h]
  · rw [if_neg h]; simp [h]

/-! ### nb -/
/-- The bytes of a number, seven bits each. -/
def nb (x : Nat) : List Int := if h : x < 128 then [(x : Int)] else ((x % 128 + 128 : Nat) : Int) :: nb (x / 128)
termination_by x
decreasing_by omega
theorem nb_small {x : Nat} (h : x < 128) : nb x = [(x : Int)] := by
  rw [nb, dif_pos h]
theorem nb_big {x : Nat} (h : ¬ x < 128) : nb x = ((x % 128 + 128 : Nat) : Int) :: nb (x / 128) := by
  rw [nb, dif_neg h]
theorem nb_or (x : Nat) (h : x < 4611686018427387904) : Go.bits .or .i64 (Go.bits .and .i64 (x : Int) 127) 128 = ((x % 128 + 128 : Nat) : Int) := by
  have h1 : Go.bits .and .i64 (x : Int) 127 = (x : Int) % 128 := bits_mask .i64 63 (by decide) wraps_i64 7 (by decide) x (by omega) (by omega)
  have h2 : Go.bits .or .i64 ((x : Int) % 128) 128 = Go.bits .or .i64 128 ((x : Int) % 128) := by
    unfold Go.bits
    simp only [BitVec.or_comm]
  rw [h1, h2, bits_join .i64 63 (by decide) wraps_i64 7 128 ((x : Int) % 128) (by decide) (by decide) (by decide) (by omega) (by omega) (by omega)]
  omega
/-- What a number is without its sign. -/
def foldN (n : Int) : Nat := if n < 0 then (-2 * n - 1).toNat else (2 * n).toNat

/-! ### numBytes -/
theorem spec_l1Fold_eq {n : Int} (h0 : -1000000000 ≤ n) (h1 : n ≤ 1000000000) : spec_l1Fold.f n = some ((foldN n : Nat) : Int) := by
  unfold spec_l1Fold.f foldN
  by_cases h : n < 0
  · rw [if_pos h, if_pos h, wrap64_id (x := -2 * n) (by omega) (by omega), wrap64_id (by omega) (by omega)]
    congr 1
    omega
  · rw [if_neg h, if_neg h, wrap64_id (by omega) (by omega)]
    congr 1
    omega
theorem foldN_lt {n : Int} (h0 : -1000000000 ≤ n) (h1 : n ≤ 1000000000) : foldN n ≤ 2000000000 := by
  unfold foldN
  split <;> omega
theorem spec_l1NumBytes_l0 (d : Nat) : ∀ (x : Nat) (l : List Int), x < 128 ^ (d + 1) → x < 4611686018427387904 → l.length + d < 140737488355328 → Ev (fun k => spec_l1NumBytes.l0 k (x : Int) l) (strOfNums (l ++ nb x)) := by
  induction d with
  | zero =>
    intro x l hx hx2 hl
    refine evSucc ?_
    simp only [spec_l1NumBytes.l0]
    refine evNeg (by omega) (evPos (by omega) (evNow ?_))
    rw [nb_small (by omega)]
    congr 3
    omega
  | succ d ih =>
    intro x l hx hx2 hl
    refine evSucc ?_
    simp only [spec_l1NumBytes.l0]
    by_cases h : x < 128
    · refine evNeg (by omega) (evPos (by omega) (evNow ?_))
      rw [nb_small h]
      congr 3
      omega
    · refine evPos (by omega) (evPos (by omega) ?_)
      rw [nb_big h]
      have hd : x / 128 < 128 ^ (d + 1) := by
        rw [Nat.pow_succ] at hx
        omega
      refine evTwo (r := strOfNums ((l ++ [((x % 128 + 128 : Nat) : Int)]) ++ nb (x / 128))) ?_ (by rw [List.append_assoc]; rfl)
      have e1 : wrap64 (Int.tdiv (x : Int) 128) = ((x / 128 : Nat) : Int) := by
        rw [tdiv_nn (by omega), wrap64_id (by omega) (by omega)]
        omega
      have e2 : wrap64 ((Int.tmod (x : Int) 128) + 128) % 256 = ((x % 128 + 128 : Nat) : Int) := by
        rw [tmod_nn (by omega), wrap64_id (by omega) (by omega)]
        omega
      simp only [e1, e2]
      exact ih (x / 128) _ hd (by omega) (by simp; omega)
theorem spec_l1NumBytes_ev {n : Int} (h0 : -1000000000 ≤ n) (h1 : n ≤ 1000000000) : Ev (fun k => spec_l1NumBytes.f k n) (strOfNums (nb (foldN n))) := by
  have := foldN_lt h0 h1
  simp only [spec_l1NumBytes.f]
  exact evC (spec_l1Fold_eq h0 h1) (spec_l1NumBytes_l0 8 _ [] (by simp; omega) (by omega) (by simp))

/-! ### nameDef -/
def letB (c : Int) : Prop := (65 ≤ c ∧ c ≤ 90) ∨ (97 ≤ c ∧ c ≤ 122)
def digB (c : Int) : Prop := 48 ≤ c ∧ c ≤ 57
instance (c : Int) : Decidable (letB c) := by unfold letB; infer_instance
instance (c : Int) : Decidable (digB c) := by unfold digB; infer_instance
/-- The byte at j may stand in a name. -/
def nmAt (s : ByteArray) (j : Nat) : Prop := letB (bt s (j : Int)) ∨ (j ≠ 0 ∧ digB (bt s (j : Int)))
instance (s : ByteArray) (j : Nat) : Decidable (nmAt s j) := by unfold nmAt; infer_instance
def nameOk (s : ByteArray) : Bool := decide (1 ≤ s.size ∧ s.size ≤ 10 ∧ ∀ j, j < s.size → nmAt s j)
theorem nameOk_not {s : ByteArray} {j : Nat} (h : j < s.size) (hn : ¬ nmAt s j) : nameOk s = false := by
  unfold nameOk
  exact decide_eq_false fun H => hn (H.2.2 j h)
theorem nameOk_all {s : ByteArray} (h : ∀ j, j < s.size → nmAt s j) : nameOk s = decide ((1 : Int) ≤ (s.size : Int) ∧ (s.size : Int) ≤ 10) := by
  unfold nameOk
  by_cases hs : 1 ≤ s.size ∧ s.size ≤ 10
  · rw [decide_eq_true (by exact ⟨hs.1, hs.2, h⟩), decide_eq_true (by omega)]
  · rw [decide_eq_false (fun H => hs ⟨H.1, H.2.1⟩), decide_eq_false (by omega)]

/-! ### isName -/

/-! ### readName -/
/-- The byte at a, as a number from 0 on. -/
def byN (s : ByteArray) (a : Nat) : Nat := (bt s (a : Int)).toNat
theorem byN_eq (s : ByteArray) (a : Nat) : bt s (a : Int) = (byN s a : Int) := by
  have := bt_range s (a : Int)
  unfold byN
  omega
theorem byN_le (s : ByteArray) (a : Nat) : byN s a ≤ 255 := by
  have := bt_range s (a : Int)
  unfold byN
  omega
/-- A name's bytes stand at a. -/
def rdOk (s : ByteArray) (a : Nat) : Prop := a < s.size ∧ a + 1 + byN s a ≤ s.size ∧ nameOk (s.extract (a + 1) (a + 1 + byN s a)) = true
instance (s : ByteArray) (a : Nat) : Decidable (rdOk s a) := by unfold rdOk; infer_instance
def rdName (s : ByteArray) (a : Nat) : ByteArray := s.extract (a + 1) (a + 1 + byN s a)
def readNmV (s : ByteArray) (a : Nat) : ByteArray × Int × Bool := if rdOk s a then (rdName s a, ((a + 1 + byN s a : Nat) : Int), true) else (⟨#[]⟩, 0, false)
theorem extract_le (s : ByteArray) (i j : Nat) : (s.extract i j).size ≤ s.size := by
  rw [ByteArray.size_extract]
  omega
theorem spec_l1B_byte1_eq (s : ByteArray) (hs : s.size ≤ 1000000) (a : Nat) : spec_l1B_byte1.f s (a : Int) false = some (if a < s.size then ((byN s a : Int), s, ((a + 1 : Nat) : Int), false) else (0, s, (a : Int), true)) := by
  simp only [spec_l1B_byte1.f]
  by_cases h : a < s.size
  · have e1 : wrap64 ((a : Int) + 1) = ((a + 1 : Nat) : Int) := wrap64_nat a (by omega)
    have e2 : wrap64 (((a + 1 : Nat) : Int) - 1) = (a : Int) := by rw [wrap64_id] <;> omega
    have e0 : wrap64 (byN s a : Int) = byN s a := by
      have := byN_le s a
      exact wrap64_id (by omega) (by omega)
    rw [if_neg (by simp), if_neg (by omega), if_pos h]
    simp only [e1, e2, byN_eq, e0]
    rw [if_pos (by omega), if_pos (by omega)]
  · rw [if_neg (by simp), if_pos (by omega), if_neg h]
def nmV (s : ByteArray) (a : Nat) : ByteArray × ByteArray × Int × Bool := if rdOk s a then (rdName s a, s, ((a + 1 + byN s a : Nat) : Int), false) else (⟨#[]⟩, s, (if a < s.size then ((a + 1 : Nat) : Int) else (a : Int)), true)

/-! ### place -/
def placeOk (s : ByteArray) (a : Int) : Bool := decide (s.size ≤ 3000 ∧ 0 ≤ a ∧ a ≤ (s.size : Int))
theorem spec_l1Place_eq (s : ByteArray) (a : Int) : spec_l1Place.f s a = some (placeOk s a) := by
  unfold spec_l1Place.f placeOk
  simp only [spec_l1In_eq, Option.bind_some]
  by_cases h : s.size ≤ 3000
  · rw [if_pos (by omega)]; simp [h]
  · rw [if_neg (by omega)]; simp [h]
theorem impl_isAt_eq (s : ByteArray) (a : Int) : impl_isAt.f s a = some (placeOk s a) := by
  unfold impl_isAt.f placeOk
  simp only [impl_in_eq, Option.bind_some]
  by_cases h : s.size ≤ 3000
  · rw [if_pos (by omega)]; simp [h]
  · rw [if_neg (by omega)]; simp [h]

/-! ### readNum -/
theorem openN_eq1 {n : Nat} (h : n ≤ 100000000000) : spec_l1Open.f (n : Int) = some (if n % 2 = 0 then ((n / 2 : Nat) : Int) else -(((n + 1) / 2 : Nat) : Int)) := by
  unfold spec_l1Open.f
  rw [tmod_nn (by omega)]
  by_cases h2 : n % 2 = 0
  · rw [if_neg (by omega), if_pos h2, tdiv_nn (by omega), wrap64_id (by omega) (by omega)]
    congr 1
  · rw [if_pos (by omega), if_neg h2, wrap64_id (x := (n : Int) + 1) (by omega) (by omega), wrap64_id (x := -((n : Int) + 1)) (by omega) (by omega), Int.neg_tdiv, tdiv_nn (by omega), wrap64_id (by omega) (by omega)]
    congr 1
/-- The number of which n is what it is without its sign. -/
def openN (n : Nat) : Int := if n % 2 = 0 then ((n / 2 : Nat) : Int) else -(((n + 1) / 2 : Nat) : Int)
theorem spec_l1Open_eq {n : Nat} (h : n ≤ 100000000000) : spec_l1Open.f (n : Int) = some (openN n) := openN_eq1 h
theorem impl_open_eq {n : Nat} (h : n ≤ 100000000000) : impl_open.f (n : Int) = some (openN n) := by
  rw [← spec_l1Open_eq h]
  unfold spec_l1Open.f impl_open.f
  rw [tmod_nn (by omega)]
  by_cases h2 : n % 2 = 0
  · rw [if_pos (by omega), if_neg (by omega)]
  · rw [if_neg (by omega), if_pos (by omega)]
theorem foldN_open (n : Nat) : foldN (openN n) = n := by
  unfold foldN openN
  by_cases h2 : n % 2 = 0
  · rw [if_pos h2, if_neg (by omega)]
    omega
  · rw [if_neg h2, if_pos (by omega)]
    omega
theorem openN_foldN (x : Int) : openN (foldN x) = x := by
  unfold foldN openN
  by_cases h2 : x < 0
  · rw [if_pos h2, if_neg (by omega)]
    omega
  · rw [if_neg h2, if_pos (by omega)]
    omega
theorem openN_range {n : Nat} (h : n ≤ 2000000000) : -1000000000 ≤ openN n ∧ openN n ≤ 1000000000 := by
  unfold openN
  split <;> omega

/-! #### Bytes as digits -/
/-- What bytes of seven bits each come to, the lowest first. -/
def val : List Nat → Nat
  | [] => 0
  | c :: t => c % 128 + 128 * val t
/-- All but the last one are from 128 on, the last one is below. -/
def endsOk : List Nat → Prop
  | [] => False
  | [c] => c < 128
  | c :: t => 128 ≤ c ∧ endsOk t
def lastN : List Nat → Nat
  | [] => 0
  | [c] => c
  | _ :: t => lastN t
def ints (l : List Nat) : List Int := l.map fun (n : Nat) => (n : Int)
theorem val_zero_last : ∀ (l : List Nat), endsOk l → val l = 0 → lastN l = 0
  | [], h, _ => h.elim
  | [c], h, hv => by
    simp only [val, endsOk, lastN] at *
    omega
  | c :: d :: t, h, hv => by
    simp only [lastN]
    have h2 : endsOk (d :: t) := h.2
    refine val_zero_last (d :: t) h2 ?_
    have : val (c :: d :: t) = c % 128 + 128 * val (d :: t) := rfl
    omega
theorem nb_canon : ∀ (l : List Nat), endsOk l → (∀ c ∈ l, c ≤ 255) → (nb (val l) = ints l ↔ l.length = 1 ∨ 0 < lastN l)
  | [], h, _ => h.elim
  | [c], h, _ => by
    have h1 : c < 128 := h
    have e : val [c] = c := by simp only [val]; omega
    rw [e, nb_small h1]
    simp [ints]
  | c :: d :: t, h, hb => by
    have h1 : 128 ≤ c := h.1
    have h2 : endsOk (d :: t) := h.2
    have hc := hb c (by simp)
    have e : val (c :: d :: t) = c % 128 + 128 * val (d :: t) := rfl
    have el : lastN (c :: d :: t) = lastN (d :: t) := rfl
    have ih := nb_canon (d :: t) h2 (fun x hx => hb x (List.mem_cons_of_mem _ hx))
    rw [el]
    by_cases hv : val (d :: t) = 0
    · have hl := val_zero_last _ h2 hv
      rw [hl, e, hv, nb_small (by omega)]
      simp [ints]
    · rw [e, nb_big (by omega)]
      have e1 : (c % 128 + 128 * val (d :: t)) % 128 + 128 = c := by omega
      have e2 : (c % 128 + 128 * val (d :: t)) / 128 = val (d :: t) := by omega
      rw [e1, e2]
      have e3 : ints (c :: d :: t) = (c : Int) :: ints (d :: t) := rfl
      rw [e3, List.cons_inj_right, ih]
      constructor
      · rintro (hl | hl)
        · have : t = [] := by
            cases t with
            | nil => rfl
            | cons a b => simp at hl
          subst this
          refine .inr ?_
          simp only [lastN]
          simp only [val] at hv
          omega
        · exact .inr hl
      · rintro (hl | hl)
        · simp at hl
        · exact .inr hl
theorem nb_ends (x : Nat) : ∃ (l : List Int) (c : Int), nb x = l ++ [c] ∧ c < 128 := by
  induction x using Nat.strongRecOn with
  | ind x ih =>
    by_cases h : x < 128
    · exact ⟨[], x, by rw [nb_small h]; rfl, by omega⟩
    · obtain ⟨l, c, e, hc⟩ := ih (x / 128) (by omega)
      exact ⟨_ :: l, c, by rw [nb_big h, e]; rfl, hc⟩
theorem nb_range (x : Nat) : ∀ y ∈ nb x, 0 ≤ y ∧ y < 256 := by
  induction x using Nat.strongRecOn with
  | ind x ih =>
    intro y hy
    by_cases h : x < 128
    · rw [nb_small h] at hy
      simp at hy
      omega
    · rw [nb_big h] at hy
      rcases List.mem_cons.1 hy with rfl | hy
      · omega
      · exact ih (x / 128) (by omega) y hy
/-- The bytes from a on, as many as told. -/
def bl (s : ByteArray) (a : Nat) : Nat → List Nat
  | 0 => []
  | m + 1 => byN s a :: bl s (a + 1) m
theorem bl_length (s : ByteArray) (m : Nat) : ∀ a, (bl s a m).length = m := by
  induction m with
  | zero => intro a; rfl
  | succ m ih => intro a; simp [bl, ih]
theorem bl_le (s : ByteArray) (m : Nat) : ∀ a, ∀ c ∈ bl s a m, c ≤ 255 := by
  induction m with
  | zero => intro a c h; cases h
  | succ m ih =>
    intro a c h
    rcases List.mem_cons.1 h with rfl | h
    · exact byN_le s a
    · exact ih _ c h
theorem bl_get (s : ByteArray) (m : Nat) : ∀ a i, i < m → (bl s a m)[i]? = some (byN s (a + i)) := by
  induction m with
  | zero => intro a i h; omega
  | succ m ih =>
    intro a i h
    cases i with
    | zero => rfl
    | succ i =>
      have := ih (a + 1) i (by omega)
      simp only [bl, List.getElem?_cons_succ, this]
      congr 2
      omega
theorem strOf_extract {xs : List Int} (hx : ∀ y ∈ xs, 0 ≤ y ∧ y < 256) (s : ByteArray) (a m : Nat) (h : a + m ≤ s.size) : strOfNums xs = s.extract a (a + m) ↔ xs = ints (bl s a m) := by
  have hsz : (s.extract a (a + m)).size = m := by
    rw [ByteArray.size_extract]
    omega
  have hat : ∀ i (hi : i < m), (s.extract a (a + m)).data.toList[i]? = some (s.data.toList[a + i]'(by rw [Array.length_toList]; show a + i < s.size; omega)) := fun i hi => by
    rw [List.getElem?_eq_getElem (by rw [Array.length_toList]; show i < (s.extract a (a + m)).size; omega)]
    simp [ByteArray.data_extract]
  have hby : ∀ i (hi : i < m), ((s.data.toList[a + i]'(by rw [Array.length_toList]; show a + i < s.size; omega)).toNat : Int) = (byN s (a + i) : Int) := fun i hi => by
    rw [← byN_eq]
    have hlt : (((a + i : Nat) : Int)).toNat < s.size := by omega
    rw [← bt_at s ((a + i : Nat) : Int) hlt]
    rfl
  constructor
  · intro e
    have el : xs.length = m := by rw [← strOfNums_size, e, hsz]
    apply List.ext_getElem?
    intro i
    by_cases hi : i < m
    · have e1 : (strOfNums xs).data.toList[i]? = (s.extract a (a + m)).data.toList[i]? := by rw [e]
      rw [hat i hi] at e1
      simp only [strOfNums, List.getElem?_map] at e1
      rw [List.getElem?_eq_getElem (by omega)] at e1 ⊢
      simp only [Option.map_some, Option.some.injEq] at e1
      have h0 := hx xs[i] (List.getElem_mem (by omega))
      have e2 := congrArg (fun u : UInt8 => (u.toNat : Int)) e1
      simp only [hby i hi, UInt8.toNat_ofNat'] at e2
      rw [ints, List.getElem?_map, bl_get s m a i hi]
      simp only [Option.map_some, Option.some.injEq]
      omega
    · rw [List.getElem?_eq_none (by omega), ints, List.getElem?_map, List.getElem?_eq_none (by rw [bl_length]; omega)]
      rfl
  · intro e
    apply ByteArray.ext
    apply Array.toList_inj.1
    apply List.ext_getElem?
    intro i
    by_cases hi : i < m
    · rw [hat i hi]
      simp only [strOfNums, List.getElem?_map]
      rw [e, ints, List.getElem?_map, bl_get s m a i hi]
      simp only [Option.map_some, Option.some.injEq]
      apply UInt8.toNat_inj.1
      have h2 := hby i hi
      have h3 := byN_le s (a + i)
      rw [UInt8.toNat_ofNat']
      omega
    · rw [List.getElem?_eq_none (by rw [Array.length_toList]; show (strOfNums xs).size ≤ i; rw [strOfNums_size, e, ints, List.length_map, bl_length]; omega), List.getElem?_eq_none (by rw [Array.length_toList]; show (s.extract a (a + m)).size ≤ i; omega)]

/-! #### What stands at a place -/
/-- From the k-th byte on, n read so far: what comes to be read, how many bytes, and the last byte. -/
def rnF (s : ByteArray) (a : Nat) : Nat → Nat → Nat → Option (Nat × Nat × Nat)
  | 0, _, _ => none
  | d + 1, k, n => if a + k < s.size then (if byN s (a + k) < 128 then some (n + byN s (a + k) * 128 ^ k, k + 1, byN s (a + k)) else rnF s a d (k + 1) (n + byN s (a + k) % 128 * 128 ^ k)) else none
theorem rnF_list (s : ByteArray) (a : Nat) : ∀ (d k n n' k' c : Nat), rnF s a d k n = some (n', k', c) → ∃ m, k' = k + m ∧ a + k' ≤ s.size ∧ m ≤ d ∧ n' = n + val (bl s (a + k) m) * 128 ^ k ∧ endsOk (bl s (a + k) m) ∧ lastN (bl s (a + k) m) = c
  | 0, k, n, n', k', c, h => by simp [rnF] at h
  | d + 1, k, n, n', k', c, h => by
    simp only [rnF] at h
    split at h
    · rename_i h1
      split at h
      · rename_i h2
        simp only [Option.some.injEq, Prod.mk.injEq] at h
        obtain ⟨rfl, rfl, rfl⟩ := h
        refine ⟨1, rfl, by omega, by omega, ?_, h2, rfl⟩
        simp only [bl, val]
        rw [Nat.mod_eq_of_lt h2]
        simp
      · rename_i h2
        obtain ⟨m, rfl, h3, h4, h5, h6, h7⟩ := rnF_list s a d (k + 1) _ n' k' c h
        have e : a + k + 1 = a + (k + 1) := by omega
        refine ⟨m + 1, by omega, by omega, by omega, ?_, ?_, ?_⟩
        · rw [h5]
          simp only [bl, val, e]
          rw [Nat.pow_succ, Nat.add_mul, Nat.add_assoc]
          congr 2
          rw [Nat.mul_comm (128 ^ k) 128, ← Nat.mul_assoc, Nat.mul_comm (val _) 128]
        · simp only [bl, e]
          cases m with
          | zero => exact h6.elim
          | succ m => exact ⟨by omega, h6⟩
        · simp only [bl, e]
          cases m with
          | zero => exact h6.elim
          | succ m => exact h7
    · simp at h
theorem val_snoc (s : ByteArray) (m : Nat) : ∀ a, val (bl s a (m + 1)) = val (bl s a m) + byN s (a + m) % 128 * 128 ^ m := by
  induction m with
  | zero => intro a; simp [bl, val]
  | succ m ih =>
    intro a
    have h := ih (a + 1)
    have e : a + 1 + m = a + (m + 1) := by omega
    rw [show bl s a (m + 1 + 1) = byN s a :: bl s (a + 1) (m + 1) from rfl, show bl s a (m + 1) = byN s a :: bl s (a + 1) m from rfl]
    simp only [val]
    rw [h, e, Nat.pow_succ, Nat.mul_add, ← Nat.add_assoc]
    congr 1
    rw [Nat.mul_comm (128 ^ m) 128, ← Nat.mul_assoc, ← Nat.mul_assoc, Nat.mul_comm 128]
theorem ends_of (s : ByteArray) (m : Nat) : ∀ a, (∀ i, i < m → 128 ≤ byN s (a + i)) → byN s (a + m) < 128 → endsOk (bl s a (m + 1)) ∧ lastN (bl s a (m + 1)) = byN s (a + m) := by
  induction m with
  | zero => intro a _ h; exact ⟨h, rfl⟩
  | succ m ih =>
    intro a hall h
    have e : a + 1 + m = a + (m + 1) := by omega
    obtain ⟨h1, h2⟩ := ih (a + 1) (fun i hi => by have := hall (i + 1) (by omega); rwa [show a + (i + 1) = a + 1 + i from by omega] at this) (by rw [e]; exact h)
    rw [e] at h2
    exact ⟨⟨by simpa using hall 0 (by omega), h1⟩, h2⟩
theorem nb_five (s : ByteArray) (a n : Nat) (hall : ∀ i, i < 5 → 128 ≤ byN s (a + i)) : nb n ≠ ints (bl s a 5) := by
  intro e
  obtain ⟨l, c, h1, h2⟩ := nb_ends n
  rw [h1] at e
  have hl := congrArg List.length e
  simp only [List.length_append, List.length_cons, List.length_nil, ints, List.length_map, bl_length] at hl
  have h3 := congrArg (fun z : List Int => z[4]?) e
  simp only [ints, List.getElem?_map, bl_get s 5 a 4 (by omega), Option.map_some] at h3
  rw [List.getElem?_append_right (by omega)] at h3
  have e4 : 4 - l.length = 0 := by omega
  rw [e4] at h3
  simp at h3
  have := hall 4 (by omega)
  omega
theorem or_shift (m : Nat) (hm : m ≤ 28) (n x : Nat) (hn : n < 2 ^ m) (hx : x < 128) : Go.bits .or .i64 (n : Int) (shl .i64 (x : Int) (m : Int)) = ((n + x * 2 ^ m : Nat) : Int) := by
  have hp : 2 ^ m ≤ 2 ^ 28 := Nat.pow_le_pow_right (by decide) hm
  have hxm : x * 2 ^ m ≤ 127 * 2 ^ 28 := Nat.mul_le_mul (by omega) hp
  have hb : (IntKind.i64.bits : Nat) = 64 := rfl
  have e : shl .i64 (x : Int) (m : Int) = ((x * 2 ^ m : Nat) : Int) := by
    unfold shl
    rw [hb, Int.toNat_natCast, Nat.min_eq_left (by omega)]
    have e2 : (x : Int) * 2 ^ m = ((x * 2 ^ m : Nat) : Int) := by push_cast; rfl
    rw [e2]
    exact wraps_i64 _ (by omega) (by omega)
  have hc : Go.bits .or .i64 (n : Int) ((x * 2 ^ m : Nat) : Int) = Go.bits .or .i64 ((x * 2 ^ m : Nat) : Int) (n : Int) := by
    unfold Go.bits
    simp only [BitVec.or_comm]
  rw [e, hc, bits_join .i64 63 (by decide) wraps_i64 m _ _ (by omega) (by exact_mod_cast Nat.mul_mod_left x (2 ^ m)) (by omega) (by omega) (by exact_mod_cast hn) (by omega)]
  omega
theorem pow_128 (k : Nat) : 2 ^ (7 * k) = 128 ^ k := by
  rw [Nat.pow_mul]
theorem or_shift128 (k : Nat) (hk : k ≤ 4) (n x : Nat) (hn : n < 128 ^ k) (hx : x < 128) : Go.bits .or .i64 (n : Int) (shl .i64 (x : Int) ((7 * k : Nat) : Int)) = ((n + x * 128 ^ k : Nat) : Int) := by
  have h := or_shift (7 * k) (by omega) n x (by rw [pow_128]; exact hn) hx
  have e : n + x * 2 ^ (7 * k) = n + x * 128 ^ k := by rw [pow_128]
  exact h.trans (congrArg (fun z : Nat => (z : Int)) e)
def irV (a : Nat) : Option (Nat × Nat × Nat) → Int × Int × Bool
  | none => (0, 0, false)
  | some (n, k, c) => (openN n, ((a + k : Nat) : Int), decide (n ≤ 2000000000 ∧ (k = 1 ∨ 0 < c)))
theorem impl_readNum_l0 (s : ByteArray) (hs : s.size ≤ 1000000) (a : Nat) (ha : a ≤ 1000000) : ∀ d k n : Nat, k + d = 5 → n < 128 ^ k → Ev (fun q => impl_readNum.l0 q s (a : Int) (n : Int) (k : Int)) (irV a (rnF s a d k n))
  | 0, k, n, hk, hn => by
    refine evSucc ?_
    simp only [impl_readNum.l0]
    refine evNeg (by omega) (evSucc ?_)
    simp only [impl_readNum.j1]
    exact evNeg (by simp) (evNow rfl)
  | d + 1, k, n, hk, hn => by
    refine evSucc ?_
    simp only [impl_readNum.l0]
    have e1 : wrap64 ((a : Int) + (k : Int)) = ((a + k : Nat) : Int) := by rw [wrap64_id] <;> omega
    have e7 : wrap64 (7 * (k : Int)) = ((7 * k : Nat) : Int) := by rw [wrap64_id] <;> omega
    refine evPos (by omega) (evSucc ?_)
    simp only [impl_readNum.j1, e1]
    by_cases h : a + k < s.size
    · refine evPos (decide_eq_true (by omega)) (evPos (by omega) (evPos (by omega) ?_))
      simp only [e7, byN_eq]
      have hc := byN_le s (a + k)
      have hk4 : k ≤ 4 := by omega
      have ew : wrap64 ((byN s (a + k) % 128 : Nat) : Int) = ((byN s (a + k) % 128 : Nat) : Int) := wrap64_id (by omega) (by omega)
      have em : Go.bits .and .u8 (byN s (a + k) : Int) 127 = ((byN s (a + k) % 128 : Nat) : Int) := by
        have em0 : Go.bits .and .u8 (byN s (a + k) : Int) 127 = (byN s (a + k) : Int) % 128 := bits_mask .u8 8 (by decide) wraps_u8 7 (by decide) (byN s (a + k) : Int) (by omega) (by omega)
        rw [em0]
        omega
      have hc7 : byN s (a + k) % 128 ≤ 127 := Nat.le_of_lt_succ (Nat.mod_lt _ (by decide))
      have eo : Go.bits .or .i64 (n : Int) (shl .i64 ((byN s (a + k) % 128 : Nat) : Int) ((7 * k : Nat) : Int)) = ((n + byN s (a + k) % 128 * 128 ^ k : Nat) : Int) := by
        exact or_shift128 k hk4 n _ hn (Nat.mod_lt _ (by decide))
      simp only [em, ew, eo]
      clear em ew eo
      refine evPos (by omega) ?_
      have hp : 128 ^ k ≤ 128 ^ 4 := Nat.pow_le_pow_right (by decide) hk4
      have hq : byN s (a + k) % 128 * 128 ^ k ≤ 127 * 128 ^ k := Nat.mul_le_mul_right _ hc7
      have hp2 : 128 ^ (k + 1) = 128 * 128 ^ k := by rw [Nat.pow_succ, Nat.mul_comm]
      have hb1 : n + byN s (a + k) % 128 * 128 ^ k ≤ 100000000000 := by
        clear e1 e7 hc hc7
        omega
      have hb2 : n + byN s (a + k) % 128 * 128 ^ k < 128 ^ (k + 1) := by
        clear e1 e7 hc hc7
        omega
      clear hp hq hp2 hn
      by_cases h2 : byN s (a + k) < 128
      · have e3 : byN s (a + k) % 128 = byN s (a + k) := by omega
        have e4 : wrap64 (((a + k : Nat) : Int) + 1) = ((a + (k + 1) : Nat) : Int) := by rw [wrap64_id] <;> omega
        have er : irV a (rnF s a (d + 1) k n) = (openN (n + byN s (a + k) % 128 * 128 ^ k), ((a + (k + 1) : Nat) : Int), decide (n + byN s (a + k) % 128 * 128 ^ k ≤ 2000000000 ∧ (k + 1 = 1 ∨ 0 < byN s (a + k)))) := by
          simp only [rnF, h, h2, if_true, irV, e3]
        rw [er]
        refine evPos (by omega) (evC (impl_open_eq hb1) ?_)
        simp only [e4]
        by_cases h3 : n + byN s (a + k) % 128 * 128 ^ k ≤ 2000000000
        · refine evPos (by omega) ?_
          by_cases h4 : k = 0
          · refine evPos (by omega) (evNow ?_)
            rw [decide_eq_true (by omega)]
          · refine evNeg (by omega) (evNow ?_)
            congr 2
            apply decide_eq_decide.2
            omega
        · refine evNeg (by omega) (evNow ?_)
          rw [decide_eq_false (by omega)]
      · have er : irV a (rnF s a (d + 1) k n) = irV a (rnF s a d (k + 1) (n + byN s (a + k) % 128 * 128 ^ k)) := by
          simp only [rnF, h, h2, if_true, if_false]
        rw [er]
        have e5 : wrap64 ((k : Int) + 1) = ((k + 1 : Nat) : Int) := wrap64_nat k (by omega)
        refine evNeg (by omega) ?_
        simp only [e5]
        exact impl_readNum_l0 s hs a ha d (k + 1) _ (by omega) hb2
    · refine evNeg (by simp; omega) (evNow ?_)
      simp only [rnF, h, if_false, irV]
theorem impl_readNum_ev (s : ByteArray) (hs : s.size ≤ 1000000) (a : Nat) (ha : a ≤ 1000000) : Ev (fun q => impl_readNum.f q s (a : Int)) (irV a (rnF s a 5 0 0)) := by
  simp only [impl_readNum.f]
  exact impl_readNum_l0 s hs a ha 5 0 0 (by omega) (by simp)
/-- What the reference tells of what was read. -/
def SpecReads (s : ByteArray) (a : Nat) (o : Option (Nat × Nat × Nat)) (r : Int × ByteArray × Int × Bool) : Prop :=
  match o with
  | some (n, k, c) => if n ≤ 2000000000 ∧ (k = 1 ∨ 0 < c) then r = (openN n, s, ((a + k : Nat) : Int), false) else r.2.2.2 = true
  | none => r.2.2.2 = true
theorem spec_num_j1 (s : ByteArray) (hs : s.size ≤ 1000000) (a n m : Nat) (hm : a + m ≤ s.size) (hn : n ≤ 100000000000) (p : Prop) [Decidable p] (hp : n ≤ 2000000000 → (strOfNums (nb n) = s.extract a (a + m) ↔ p)) :
    ∃ r, Ev (fun q => spec_l1B_num.j1 q (a : Int) (n : Int) s ((a + m : Nat) : Int) false) r ∧ (if n ≤ 2000000000 ∧ p then r = (openN n, s, ((a + m : Nat) : Int), false) else r.2.2.2 = true) := by
  by_cases h1 : n ≤ 2000000000
  · have hr := openN_range h1
    have eb := spec_l1NumBytes_ev hr.1 hr.2
    rw [foldN_open] at eb
    by_cases h2 : p
    · refine ⟨(openN n, s, ((a + m : Nat) : Int), false), ?_, by rw [if_pos ⟨h1, h2⟩]⟩
      refine evSucc ?_
      simp only [spec_l1B_num.j1]
      refine evNeg (by simp) (evNeg (by omega) (evC (spec_l1Open_eq hn) (evB eb (evPos (by omega) (evPos (by omega) (evPos (by omega) (evPos ?_ (evC (spec_l1Open_eq hn) (evNow rfl)))))))))
      simp only [Int.toNat_natCast, (hp h1).2 h2]
    · refine ⟨(0, s, ((a + m : Nat) : Int), true), ?_, by rw [if_neg (fun H => h2 H.2)]⟩
      refine evSucc ?_
      simp only [spec_l1B_num.j1]
      refine evNeg (by simp) (evNeg (by omega) (evC (spec_l1Open_eq hn) (evB eb (evPos (by omega) (evPos (by omega) (evPos (by omega) (evNeg ?_ (evNow rfl))))))))
      intro e
      simp only [Int.toNat_natCast] at e
      exact h2 ((hp h1).1 (toList_inj e))
  · refine ⟨(0, s, ((a + m : Nat) : Int), true), ?_, by rw [if_neg (fun H => h1 H.1)]⟩
    refine evSucc ?_
    simp only [spec_l1B_num.j1]
    exact evNeg (by simp) (evPos (by omega) (evNow rfl))
theorem num_step (c n k : Nat) (hp : 128 ^ k ≤ 128 ^ 4) (hn : n < 128 ^ k) (hc : c % 128 ≤ 127) :
    wrap64 ((n : Int) + wrap64 (Int.tmod (c : Int) 128 * ((128 ^ k : Nat) : Int))) = ((n + c % 128 * 128 ^ k : Nat) : Int) ∧ wrap64 (((128 ^ k : Nat) : Int) * 128) = ((128 ^ (k + 1) : Nat) : Int) ∧ n + c % 128 * 128 ^ k ≤ 100000000000 ∧ n + c % 128 * 128 ^ k < 128 ^ (k + 1) := by
  have hq : c % 128 * 128 ^ k ≤ 127 * 128 ^ k := Nat.mul_le_mul_right _ hc
  have et : Int.tmod (c : Int) 128 * ((128 ^ k : Nat) : Int) = ((c % 128 * 128 ^ k : Nat) : Int) := by
    rw [tmod_nn (by omega)]
    push_cast
    rfl
  have hp2 : 128 ^ (k + 1) = 128 ^ k * 128 := Nat.pow_succ ..
  rw [et, hp2]
  generalize c % 128 * 128 ^ k = q at *
  generalize 128 ^ k = p at *
  clear et hc hp2
  refine ⟨?_, ?_, by omega, by omega⟩
  · rw [wrap64_id (x := (q : Int)) (by omega) (by omega), wrap64_id (by omega) (by omega)]
    omega
  · rw [wrap64_id (by omega) (by omega)]
    omega
theorem spec_num_l0 (s : ByteArray) (hs : s.size ≤ 1000000) (a : Nat) (ha : a ≤ 1000000) : ∀ d k n : Nat, k + d = 5 → n < 128 ^ k → (∀ i, i < k → 128 ≤ byN s (a + i)) → n = val (bl s a k) → a + k ≤ s.size →
    ∃ r, Ev (fun q => spec_l1B_num.l0 q (a : Int) (n : Int) ((128 ^ k : Nat) : Int) (k : Int) s ((a + k : Nat) : Int) false) r ∧ SpecReads s a (rnF s a d k n) r
  | 0, k, n, hk, hn, hall, hv, hsz => by
    have hk5 : k = 5 := by omega
    subst hk5
    obtain ⟨r, h1, h2⟩ := spec_num_j1 s hs a n 5 hsz (by omega) False (fun _ => ⟨fun e => nb_five s a n hall ((strOf_extract (nb_range n) s a 5 hsz).1 e), fun h => h.elim⟩)
    rw [if_neg (fun H => H.2)] at h2
    refine ⟨r, ?_, h2⟩
    refine evSucc ?_
    simp only [spec_l1B_num.l0]
    exact evNeg (by omega) h1
  | d + 1, k, n, hk, hn, hall, hv, hsz => by
    by_cases h : a + k < s.size
    · have hc := byN_le s (a + k)
      have hp : 128 ^ k ≤ 128 ^ 4 := Nat.pow_le_pow_right (by decide) (by omega)
      have hc7 : byN s (a + k) % 128 ≤ 127 := Nat.le_of_lt_succ (Nat.mod_lt _ (by decide))
      have E := Aside0.mk (num_step (byN s (a + k)) n k hp hn hc7)
      clear hp hc7 hn
      have e3 : wrap64 ((k : Int) + 1) = ((k + 1 : Nat) : Int) := wrap64_nat k (by omega)
      have e4 : a + k + 1 = a + (k + 1) := by omega
      have hb : spec_l1B_byte1.f s ((a + k : Nat) : Int) false = some ((byN s (a + k) : Int), s, ((a + (k + 1) : Nat) : Int), false) := by
        rw [spec_l1B_byte1_eq s hs (a + k), if_pos h, e4]
      have hv2 : n + byN s (a + k) % 128 * 128 ^ k = val (bl s a (k + 1)) := by rw [val_snoc, hv]
      by_cases h2 : byN s (a + k) < 128
      · obtain ⟨h3, h4⟩ := ends_of s k a hall h2
        have e5 : byN s (a + k) % 128 = byN s (a + k) := Nat.mod_eq_of_lt h2
        have hcan := nb_canon _ h3 (bl_le s (k + 1) a)
        rw [h4, ← hv2, bl_length] at hcan
        obtain ⟨r, h5, h6⟩ := spec_num_j1 s hs a (n + byN s (a + k) % 128 * 128 ^ k) (k + 1) (by omega) E.out.2.2.1 (k + 1 = 1 ∨ 0 < byN s (a + k)) (fun _ => (strOf_extract (nb_range _) s a (k + 1) (by omega)).trans hcan)
        refine ⟨r, ?_, ?_⟩
        · refine evSucc ?_
          simp only [spec_l1B_num.l0]
          refine evPos (by omega) (evC hb ?_)
          simp only [E.out.1]
          exact evPos (by omega) h5
        · simp only [SpecReads, rnF, h, h2, if_true]
          rw [e5] at h6
          exact h6
      · obtain ⟨r, h5, h6⟩ := spec_num_l0 s hs a ha d (k + 1) (n + byN s (a + k) % 128 * 128 ^ k) (by omega) E.out.2.2.2 (fun i hi => by
          by_cases e : i = k
          · subst e; omega
          · exact hall i (by omega)) hv2 (by omega)
        refine ⟨r, ?_, ?_⟩
        · refine evSucc ?_
          simp only [spec_l1B_num.l0]
          refine evPos (by omega) (evC hb ?_)
          simp only [E.out.1, E.out.2.1, e3]
          exact evNeg (by omega) h5
        · simp only [rnF, h, h2, if_true, if_false]
          exact h6
    · refine ⟨(0, s, ((a + k : Nat) : Int), true), ?_, by simp only [SpecReads, rnF, h, if_false]⟩
      refine evSucc ?_
      simp only [spec_l1B_num.l0]
      have hb : spec_l1B_byte1.f s ((a + k : Nat) : Int) false = some (0, s, ((a + k : Nat) : Int), true) := by
        rw [spec_l1B_byte1_eq s hs (a + k), if_neg h]
      refine evPos (by omega) (evC hb (evPos (by omega) (evSucc ?_)))
      simp only [spec_l1B_num.j1]
      exact evPos (by first | rfl | trivial) (evNow rfl)
theorem spec_l1B_num_ev (s : ByteArray) (hs : s.size ≤ 1000000) (a : Nat) (ha : a ≤ s.size) : ∃ r, Ev (fun q => spec_l1B_num.f q s (a : Int) false) r ∧ SpecReads s a (rnF s a 5 0 0) r := by
  simp only [spec_l1B_num.f]
  exact spec_num_l0 s hs a (by omega) 5 0 0 (by omega) (by simp) (fun i hi => by omega) rfl (by omega)
def readNumV (s : ByteArray) (a : Int) : Int × Int × Bool := if placeOk s a = true ∧ (irV a.toNat (rnF s a.toNat 5 0 0)).2.2 = true then ((irV a.toNat (rnF s a.toNat 5 0 0)).1, (irV a.toNat (rnF s a.toNat 5 0 0)).2.1, true) else (0, 0, false)
theorem impl_ReadNum_ev (s : ByteArray) (a : Int) : Ev (fun k => impl_ReadNum.f k s a) (readNumV s a) := by
  simp only [impl_ReadNum.f, impl_isAt_eq, Option.bind_some]
  by_cases h : placeOk s a = true
  · have h2 := of_decide_eq_true h
    obtain ⟨n, rfl⟩ := Int.eq_ofNat_of_zero_le h2.2.1
    refine evPos h (evB (impl_readNum_ev s (by omega) n (by omega)) ?_)
    by_cases h3 : (irV n (rnF s n 5 0 0)).2.2 = true
    · exact evPos h3 (evNow (if_pos ⟨h, h3⟩).symm)
    · exact evNeg h3 (evNow (if_neg fun H => h3 H.2).symm)
  · exact evNeg h (evNow (if_neg fun H => h H.1).symm)
theorem spec_ReadNum_ev (s : ByteArray) (a : Int) : Ev (fun k => spec_ReadNum.f k s a) (readNumV s a) := by
  simp only [spec_ReadNum.f, spec_l1Place_eq, Option.bind_some]
  by_cases h : placeOk s a = true
  · have h2 := of_decide_eq_true h
    obtain ⟨n, rfl⟩ := Int.eq_ofNat_of_zero_le h2.2.1
    obtain ⟨r, h3, h4⟩ := spec_l1B_num_ev s (by omega) n (by omega)
    refine evPos h (evB h3 ?_)
    have key : (r.2.2.2 = true ∧ (irV n (rnF s n 5 0 0)).2.2 = false) ∨ (r.2.2.2 = false ∧ (irV n (rnF s n 5 0 0)).2.2 = true ∧ r.1 = (irV n (rnF s n 5 0 0)).1 ∧ r.2.2.1 = (irV n (rnF s n 5 0 0)).2.1) := by
      generalize rnF s n 5 0 0 = o at h4 ⊢
      match o, h4 with
      | none, h4 => exact .inl ⟨h4, rfl⟩
      | some (m, k, c), h4 =>
        simp only [SpecReads] at h4
        by_cases hc : m ≤ 2000000000 ∧ (k = 1 ∨ 0 < c)
        · rw [if_pos hc] at h4
          subst h4
          exact .inr ⟨rfl, decide_eq_true hc, rfl, rfl⟩
        · rw [if_neg hc] at h4
          exact .inl ⟨h4, decide_eq_false hc⟩
    rcases key with ⟨k1, k2⟩ | ⟨k1, k2, k3, k4⟩
    · refine evPos k1 (evNow (if_neg fun H => ?_).symm)
      have := H.2
      simp only [Int.ofNat_eq_natCast, Int.toNat_natCast] at this
      rw [k2] at this
      cases this
    · refine evNeg (by rw [k1]; simp) (evNow ?_)
      rw [k3, k4]
      exact (if_pos ⟨h, k2⟩).symm
  · exact evNeg h (evNow (if_neg fun H => h H.1).symm)

theorem FnExactReadNum : laws_FnExactReadNum.Pure := by
  intro s a hs _
  refine Ev.rounds (r := true) ?_
  simp only [laws_FnExactReadNum.f]
  by_cases hb : (s.size : Int) > 1048576
  · exact evPos hb (evNow rfl)
  · exact evNeg hb (evB (spec_ReadNum_ev s a) (evB (impl_ReadNum_ev s a) (evPos (by first | rfl | trivial) (evPos (by first | rfl | trivial) (evNeg (by simp) (evNow rfl))))))

end Go.Proofs.Ytdphgdlkchajoaa.Pure
