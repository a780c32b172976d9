/- Each single operation of the abstract machine does what the Go operation does (equality, binary and unary operations, conversions, lengths, new objects). -/
import Derived.Test.YtmcdddghlcllbaaH
import Derived.Laws.StructEq
import Derived.ChangeKeysEq
set_option autoImplicit false
set_option linter.unusedVariables false
set_option linter.unusedSimpArgs false
namespace Go.Proofs.Ytmcdddghlcllbaa.Den
open Classical

section
variable {P : Program} {A : Nat → Prop} {w0 : Start} {e : Env} {h : Hp} {w : World}

theorem scalar_cases {T : TypeId} (hs : scalarT P T = true) : (∃ k, P.underlying T = some (.int k)) ∨ P.underlying T = some .bool ∨ P.underlying T = some .string := by
  unfold scalarT at hs
  split at hs
  · exact .inl ⟨_, by assumption⟩
  · exact .inr (.inl (by assumption))
  · exact .inr (.inr (by assumption))
  · cases hs

theorem eqS_run {T : TypeId} {c d : C} {b : Bool} (hc : eqS P T c d = some b) {x y : Value} (hx : RelC e c x) (hy : RelC e d y) (n : Nat) :
    (Op.equalIn (n + 1) T x y).run P w = .ok b w ∧ isAggT P T = some false := by
  unfold eqS at hc
  split at hc
  · rename_i k k1 a k2 b' hu
    split at hc
    · rename_i hk; subst hk; cases hc; cases hx; cases hy
      exact ⟨run_equalIn_int w n T k1 k a b' hu, by simp [isAggT, hu]⟩
    · cases hc
  · rename_i a b' hu
    cases hc; cases hx; cases hy
    exact ⟨run_equalIn_bool' w n T a b' hu, by simp [isAggT, hu]⟩
  · rename_i a b' hu
    cases hc; cases hx; cases hy
    exact ⟨run_equalIn_string w n T a b' hu, by simp [isAggT, hu]⟩
  · cases hc

theorem RelCs.cons_inv {c : C} {l : List C} {vs : List Value} (h : RelCs e (c :: l) vs) : ∃ v r, vs = v :: r ∧ RelC e c v ∧ RelCs e l r := by
  cases h with | cons a b => exact ⟨_, _, rfl, a, b⟩

theorem drop_cons_get {α : Type} {l : List α} {n : Nat} {v : α} {r : List α} (h : l.drop n = v :: r) : l[n]? = some v ∧ l.drop (n + 1) = r := by
  constructor
  · have := congrArg (fun z => z[0]?) h; simpa using this
  · have := congrArg List.tail h; simpa [List.tail_drop] using this

theorem part_cell {T : TypeId} {cs : Array Value} {n : Nat} {v : Value} (ha : isAggT P T = some false) (h : cs.toList[n]? = some v) : (part T cs n).run P w = .ok v w := by
  have h' : cs[n]? = some v := by simpa using h
  unfold part
  simp [run_isAgg ha, h']

theorem eqFs_run (xs ys : Array Value) (d : Nat) : ∀ (fs : List Field) (n : Nat) (cs ds : List C) (b : Bool), eqFs P fs n cs ds = some b → RelCs e cs (xs.toList.drop n) → RelCs e ds (ys.toList.drop n) →
    (Op.eqFields (d + 1) xs ys fs).run P w = .ok b w
  | [], n, cs, ds, b, h, hx, hy => by simp [eqFs] at h; subst h; simp [Op.eqFields]
  | f :: r, n, [], _, b, h, _, _ => by simp [eqFs] at h
  | f :: r, n, _ :: _, [], b, h, _, _ => by simp [eqFs] at h
  | f :: r, n, c :: cs, d' :: ds, b, h, hx, hy => by
    rw [eqFs] at h
    split at h
    · rename_i hf
      obtain ⟨v, r1, h1, hv, hvr⟩ := hx.cons_inv
      obtain ⟨u, r2, h2, hu, hur⟩ := hy.cons_inv
      split at h
      · rename_i a ha
        obtain ⟨he, hag⟩ := eqS_run (P := P) (w := w) ha hv hu d
        have p1 := part_cell (P := P) (w := w) hag (drop_cons_get h1).1
        have p2 := part_cell (P := P) (w := w) hag (drop_cons_get h2).1
        obtain ⟨hf1, rfl⟩ := hf
        rw [Op.eqFields]
        simp only [if_pos hf1, Sem.run_bind, p1, p2, he, Result.andThen_ok]
        split at h
        · rename_i hr
          cases h
          have hr' : r = [] := List.isEmpty_iff.1 hr
          subst hr'
          cases b <;> simp [Op.eqFields]
        · split at h
          · rename_i b' hb
            cases h
            have ih := eqFs_run xs ys d r (f.offset + 1) cs ds b' hb (by rw [(drop_cons_get h1).2]; exact hvr) (by rw [(drop_cons_get h2).2]; exact hur)
            cases a
            · simp
            · simpa using ih
          · cases h
      · cases h
    · cases h

theorem eqIs_run (E : TypeId) (xs ys : Array Value) (d : Nat) : ∀ (m n : Nat) (cs ds : List C) (b : Bool), eqIs P E m cs ds = some b → RelCs e cs (xs.toList.drop n) → RelCs e ds (ys.toList.drop n) →
    (Op.eqItems (d + 1) E 1 xs ys (List.range' n m)).run P w = .ok b w
  | 0, n, cs, ds, b, h, hx, hy => by simp [eqIs] at h; subst h; simp [Op.eqItems]
  | m + 1, n, [], _, b, h, _, _ => by simp [eqIs] at h
  | m + 1, n, _ :: _, [], b, h, _, _ => by simp [eqIs] at h
  | m + 1, n, c :: cs, d' :: ds, b, h, hx, hy => by
    rw [eqIs] at h
    obtain ⟨v, r1, h1, hv, hvr⟩ := hx.cons_inv
    obtain ⟨u, r2, h2, hu, hur⟩ := hy.cons_inv
    split at h
    · rename_i a ha
      obtain ⟨he, hag⟩ := eqS_run (P := P) (w := w) ha hv hu d
      have p1 := part_cell (P := P) (w := w) hag (drop_cons_get h1).1
      have p2 := part_cell (P := P) (w := w) hag (drop_cons_get h2).1
      rw [List.range'_succ, Op.eqItems]
      simp only [Nat.mul_one, Sem.run_bind, p1, p2, he, Result.andThen_ok]
      split at h
      · rename_i hr
        cases h
        subst hr
        cases b <;> simp [Op.eqItems]
      · split at h
        · rename_i b' hb
          cases h
          have ih := eqIs_run E xs ys d m (n + 1) cs ds b' hb (by rw [(drop_cons_get h1).2]; exact hvr) (by rw [(drop_cons_get h2).2]; exact hur)
          cases a
          · simp
          · simpa using ih
        · cases h
    · cases h

theorem info_of_size {T : TypeId} {n : Nat} (h : sizeT P T = some n) : ∃ i, P.info? T = some i ∧ P.cellsOf T = n := by
  unfold sizeT at h
  cases hi : P.info? T with
  | none => rw [hi] at h; cases h
  | some i => rw [hi] at h; cases h; exact ⟨i, rfl, by simp [Program.cellsOf, hi]⟩

theorem eqV_run {T : TypeId} {xs ys : List C} {b : Bool} (h : eqV P T xs ys = some b) {x y : Value} (hx : RelV e (.agg xs) x) (hy : RelV e (.agg ys) y) :
    (∀ op a c, (eqGuard op T a c x y).run P w = .ok () w) ∧ (Op.equalIn 10000 T x y).run P w = .ok b w := by
  obtain ⟨cs, rfl, hx⟩ := hx
  obtain ⟨ds, rfl, hy⟩ := hy
  unfold eqV at h
  split at h
  · rename_i fs hu
    split at h
    · cases h
    · rename_i hst
      split at h
      · cases h
      · rename_i hg
        have hf : P.fieldsOf T = fs := by simp [Program.fieldsOf, hu]
        refine ⟨fun op a c => run_eqGuard_agg w op T a c cs ds (by simpa using hg), ?_⟩
        rw [show (10000 : Nat) = 9999 + 1 from rfl, run_equalIn_struct (P := P) w 9999 T cs ds (by rw [hf]; exact hu) (by simpa using hst), hf]
        exact eqFs_run cs ds 9998 fs.toList 0 xs ys b h (by simpa using hx) (by simpa using hy)
  · rename_i n E hu
    split at h
    · rename_i hc
      obtain ⟨_, hz, hg⟩ := hc
      obtain ⟨i, hi, hco⟩ := info_of_size hz
      refine ⟨fun op a c => run_eqGuard_agg w op T a c cs ds (by simpa using hg), ?_⟩
      rw [show (10000 : Nat) = 9999 + 1 from rfl, run_equalIn_array w 9999 cs ds hu hi, hco, List.range_eq_range']
      exact eqIs_run E cs ds 9998 n 0 xs ys b h (by simpa using hx) (by simpa using hy)
    · cases h
  · cases h

theorem bin_ok {op : BinOp} {T : TypeId} {va vb : V} {xa xb : Value} {eff : Eff} {x y : Operand} (hs : stBin P op T (isConst x || isConst y) va vb = some eff) (ha : RelV e va xa) (hb : RelV e vb xb) (ht : ∀ t ∈ eff.tests, t.p) :
    ∃ z, (do eqGuard op T x y xa xb; binOp op T xa xb : Sem Value).run P w = .ok z w ∧ RelV e eff.v z ∧ eff.wr = [] := by
  unfold stBin at hs
  split at hs
  · rename_i k a k' b
    simp only [RelV, RelC] at ha hb
    subst ha; subst hb
    have hg : (eqGuard op T x y (.int k a) (.int k' b)).run P w = .ok () w := by unfold eqGuard; cases op <;> simp
    split at hs
    · cases hs
      have hb : 0 ≤ b := ht (test (0 ≤ b)) (by simp)
      refine ⟨_, ?_, rfl, rfl⟩
      rw [Sem.run_bind, hg]
      simp [binOp, Op.shift, show ¬ b < 0 by omega]
    · cases hs
      have hb : 0 ≤ b := ht (test (0 ≤ b)) (by simp)
      refine ⟨_, ?_, rfl, rfl⟩
      rw [Sem.run_bind, hg]
      simp [binOp, Op.shift, show ¬ b < 0 by omega]
    · rename_i h1 h2
      split at hs
      · rename_i hk
        subst hk
        obtain ⟨z, hz, hr, hw⟩ := binI_ok (P := P) (e := e) (w := w) hs ht h1 h2 T
        exact ⟨z, by rw [Sem.run_bind, hg]; exact hz, hr, hw⟩
      · cases hs
  · rename_i a b
    simp only [RelV, RelC] at ha hb
    subst ha; subst hb
    have hg : (eqGuard op T x y (.string a) (.string b)).run P w = .ok () w := by unfold eqGuard; cases op <;> simp
    obtain ⟨z, hz, hr, hw⟩ := strS_ok (P := P) (e := e) (w := w) hs ht T
    exact ⟨z, by rw [Sem.run_bind, hg]; exact hz, hr, hw⟩
  · rename_i a b
    simp only [RelV, RelC] at ha hb
    subst ha; subst hb
    have hg : (eqGuard op T x y (.bool a) (.bool b)).run P w = .ok () w := by unfold eqGuard; cases op <;> simp
    split at hs
    · rename_i hu
      have he := run_equalIn_bool' (P := P) w 9999 T a b hu
      split at hs
      · cases hs
        exact ⟨.bool (a == b), by rw [Sem.run_bind, hg]; simp [binOp, Op.equal, Op.maxDepth, he], rfl, rfl⟩
      · cases hs
        exact ⟨.bool (!(a == b)), by rw [Sem.run_bind, hg]; simp [binOp, Op.equal, Op.maxDepth, he], rfl, rfl⟩
      · cases hs
    · cases hs
  · simp only [RelV, RelC] at ha hb
    subst ha; subst hb
    split at hs
    case isFalse => cases hs
    rename_i hc
    have hg : op = .eql ∨ op = .neq → (eqGuard op T x y .nilIface .nilIface).run P w = .ok () w := by
      intro ho
      unfold eqGuard
      rcases ho with rfl | rfl <;>
      · cases x <;> cases y <;> simp [isConst] at hc ⊢ <;> rfl
    split at hs
    · rename_i ms hu
      have he : (Op.equalIn 10000 T .nilIface .nilIface).run P w = .ok true w := by
        show (Op.equalIn (9999 + 1) T .nilIface .nilIface).run P w = _
        unfold Op.equalIn
        simp [run_underlying hu]
      split at hs
      · cases hs
        exact ⟨.bool true, by rw [Sem.run_bind, hg (.inl rfl)]; simp [binOp, Op.equal, Op.maxDepth, he], rfl, rfl⟩
      · cases hs
        exact ⟨.bool false, by rw [Sem.run_bind, hg (.inr rfl)]; simp [binOp, Op.equal, Op.maxDepth, he], rfl, rfl⟩
      · cases hs
    · cases hs
  · rename_i xs ys
    split at hs
    · obtain ⟨b, hb', hs⟩ := bind_some hs
      rw [okC_eff hs]
      obtain ⟨hg, he⟩ := eqV_run (P := P) (w := w) hb' ha hb
      obtain ⟨cs, rfl, _⟩ := ha
      obtain ⟨ds, rfl, _⟩ := hb
      exact ⟨.bool b, by rw [Sem.run_bind, hg]; simp [run_eql_struct, he], rfl, rfl⟩
    · obtain ⟨b, hb', hs⟩ := bind_some hs
      rw [okC_eff hs]
      obtain ⟨hg, he⟩ := eqV_run (P := P) (w := w) hb' ha hb
      obtain ⟨cs, rfl, _⟩ := ha
      obtain ⟨ds, rfl, _⟩ := hb
      exact ⟨.bool (!b), by rw [Sem.run_bind, hg]; simp [run_neq_struct, he], rfl, rfl⟩
    · cases hs
  · cases hs

theorem un_ok {op : UnOp} {v : V} {x : Value} {eff : Eff} (hs : stUn op v = some eff) (hv : RelV e v x) : ∃ z, (Op.unary op x).run P w = .ok z w ∧ RelV e eff.v z ∧ eff.wr = [] := by
  unfold stUn at hs
  split at hs
  · rename_i k n
    simp only [RelV, RelC] at hv
    subst hv
    cases op <;> simp only at hs <;> try (cases hs; done)
    · cases hs; exact ⟨_, by simp [Op.unary, Op.intArith], rfl, rfl⟩
    · cases hs; exact ⟨_, by simp [Op.unary, Op.intBits]; rfl, rfl, rfl⟩
  · rename_i b
    simp only [RelV, RelC] at hv
    subst hv
    cases op <;> simp only at hs <;> try (cases hs; done)
    cases hs; exact ⟨_, by simp [Op.unary], rfl, rfl⟩
  · cases hs

theorem len_ok (m : Mem A w0 e h w) {T U : TypeId} {v : V} {x : Value} {eff : Eff} (hs : stLen P h T v = some eff) (hv : RelV e v x) : ∃ z, (Builtin.len_ #[T] U #[x]).run P w = .ok z w ∧ RelV e eff.v z ∧ eff.wr = [] := by
  unfold stLen at hs
  split at hs
  · rename_i s hu
    cases hs
    simp only [RelV, RelC] at hv
    subst hv
    exact ⟨_, by simp [Builtin.len_, run_underlying hu]; rfl, rfl, rfl⟩
  · rename_i E t l hu
    cases hs
    obtain ⟨a, c, hx, _⟩ := hv
    cases hx
    exact ⟨_, by simp [Builtin.len_, run_underlying hu]; rfl, rfl, rfl⟩
  · rename_i E hu
    cases hs
    simp only [RelV, RelC] at hv
    subst hv
    exact ⟨_, by simp [Builtin.len_, run_underlying hu]; rfl, rfl, rfl⟩
  · rename_i E id lo hi hu
    have ho := m.hp id
    cases hid : h id <;> rw [hid] at hs ho <;> try (cases hs; done)
    · rename_i t l
      cases hs
      simp only [RelV, RelC] at hv ⊢
      rcases ho with ⟨hl, hn⟩ | ⟨bl, o, cap, cs, E', fz, hl, _⟩
      · rw [hl] at hv
        obtain ⟨h1, h2, rfl⟩ := hv
        subst hn
        refine ⟨.int .i64 0, by simp [Builtin.len_, run_underlying hu]; rfl, ?_, by first | rfl | trivial⟩
        simp only [lenL_eq, List.length_nil, h1, h2]; rfl
      · rw [hl] at hv
        obtain ⟨_, _, a, rfl, _⟩ := hv
        exact ⟨_, by simp [Builtin.len_, run_underlying hu]; rfl, by rw [lenL_eq]; rfl, by first | rfl | trivial⟩
    · rename_i t l
      cases hs
      simp only [RelV, RelC] at hv ⊢
      rcases ho with ⟨hl, hn⟩ | ⟨bl, o, cap, cs, E', fz, hl, _⟩
      · rw [hl] at hv
        obtain ⟨h1, h2, rfl⟩ := hv
        subst hn
        refine ⟨.int .i64 0, by simp [Builtin.len_, run_underlying hu]; rfl, ?_, by first | rfl | trivial⟩
        simp only [lenL_eq, List.length_nil, h1, h2]; rfl
      · rw [hl] at hv
        obtain ⟨_, _, a, rfl, _⟩ := hv
        exact ⟨_, by simp [Builtin.len_, run_underlying hu]; rfl, by rw [lenL_eq]; rfl, by first | rfl | trivial⟩
    · rename_i t k m0
      dsimp only at hs
      cases lo <;> cases hi <;> (try (cases hs; done))
      cases hs
      simp only [RelV, RelC] at hv ⊢
      rcases ho with ⟨hl, hn, _⟩ | ⟨bl, o, cap, hl, _⟩
      · rw [hl] at hv
        obtain ⟨h1, h2, rfl⟩ := hv
        subst hn
        exact ⟨.int .i64 0, by simp [Builtin.len_, run_underlying hu]; rfl, rfl, by first | rfl | trivial⟩
      · rw [hl] at hv
        obtain ⟨_, _, a, rfl, _⟩ := hv
        exact ⟨_, by simp [Builtin.len_, run_underlying hu]; rfl, rfl, by first | rfl | trivial⟩
  · rename_i E t y hu
    cases hpq : h POOL <;> rw [hpq] at hs <;> try (cases hs; done)
    rename_i u pl
    dsimp only at hs
    split at hs
    case isFalse => cases hs
    rename_i hut
    subst hut
    cases hs
    rcases ref_spec m hpq hv with ⟨hrl, a, c, rfl⟩ | ⟨k, b, o, cap, hk, rfl, hl, ⟨_, _, a, rfl, _⟩, hrl⟩
    · rw [hrl]
      exact ⟨.int .i64 0, by simp [Builtin.len_, run_underlying hu]; rfl, rfl, by first | rfl | trivial⟩
    · rw [hrl]
      exact ⟨_, by simp [Builtin.len_, run_underlying hu]; rfl, rfl, by first | rfl | trivial⟩
  · cases hs
end
end Go.Proofs.Ytmcdddghlcllbaa.Den
