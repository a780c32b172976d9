/- The functions that the law FnExactSameScope reaches: what each computes, and that the program's function keeps to it. -/
import Derived.Test.YtdphgdlkchajoaaZa
import Derived.Test.YtdphgdlkchajoaaProg
import Derived.KernelRfl
set_option autoImplicit false
set_option linter.unusedVariables false
set_option linter.unusedSimpArgs false
namespace Go.Proofs.Ytdphgdlkchajoaa.LawFnExactSameScope
open Go.Proofs.Ytdphgdlkchajoaa.Den Go.Proofs

abbrev T1 : Ty := .pair (.int .i64) (.int .i64)
abbrev T2 : Ty := .pair .str T1
abbrev T3 : Ty := .pair .str .str
abbrev T4 : Ty := .pair (.slice T2) T3
abbrev T5 : Ty := .pair (.int .i64) T4
abbrev T6 : Ty := .pair (.int .i64) T5
abbrev T7 : Ty := .pair (.int .i64) T6
abbrev T8 : Ty := .pair .bool (.int .i64)
abbrev T9 : Ty := .pair .str T8
abbrev T10 : Ty := .pair (.int .i64) (.slice T9)
abbrev T11 : Ty := .pair (.int .i64) T10
abbrev T12 : Ty := .pair (.int .i64) T11
abbrev T13 : Ty := .pair (.int .i64) T12
abbrev T14 : Ty := .pair .str T13
abbrev T15 : Ty := .pair (.slice T14) (.slice T3)
abbrev T16 : Ty := .pair (.slice T7) T15
abbrev T17 : Ty := .pair (.slice .str) T16
abbrev T18 : Ty := .pair .str T17

def laws_szStringS.l2 : Nat → (List ByteArray) × Int × Int × Unit → Option (Int × Unit)
  | 0, _ => none
  | k + 1, (x0, x1, x5, _) => (if (decide (x5 < (x0.length : Int))) = true then (if 0 ≤ x5 then (if x5 < (x0.length : Int) then (if (decide ((w64 (x1 - ((rdT .str x0 x5.toNat).size : Int))) < (0 : Int))) = true then (some ((-1), ())) else (laws_szStringS.l2 k (x0, (w64 (x1 - ((rdT .str x0 x5.toNat).size : Int))), (w64 (x5 + (1 : Int))), ()))) else none) else none) else (some (x1, ())))
def laws_szStringS.f (k : Nat) : (List ByteArray) × Int × Unit → Option (Int × Unit) := fun (a0, a1, _) => (if (decide ((w64 (a1 - (a0.length : Int))) < (0 : Int))) = true then (some ((-1), ())) else (laws_szStringS.l2 k (a0, (w64 (a1 - (a0.length : Int))), 0, ())))
def laws_szStringS.fc : Fc := ⟨124, [.c (.list .str), .c (.int .i64)], [], [.c (.int .i64)], laws_szStringS.f⟩
def laws_szStringS.lps : List (Option (Lp (Int × Unit))) := [none, none, some ⟨[(0, .c (.list .str)), (1, .c (.int .i64)), (5, .c (.int .i64))], laws_szStringS.l2⟩]
theorem laws_szStringS.ok : ∀ k, FcOK Try.prog laws_szStringS.fc k := fc_of (tbl := []) (fn := Try.f124) (lps := laws_szStringS.lps) Try.func124 (by kernel_rfl) ctx_nil (fun k x => by kernel_rfl) ⟨.inl ⟨by kernel_rfl, fun _ => rfl, fun k y => by kernel_rfl⟩, trivial⟩

def laws_szField.f (k : Nat) : T2.D × Int × Unit → Option (Int × Unit) := fun (a0, a1, _) => (if (decide ((w64 (a1 - (a0.1.size : Int))) < (0 : Int))) = true then (some ((-1), ())) else (some ((w64 (a1 - (a0.1.size : Int))), ())))
def laws_szField.fc : Fc := ⟨156, [.agg T2, .c (.int .i64)], [], [.c (.int .i64)], laws_szField.f⟩
def laws_szField.lps : List (Option (Lp (Int × Unit))) := []
theorem laws_szField.ok : ∀ k, FcOK Try.prog laws_szField.fc k := fc_of (tbl := []) (fn := Try.f156) (lps := laws_szField.lps) Try.func156 (by kernel_rfl) ctx_nil (fun k x => by kernel_rfl) trivial

def laws_szFieldS.l2 : Nat → (List T2.D) × Int × Int × Unit → Option (Int × Unit)
  | 0, _ => none
  | k + 1, (x0, x1, x5, _) => (if (decide (x5 < (x0.length : Int))) = true then (if 0 ≤ x5 then (if x5 < (x0.length : Int) then ((laws_szField.f k ((rdT T2 x0 x5.toNat), x1, ())).bind fun y1 => (if (decide (y1.1 < (0 : Int))) = true then (some ((-1), ())) else (laws_szFieldS.l2 k (x0, y1.1, (w64 (x5 + (1 : Int))), ())))) else none) else none) else (some (x1, ())))
def laws_szFieldS.f (k : Nat) : (List T2.D) × Int × Unit → Option (Int × Unit) := fun (a0, a1, _) => (if (decide ((w64 (a1 - (a0.length : Int))) < (0 : Int))) = true then (some ((-1), ())) else (laws_szFieldS.l2 k (a0, (w64 (a1 - (a0.length : Int))), 0, ())))
def laws_szFieldS.fc : Fc := ⟨110, [.c (.list T2), .c (.int .i64)], [], [.c (.int .i64)], laws_szFieldS.f⟩
def laws_szFieldS.lps : List (Option (Lp (Int × Unit))) := [none, none, some ⟨[(0, .c (.list T2)), (1, .c (.int .i64)), (5, .c (.int .i64))], laws_szFieldS.l2⟩]
theorem laws_szFieldS.ok : ∀ k, FcOK Try.prog laws_szFieldS.fc k := fc_of (tbl := [laws_szField.fc]) (fn := Try.f110) (lps := laws_szFieldS.lps) Try.func110 (by kernel_rfl) (ctx_cons laws_szField.ok ctx_nil) (fun k x => by kernel_rfl) ⟨.inl ⟨by kernel_rfl, fun _ => rfl, fun k y => by kernel_rfl⟩, trivial⟩

def laws_szType.f (k : Nat) : T7.D × Int × Unit → Option (Int × Unit) := fun (a0, a1, _) => ((laws_szFieldS.f k (a0.2.2.2.1, a1, ())).bind fun y1 => (if (decide (y1.1 < (0 : Int))) = true then (some ((-1), ())) else (if (decide ((w64 (y1.1 - (a0.2.2.2.2.1.size : Int))) < (0 : Int))) = true then (some ((-1), ())) else (if (decide ((w64 ((w64 (y1.1 - (a0.2.2.2.2.1.size : Int))) - (a0.2.2.2.2.2.size : Int))) < (0 : Int))) = true then (some ((-1), ())) else (some ((w64 ((w64 (y1.1 - (a0.2.2.2.2.1.size : Int))) - (a0.2.2.2.2.2.size : Int))), ()))))))
def laws_szType.fc : Fc := ⟨53, [.agg T7, .c (.int .i64)], [], [.c (.int .i64)], laws_szType.f⟩
def laws_szType.lps : List (Option (Lp (Int × Unit))) := []
theorem laws_szType.ok : ∀ k, FcOK Try.prog laws_szType.fc k := fc_of (tbl := [laws_szFieldS.fc]) (fn := Try.f53) (lps := laws_szType.lps) Try.func53 (by kernel_rfl) (ctx_cons laws_szFieldS.ok ctx_nil) (fun k x => by kernel_rfl) trivial

def laws_szTypeS.l2 : Nat → (List T7.D) × Int × Int × Unit → Option (Int × Unit)
  | 0, _ => none
  | k + 1, (x0, x1, x5, _) => (if (decide (x5 < (x0.length : Int))) = true then (if 0 ≤ x5 then (if x5 < (x0.length : Int) then ((laws_szType.f k ((rdT T7 x0 x5.toNat), x1, ())).bind fun y1 => (if (decide (y1.1 < (0 : Int))) = true then (some ((-1), ())) else (laws_szTypeS.l2 k (x0, y1.1, (w64 (x5 + (1 : Int))), ())))) else none) else none) else (some (x1, ())))
def laws_szTypeS.f (k : Nat) : (List T7.D) × Int × Unit → Option (Int × Unit) := fun (a0, a1, _) => (if (decide ((w64 (a1 - (a0.length : Int))) < (0 : Int))) = true then (some ((-1), ())) else (laws_szTypeS.l2 k (a0, (w64 (a1 - (a0.length : Int))), 0, ())))
def laws_szTypeS.fc : Fc := ⟨125, [.c (.list T7), .c (.int .i64)], [], [.c (.int .i64)], laws_szTypeS.f⟩
def laws_szTypeS.lps : List (Option (Lp (Int × Unit))) := [none, none, some ⟨[(0, .c (.list T7)), (1, .c (.int .i64)), (5, .c (.int .i64))], laws_szTypeS.l2⟩]
theorem laws_szTypeS.ok : ∀ k, FcOK Try.prog laws_szTypeS.fc k := fc_of (tbl := [laws_szType.fc]) (fn := Try.f125) (lps := laws_szTypeS.lps) Try.func125 (by kernel_rfl) (ctx_cons laws_szType.ok ctx_nil) (fun k x => by kernel_rfl) ⟨.inl ⟨by kernel_rfl, fun _ => rfl, fun k y => by kernel_rfl⟩, trivial⟩

def laws_szParam.f (k : Nat) : T9.D × Int × Unit → Option (Int × Unit) := fun (a0, a1, _) => (if (decide ((w64 (a1 - (a0.1.size : Int))) < (0 : Int))) = true then (some ((-1), ())) else (some ((w64 (a1 - (a0.1.size : Int))), ())))
def laws_szParam.fc : Fc := ⟨152, [.agg T9, .c (.int .i64)], [], [.c (.int .i64)], laws_szParam.f⟩
def laws_szParam.lps : List (Option (Lp (Int × Unit))) := []
theorem laws_szParam.ok : ∀ k, FcOK Try.prog laws_szParam.fc k := fc_of (tbl := []) (fn := Try.f152) (lps := laws_szParam.lps) Try.func152 (by kernel_rfl) ctx_nil (fun k x => by kernel_rfl) trivial

def laws_szParamS.l2 : Nat → (List T9.D) × Int × Int × Unit → Option (Int × Unit)
  | 0, _ => none
  | k + 1, (x0, x1, x5, _) => (if (decide (x5 < (x0.length : Int))) = true then (if 0 ≤ x5 then (if x5 < (x0.length : Int) then ((laws_szParam.f k ((rdT T9 x0 x5.toNat), x1, ())).bind fun y1 => (if (decide (y1.1 < (0 : Int))) = true then (some ((-1), ())) else (laws_szParamS.l2 k (x0, y1.1, (w64 (x5 + (1 : Int))), ())))) else none) else none) else (some (x1, ())))
def laws_szParamS.f (k : Nat) : (List T9.D) × Int × Unit → Option (Int × Unit) := fun (a0, a1, _) => (if (decide ((w64 (a1 - (a0.length : Int))) < (0 : Int))) = true then (some ((-1), ())) else (laws_szParamS.l2 k (a0, (w64 (a1 - (a0.length : Int))), 0, ())))
def laws_szParamS.fc : Fc := ⟨104, [.c (.list T9), .c (.int .i64)], [], [.c (.int .i64)], laws_szParamS.f⟩
def laws_szParamS.lps : List (Option (Lp (Int × Unit))) := [none, none, some ⟨[(0, .c (.list T9)), (1, .c (.int .i64)), (5, .c (.int .i64))], laws_szParamS.l2⟩]
theorem laws_szParamS.ok : ∀ k, FcOK Try.prog laws_szParamS.fc k := fc_of (tbl := [laws_szParam.fc]) (fn := Try.f104) (lps := laws_szParamS.lps) Try.func104 (by kernel_rfl) (ctx_cons laws_szParam.ok ctx_nil) (fun k x => by kernel_rfl) ⟨.inl ⟨by kernel_rfl, fun _ => rfl, fun k y => by kernel_rfl⟩, trivial⟩

def laws_szObject.f (k : Nat) : T14.D × Int × Unit → Option (Int × Unit) := fun (a0, a1, _) => (if (decide ((w64 (a1 - (a0.1.size : Int))) < (0 : Int))) = true then (some ((-1), ())) else ((laws_szParamS.f k (a0.2.2.2.2.2, (w64 (a1 - (a0.1.size : Int))), ())).bind fun y1 => (if (decide (y1.1 < (0 : Int))) = true then (some ((-1), ())) else (some (y1.1, ())))))
def laws_szObject.fc : Fc := ⟨48, [.agg T14, .c (.int .i64)], [], [.c (.int .i64)], laws_szObject.f⟩
def laws_szObject.lps : List (Option (Lp (Int × Unit))) := []
theorem laws_szObject.ok : ∀ k, FcOK Try.prog laws_szObject.fc k := fc_of (tbl := [laws_szParamS.fc]) (fn := Try.f48) (lps := laws_szObject.lps) Try.func48 (by kernel_rfl) (ctx_cons laws_szParamS.ok ctx_nil) (fun k x => by kernel_rfl) trivial

def laws_szObjectS.l2 : Nat → (List T14.D) × Int × Int × Unit → Option (Int × Unit)
  | 0, _ => none
  | k + 1, (x0, x1, x5, _) => (if (decide (x5 < (x0.length : Int))) = true then (if 0 ≤ x5 then (if x5 < (x0.length : Int) then ((laws_szObject.f k ((rdT T14 x0 x5.toNat), x1, ())).bind fun y1 => (if (decide (y1.1 < (0 : Int))) = true then (some ((-1), ())) else (laws_szObjectS.l2 k (x0, y1.1, (w64 (x5 + (1 : Int))), ())))) else none) else none) else (some (x1, ())))
def laws_szObjectS.f (k : Nat) : (List T14.D) × Int × Unit → Option (Int × Unit) := fun (a0, a1, _) => (if (decide ((w64 (a1 - (a0.length : Int))) < (0 : Int))) = true then (some ((-1), ())) else (laws_szObjectS.l2 k (a0, (w64 (a1 - (a0.length : Int))), 0, ())))
def laws_szObjectS.fc : Fc := ⟨126, [.c (.list T14), .c (.int .i64)], [], [.c (.int .i64)], laws_szObjectS.f⟩
def laws_szObjectS.lps : List (Option (Lp (Int × Unit))) := [none, none, some ⟨[(0, .c (.list T14)), (1, .c (.int .i64)), (5, .c (.int .i64))], laws_szObjectS.l2⟩]
theorem laws_szObjectS.ok : ∀ k, FcOK Try.prog laws_szObjectS.fc k := fc_of (tbl := [laws_szObject.fc]) (fn := Try.f126) (lps := laws_szObjectS.lps) Try.func126 (by kernel_rfl) (ctx_cons laws_szObject.ok ctx_nil) (fun k x => by kernel_rfl) ⟨.inl ⟨by kernel_rfl, fun _ => rfl, fun k y => by kernel_rfl⟩, trivial⟩

def laws_szUse.f (k : Nat) : T3.D × Int × Unit → Option (Int × Unit) := fun (a0, a1, _) => (if (decide ((w64 (a1 - (a0.1.size : Int))) < (0 : Int))) = true then (some ((-1), ())) else (if (decide ((w64 ((w64 (a1 - (a0.1.size : Int))) - (a0.2.size : Int))) < (0 : Int))) = true then (some ((-1), ())) else (some ((w64 ((w64 (a1 - (a0.1.size : Int))) - (a0.2.size : Int))), ()))))
def laws_szUse.fc : Fc := ⟨170, [.agg T3, .c (.int .i64)], [], [.c (.int .i64)], laws_szUse.f⟩
def laws_szUse.lps : List (Option (Lp (Int × Unit))) := []
theorem laws_szUse.ok : ∀ k, FcOK Try.prog laws_szUse.fc k := fc_of (tbl := []) (fn := Try.f170) (lps := laws_szUse.lps) Try.func170 (by kernel_rfl) ctx_nil (fun k x => by kernel_rfl) trivial

def laws_szUseS.l2 : Nat → (List T3.D) × Int × Int × Unit → Option (Int × Unit)
  | 0, _ => none
  | k + 1, (x0, x1, x5, _) => (if (decide (x5 < (x0.length : Int))) = true then (if 0 ≤ x5 then (if x5 < (x0.length : Int) then ((laws_szUse.f k ((rdT T3 x0 x5.toNat), x1, ())).bind fun y1 => (if (decide (y1.1 < (0 : Int))) = true then (some ((-1), ())) else (laws_szUseS.l2 k (x0, y1.1, (w64 (x5 + (1 : Int))), ())))) else none) else none) else (some (x1, ())))
def laws_szUseS.f (k : Nat) : (List T3.D) × Int × Unit → Option (Int × Unit) := fun (a0, a1, _) => (if (decide ((w64 (a1 - (a0.length : Int))) < (0 : Int))) = true then (some ((-1), ())) else (laws_szUseS.l2 k (a0, (w64 (a1 - (a0.length : Int))), 0, ())))
def laws_szUseS.fc : Fc := ⟨127, [.c (.list T3), .c (.int .i64)], [], [.c (.int .i64)], laws_szUseS.f⟩
def laws_szUseS.lps : List (Option (Lp (Int × Unit))) := [none, none, some ⟨[(0, .c (.list T3)), (1, .c (.int .i64)), (5, .c (.int .i64))], laws_szUseS.l2⟩]
theorem laws_szUseS.ok : ∀ k, FcOK Try.prog laws_szUseS.fc k := fc_of (tbl := [laws_szUse.fc]) (fn := Try.f127) (lps := laws_szUseS.lps) Try.func127 (by kernel_rfl) (ctx_cons laws_szUse.ok ctx_nil) (fun k x => by kernel_rfl) ⟨.inl ⟨by kernel_rfl, fun _ => rfl, fun k y => by kernel_rfl⟩, trivial⟩

def laws_szScope.f (k : Nat) : T18.D × Int × Unit → Option (Int × Unit) := fun (a0, a1, _) => (if (decide ((w64 (a1 - (a0.1.size : Int))) < (0 : Int))) = true then (some ((-1), ())) else ((laws_szStringS.f k (a0.2.1, (w64 (a1 - (a0.1.size : Int))), ())).bind fun y1 => (if (decide (y1.1 < (0 : Int))) = true then (some ((-1), ())) else ((laws_szTypeS.f k (a0.2.2.1, y1.1, ())).bind fun y2 => (if (decide (y2.1 < (0 : Int))) = true then (some ((-1), ())) else ((laws_szObjectS.f k (a0.2.2.2.1, y2.1, ())).bind fun y3 => (if (decide (y3.1 < (0 : Int))) = true then (some ((-1), ())) else ((laws_szUseS.f k (a0.2.2.2.2, y3.1, ())).bind fun y4 => (if (decide (y4.1 < (0 : Int))) = true then (some ((-1), ())) else (some (y4.1, ())))))))))))
def laws_szScope.fc : Fc := ⟨63, [.agg T18, .c (.int .i64)], [], [.c (.int .i64)], laws_szScope.f⟩
def laws_szScope.lps : List (Option (Lp (Int × Unit))) := []
theorem laws_szScope.ok : ∀ k, FcOK Try.prog laws_szScope.fc k := fc_of (tbl := [laws_szStringS.fc, laws_szTypeS.fc, laws_szObjectS.fc, laws_szUseS.fc]) (fn := Try.f63) (lps := laws_szScope.lps) Try.func63 (by kernel_rfl) (ctx_cons laws_szStringS.ok (ctx_cons laws_szTypeS.ok (ctx_cons laws_szObjectS.ok (ctx_cons laws_szUseS.ok ctx_nil)))) (fun k x => by kernel_rfl) trivial

def laws_toStringS.l1 : Nat → (List ByteArray) × (List ByteArray) × Int × Unit → Option ((List ByteArray) × Unit)
  | 0, _ => none
  | k + 1, (x0, x3, x4, _) => (if (decide (x4 < (x0.length : Int))) = true then (if 0 ≤ x4 then (if x4 < (x0.length : Int) then (if 0 ≤ x4 then (if x4 < (x3.length : Int) then (laws_toStringS.l1 k (x0, (x3.set x4.toNat (rdT .str x0 x4.toNat)), (w64 (x4 + (1 : Int))), ())) else none) else none) else none) else none) else (some (x3, ())))
def laws_toStringS.f (k : Nat) : (List ByteArray) × Unit → Option ((List ByteArray) × Unit) := fun (a0, _) => (if 0 ≤ (a0.length : Int) then (if (a0.length : Int) ≤ (a0.length : Int) then (if (a0.length : Int) ≤ (big : Int) then (laws_toStringS.l1 k (a0, (List.replicate ((a0.length : Int).toNat) ByteArray.empty), 0, ())) else none) else none) else none)
def laws_toStringS.fc : Fc := ⟨131, [.c (.list .str)], [], [.c (.arr .str)], laws_toStringS.f⟩
def laws_toStringS.lps : List (Option (Lp ((List ByteArray) × Unit))) := [none, some ⟨[(0, .c (.list .str)), (3, .c (.arr .str)), (4, .c (.int .i64))], laws_toStringS.l1⟩]
theorem laws_toStringS.ok : ∀ k, FcOK Try.prog laws_toStringS.fc k := fc_of (tbl := []) (fn := Try.f131) (lps := laws_toStringS.lps) Try.func131 (by kernel_rfl) ctx_nil (fun k x => by kernel_rfl) ⟨.inl ⟨by kernel_rfl, fun _ => rfl, fun k y => by kernel_rfl⟩, trivial⟩

def laws_toField.f (k : Nat) : T2.D × Unit → Option (T2.D × Unit) := fun (a0, _) => (some (a0, ()))
def laws_toField.fc : Fc := ⟨159, [.agg T2], [], [.agg T2], laws_toField.f⟩
def laws_toField.lps : List (Option (Lp (T2.D × Unit))) := []
theorem laws_toField.ok : ∀ k, FcOK Try.prog laws_toField.fc k := fc_of (tbl := []) (fn := Try.f159) (lps := laws_toField.lps) Try.func159 (by kernel_rfl) ctx_nil (fun k x => by kernel_rfl) trivial

def laws_toFieldS.l1 : Nat → (List T2.D) × (List T2.D) × Int × Unit → Option ((List T2.D) × Unit)
  | 0, _ => none
  | k + 1, (x0, x3, x4, _) => (if (decide (x4 < (x0.length : Int))) = true then (if 0 ≤ x4 then (if x4 < (x0.length : Int) then ((laws_toField.f k ((rdT T2 x0 x4.toNat), ())).bind fun y1 => (if 0 ≤ x4 then (if x4 < (x3.length : Int) then (laws_toFieldS.l1 k (x0, (x3.set x4.toNat y1.1), (w64 (x4 + (1 : Int))), ())) else none) else none)) else none) else none) else (some (x3, ())))
def laws_toFieldS.f (k : Nat) : (List T2.D) × Unit → Option ((List T2.D) × Unit) := fun (a0, _) => (if 0 ≤ (a0.length : Int) then (if (a0.length : Int) ≤ (a0.length : Int) then (if (a0.length : Int) ≤ (big : Int) then (laws_toFieldS.l1 k (a0, (List.replicate ((a0.length : Int).toNat) (ByteArray.empty, (0, 0))), 0, ())) else none) else none) else none)
def laws_toFieldS.fc : Fc := ⟨113, [.c (.list T2)], [], [.c (.arr T2)], laws_toFieldS.f⟩
def laws_toFieldS.lps : List (Option (Lp ((List T2.D) × Unit))) := [none, some ⟨[(0, .c (.list T2)), (3, .c (.arr T2)), (4, .c (.int .i64))], laws_toFieldS.l1⟩]
theorem laws_toFieldS.ok : ∀ k, FcOK Try.prog laws_toFieldS.fc k := fc_of (tbl := [laws_toField.fc]) (fn := Try.f113) (lps := laws_toFieldS.lps) Try.func113 (by kernel_rfl) (ctx_cons laws_toField.ok ctx_nil) (fun k x => by kernel_rfl) ⟨.inl ⟨by kernel_rfl, fun _ => rfl, fun k y => by kernel_rfl⟩, trivial⟩

def laws_toType.f (k : Nat) : T7.D × Unit → Option (T7.D × Unit) := fun (a0, _) => ((laws_toFieldS.f k (a0.2.2.2.1, ())).bind fun y1 => (some ((a0.1, (a0.2.1, (a0.2.2.1, (y1.1, a0.2.2.2.2)))), ())))
def laws_toType.fc : Fc := ⟨55, [.agg T7], [], [.agg T7], laws_toType.f⟩
def laws_toType.lps : List (Option (Lp (T7.D × Unit))) := []
theorem laws_toType.ok : ∀ k, FcOK Try.prog laws_toType.fc k := fc_of (tbl := [laws_toFieldS.fc]) (fn := Try.f55) (lps := laws_toType.lps) Try.func55 (by kernel_rfl) (ctx_cons laws_toFieldS.ok ctx_nil) (fun k x => by kernel_rfl) trivial

def laws_toTypeS.l1 : Nat → (List T7.D) × (List T7.D) × Int × Unit → Option ((List T7.D) × Unit)
  | 0, _ => none
  | k + 1, (x0, x3, x4, _) => (if (decide (x4 < (x0.length : Int))) = true then (if 0 ≤ x4 then (if x4 < (x0.length : Int) then ((laws_toType.f k ((rdT T7 x0 x4.toNat), ())).bind fun y1 => (if 0 ≤ x4 then (if x4 < (x3.length : Int) then (laws_toTypeS.l1 k (x0, (x3.set x4.toNat y1.1), (w64 (x4 + (1 : Int))), ())) else none) else none)) else none) else none) else (some (x3, ())))
def laws_toTypeS.f (k : Nat) : (List T7.D) × Unit → Option ((List T7.D) × Unit) := fun (a0, _) => (if 0 ≤ (a0.length : Int) then (if (a0.length : Int) ≤ (a0.length : Int) then (if (a0.length : Int) ≤ (big : Int) then (laws_toTypeS.l1 k (a0, (List.replicate ((a0.length : Int).toNat) (0, (0, (0, ([], (ByteArray.empty, ByteArray.empty)))))), 0, ())) else none) else none) else none)
def laws_toTypeS.fc : Fc := ⟨132, [.c (.list T7)], [], [.c (.arr T7)], laws_toTypeS.f⟩
def laws_toTypeS.lps : List (Option (Lp ((List T7.D) × Unit))) := [none, some ⟨[(0, .c (.list T7)), (3, .c (.arr T7)), (4, .c (.int .i64))], laws_toTypeS.l1⟩]
theorem laws_toTypeS.ok : ∀ k, FcOK Try.prog laws_toTypeS.fc k := fc_of (tbl := [laws_toType.fc]) (fn := Try.f132) (lps := laws_toTypeS.lps) Try.func132 (by kernel_rfl) (ctx_cons laws_toType.ok ctx_nil) (fun k x => by kernel_rfl) ⟨.inl ⟨by kernel_rfl, fun _ => rfl, fun k y => by kernel_rfl⟩, trivial⟩

def laws_toParam.f (k : Nat) : T9.D × Unit → Option (T9.D × Unit) := fun (a0, _) => (some (a0, ()))
def laws_toParam.fc : Fc := ⟨153, [.agg T9], [], [.agg T9], laws_toParam.f⟩
def laws_toParam.lps : List (Option (Lp (T9.D × Unit))) := []
theorem laws_toParam.ok : ∀ k, FcOK Try.prog laws_toParam.fc k := fc_of (tbl := []) (fn := Try.f153) (lps := laws_toParam.lps) Try.func153 (by kernel_rfl) ctx_nil (fun k x => by kernel_rfl) trivial

def laws_toParamS.l1 : Nat → (List T9.D) × (List T9.D) × Int × Unit → Option ((List T9.D) × Unit)
  | 0, _ => none
  | k + 1, (x0, x3, x4, _) => (if (decide (x4 < (x0.length : Int))) = true then (if 0 ≤ x4 then (if x4 < (x0.length : Int) then ((laws_toParam.f k ((rdT T9 x0 x4.toNat), ())).bind fun y1 => (if 0 ≤ x4 then (if x4 < (x3.length : Int) then (laws_toParamS.l1 k (x0, (x3.set x4.toNat y1.1), (w64 (x4 + (1 : Int))), ())) else none) else none)) else none) else none) else (some (x3, ())))
def laws_toParamS.f (k : Nat) : (List T9.D) × Unit → Option ((List T9.D) × Unit) := fun (a0, _) => (if 0 ≤ (a0.length : Int) then (if (a0.length : Int) ≤ (a0.length : Int) then (if (a0.length : Int) ≤ (big : Int) then (laws_toParamS.l1 k (a0, (List.replicate ((a0.length : Int).toNat) (ByteArray.empty, (false, 0))), 0, ())) else none) else none) else none)
def laws_toParamS.fc : Fc := ⟨107, [.c (.list T9)], [], [.c (.arr T9)], laws_toParamS.f⟩
def laws_toParamS.lps : List (Option (Lp ((List T9.D) × Unit))) := [none, some ⟨[(0, .c (.list T9)), (3, .c (.arr T9)), (4, .c (.int .i64))], laws_toParamS.l1⟩]
theorem laws_toParamS.ok : ∀ k, FcOK Try.prog laws_toParamS.fc k := fc_of (tbl := [laws_toParam.fc]) (fn := Try.f107) (lps := laws_toParamS.lps) Try.func107 (by kernel_rfl) (ctx_cons laws_toParam.ok ctx_nil) (fun k x => by kernel_rfl) ⟨.inl ⟨by kernel_rfl, fun _ => rfl, fun k y => by kernel_rfl⟩, trivial⟩

def laws_toObject.f (k : Nat) : T14.D × Unit → Option (T14.D × Unit) := fun (a0, _) => ((laws_toParamS.f k (a0.2.2.2.2.2, ())).bind fun y1 => (some ((a0.1, (a0.2.1, (a0.2.2.1, (a0.2.2.2.1, (a0.2.2.2.2.1, y1.1))))), ())))
def laws_toObject.fc : Fc := ⟨50, [.agg T14], [], [.agg T14], laws_toObject.f⟩
def laws_toObject.lps : List (Option (Lp (T14.D × Unit))) := []
theorem laws_toObject.ok : ∀ k, FcOK Try.prog laws_toObject.fc k := fc_of (tbl := [laws_toParamS.fc]) (fn := Try.f50) (lps := laws_toObject.lps) Try.func50 (by kernel_rfl) (ctx_cons laws_toParamS.ok ctx_nil) (fun k x => by kernel_rfl) trivial

def laws_toObjectS.l1 : Nat → (List T14.D) × (List T14.D) × Int × Unit → Option ((List T14.D) × Unit)
  | 0, _ => none
  | k + 1, (x0, x3, x4, _) => (if (decide (x4 < (x0.length : Int))) = true then (if 0 ≤ x4 then (if x4 < (x0.length : Int) then ((laws_toObject.f k ((rdT T14 x0 x4.toNat), ())).bind fun y1 => (if 0 ≤ x4 then (if x4 < (x3.length : Int) then (laws_toObjectS.l1 k (x0, (x3.set x4.toNat y1.1), (w64 (x4 + (1 : Int))), ())) else none) else none)) else none) else none) else (some (x3, ())))
def laws_toObjectS.f (k : Nat) : (List T14.D) × Unit → Option ((List T14.D) × Unit) := fun (a0, _) => (if 0 ≤ (a0.length : Int) then (if (a0.length : Int) ≤ (a0.length : Int) then (if (a0.length : Int) ≤ (big : Int) then (laws_toObjectS.l1 k (a0, (List.replicate ((a0.length : Int).toNat) (ByteArray.empty, (0, (0, (0, (0, [])))))), 0, ())) else none) else none) else none)
def laws_toObjectS.fc : Fc := ⟨133, [.c (.list T14)], [], [.c (.arr T14)], laws_toObjectS.f⟩
def laws_toObjectS.lps : List (Option (Lp ((List T14.D) × Unit))) := [none, some ⟨[(0, .c (.list T14)), (3, .c (.arr T14)), (4, .c (.int .i64))], laws_toObjectS.l1⟩]
theorem laws_toObjectS.ok : ∀ k, FcOK Try.prog laws_toObjectS.fc k := fc_of (tbl := [laws_toObject.fc]) (fn := Try.f133) (lps := laws_toObjectS.lps) Try.func133 (by kernel_rfl) (ctx_cons laws_toObject.ok ctx_nil) (fun k x => by kernel_rfl) ⟨.inl ⟨by kernel_rfl, fun _ => rfl, fun k y => by kernel_rfl⟩, trivial⟩

def laws_toUse.f (k : Nat) : T3.D × Unit → Option (T3.D × Unit) := fun (a0, _) => (some (a0, ()))
def laws_toUse.fc : Fc := ⟨171, [.agg T3], [], [.agg T3], laws_toUse.f⟩
def laws_toUse.lps : List (Option (Lp (T3.D × Unit))) := []
theorem laws_toUse.ok : ∀ k, FcOK Try.prog laws_toUse.fc k := fc_of (tbl := []) (fn := Try.f171) (lps := laws_toUse.lps) Try.func171 (by kernel_rfl) ctx_nil (fun k x => by kernel_rfl) trivial

def laws_toUseS.l1 : Nat → (List T3.D) × (List T3.D) × Int × Unit → Option ((List T3.D) × Unit)
  | 0, _ => none
  | k + 1, (x0, x3, x4, _) => (if (decide (x4 < (x0.length : Int))) = true then (if 0 ≤ x4 then (if x4 < (x0.length : Int) then ((laws_toUse.f k ((rdT T3 x0 x4.toNat), ())).bind fun y1 => (if 0 ≤ x4 then (if x4 < (x3.length : Int) then (laws_toUseS.l1 k (x0, (x3.set x4.toNat y1.1), (w64 (x4 + (1 : Int))), ())) else none) else none)) else none) else none) else (some (x3, ())))
def laws_toUseS.f (k : Nat) : (List T3.D) × Unit → Option ((List T3.D) × Unit) := fun (a0, _) => (if 0 ≤ (a0.length : Int) then (if (a0.length : Int) ≤ (a0.length : Int) then (if (a0.length : Int) ≤ (big : Int) then (laws_toUseS.l1 k (a0, (List.replicate ((a0.length : Int).toNat) (ByteArray.empty, ByteArray.empty)), 0, ())) else none) else none) else none)
def laws_toUseS.fc : Fc := ⟨134, [.c (.list T3)], [], [.c (.arr T3)], laws_toUseS.f⟩
def laws_toUseS.lps : List (Option (Lp ((List T3.D) × Unit))) := [none, some ⟨[(0, .c (.list T3)), (3, .c (.arr T3)), (4, .c (.int .i64))], laws_toUseS.l1⟩]
theorem laws_toUseS.ok : ∀ k, FcOK Try.prog laws_toUseS.fc k := fc_of (tbl := [laws_toUse.fc]) (fn := Try.f134) (lps := laws_toUseS.lps) Try.func134 (by kernel_rfl) (ctx_cons laws_toUse.ok ctx_nil) (fun k x => by kernel_rfl) ⟨.inl ⟨by kernel_rfl, fun _ => rfl, fun k y => by kernel_rfl⟩, trivial⟩

def laws_toScope.f (k : Nat) : T18.D × Unit → Option (T18.D × Unit) := fun (a0, _) => ((laws_toStringS.f k (a0.2.1, ())).bind fun y1 => ((laws_toTypeS.f k (a0.2.2.1, ())).bind fun y2 => ((laws_toObjectS.f k (a0.2.2.2.1, ())).bind fun y3 => ((laws_toUseS.f k (a0.2.2.2.2, ())).bind fun y4 => (some ((a0.1, (y1.1, (y2.1, (y3.1, y4.1)))), ()))))))
def laws_toScope.fc : Fc := ⟨65, [.agg T18], [], [.agg T18], laws_toScope.f⟩
def laws_toScope.lps : List (Option (Lp (T18.D × Unit))) := []
theorem laws_toScope.ok : ∀ k, FcOK Try.prog laws_toScope.fc k := fc_of (tbl := [laws_toStringS.fc, laws_toTypeS.fc, laws_toObjectS.fc, laws_toUseS.fc]) (fn := Try.f65) (lps := laws_toScope.lps) Try.func65 (by kernel_rfl) (ctx_cons laws_toStringS.ok (ctx_cons laws_toTypeS.ok (ctx_cons laws_toObjectS.ok (ctx_cons laws_toUseS.ok ctx_nil)))) (fun k x => by kernel_rfl) trivial

def spec_l4SameNames.l2 : Nat → (List ByteArray) × (List ByteArray) × Int × Int × Unit → Option (Bool × Unit)
  | 0, _ => none
  | k + 1, (x0, x1, x12, x13, _) => (if (decide (x13 < x12)) = true then (if 0 ≤ x13 then (if x13 < (x0.length : Int) then (if 0 ≤ x13 then (if x13 < (x1.length : Int) then (if (!((rdT .str x0 x13.toNat).toList == (rdT .str x1 x13.toNat).toList)) = true then (some (false, ())) else (spec_l4SameNames.l2 k (x0, x1, x12, (w64 (x13 + (1 : Int))), ()))) else none) else none) else none) else none) else (some (true, ())))
def spec_l4SameNames.f (k : Nat) : (List ByteArray) × (List ByteArray) × Unit → Option (Bool × Unit) := fun (a0, a1, _) => (if ((a0.length : Int) != (a1.length : Int)) = true then (some (false, ())) else (spec_l4SameNames.l2 k (a0, a1, (a0.length : Int), 0, ())))
def spec_l4SameNames.fc : Fc := ⟨128, [.c (.list .str), .c (.list .str)], [], [.c .bool], spec_l4SameNames.f⟩
def spec_l4SameNames.lps : List (Option (Lp (Bool × Unit))) := [none, none, some ⟨[(0, .c (.list .str)), (1, .c (.list .str)), (12, .c (.int .i64)), (13, .c (.int .i64))], spec_l4SameNames.l2⟩]
theorem spec_l4SameNames.ok : ∀ k, FcOK Try.prog spec_l4SameNames.fc k := fc_of (tbl := []) (fn := Try.f128) (lps := spec_l4SameNames.lps) Try.func128 (by kernel_rfl) ctx_nil (fun k x => by kernel_rfl) ⟨.inl ⟨by kernel_rfl, fun _ => rfl, fun k y => by kernel_rfl⟩, trivial⟩

def spec_l4SameType.l3 : Nat → (Int × Int × Int × (List T2.D) × ByteArray × ByteArray × Unit) × (Int × Int × Int × (List T2.D) × ByteArray × ByteArray × Unit) × Int × Int × Unit → Option (Bool × Unit)
  | 0, _ => none
  | k + 1, (x2, x3, x50, x51, _) => (if (decide (x51 < x50)) = true then (if 0 ≤ x51 then (if x51 < (x2.2.2.2.1.length : Int) then (if 0 ≤ x51 then (if x51 < (x3.2.2.2.1.length : Int) then (if (!(((rdT T2 x2.2.2.2.1 x51.toNat).1.toList == (rdT T2 x3.2.2.2.1 x51.toNat).1.toList) && (((rdT T2 x2.2.2.2.1 x51.toNat).2.1 == (rdT T2 x3.2.2.2.1 x51.toNat).2.1) && ((rdT T2 x2.2.2.2.1 x51.toNat).2.2 == (rdT T2 x3.2.2.2.1 x51.toNat).2.2)))) = true then (some (false, ())) else (spec_l4SameType.l3 k ((x2.1, (x2.2.1, (x2.2.2.1, (x2.2.2.2.1, (x2.2.2.2.2.1, (x2.2.2.2.2.2.1, ())))))), (x3.1, (x3.2.1, (x3.2.2.1, (x3.2.2.2.1, (x3.2.2.2.2.1, (x3.2.2.2.2.2.1, ())))))), x50, (w64 (x51 + (1 : Int))), ()))) else none) else none) else none) else none) else (some (true, ())))
def spec_l4SameType.f (k : Nat) : T7.D × T7.D × Unit → Option (Bool × Unit) := fun (a0, a1, _) => (if (a0.1 != a1.1) = true then (some (false, ())) else (if (a0.2.1 != a1.2.1) = true then (some (false, ())) else (if (a0.2.2.1 != a1.2.2.1) = true then (some (false, ())) else (if (!(a0.2.2.2.2.1.toList == a1.2.2.2.2.1.toList)) = true then (some (false, ())) else (if (!(a0.2.2.2.2.2.toList == a1.2.2.2.2.2.toList)) = true then (some (false, ())) else (if ((a0.2.2.2.1.length : Int) != (a1.2.2.2.1.length : Int)) = true then (some (false, ())) else (spec_l4SameType.l3 k ((a0.1, (a0.2.1, (a0.2.2.1, (a0.2.2.2.1, (a0.2.2.2.2.1, (a0.2.2.2.2.2, ())))))), (a1.1, (a1.2.1, (a1.2.2.1, (a1.2.2.2.1, (a1.2.2.2.2.1, (a1.2.2.2.2.2, ())))))), (a0.2.2.2.1.length : Int), 0, ()))))))))
def spec_l4SameType.fc : Fc := ⟨129, [.agg T7, .agg T7], [], [.c .bool], spec_l4SameType.f⟩
def spec_l4SameType.lps : List (Option (Lp (Bool × Unit))) := [none, none, none, some ⟨[(2, .p (.box [(.int .i64), (.int .i64), (.int .i64), (.list T2), .str, .str])), (3, .p (.box [(.int .i64), (.int .i64), (.int .i64), (.list T2), .str, .str])), (50, .c (.int .i64)), (51, .c (.int .i64))], spec_l4SameType.l3⟩]
theorem spec_l4SameType.ok : ∀ k, FcOK Try.prog spec_l4SameType.fc k := fc_of (tbl := []) (fn := Try.f129) (lps := spec_l4SameType.lps) Try.func129 (by kernel_rfl) ctx_nil (fun k x => by kernel_rfl) ⟨.inl ⟨by kernel_rfl, fun _ => rfl, fun k y => by kernel_rfl⟩, trivial⟩

def spec_l4SameObject.l3 : Nat → (ByteArray × Int × Int × Int × Int × (List T9.D) × Unit) × (ByteArray × Int × Int × Int × Int × (List T9.D) × Unit) × Int × Int × Unit → Option (Bool × Unit)
  | 0, _ => none
  | k + 1, (x2, x3, x50, x51, _) => (if (decide (x51 < x50)) = true then (if 0 ≤ x51 then (if x51 < (x2.2.2.2.2.2.1.length : Int) then (if 0 ≤ x51 then (if x51 < (x3.2.2.2.2.2.1.length : Int) then (if (!(((rdT T9 x2.2.2.2.2.2.1 x51.toNat).1.toList == (rdT T9 x3.2.2.2.2.2.1 x51.toNat).1.toList) && (((rdT T9 x2.2.2.2.2.2.1 x51.toNat).2.1 == (rdT T9 x3.2.2.2.2.2.1 x51.toNat).2.1) && ((rdT T9 x2.2.2.2.2.2.1 x51.toNat).2.2 == (rdT T9 x3.2.2.2.2.2.1 x51.toNat).2.2)))) = true then (some (false, ())) else (spec_l4SameObject.l3 k ((x2.1, (x2.2.1, (x2.2.2.1, (x2.2.2.2.1, (x2.2.2.2.2.1, (x2.2.2.2.2.2.1, ())))))), (x3.1, (x3.2.1, (x3.2.2.1, (x3.2.2.2.1, (x3.2.2.2.2.1, (x3.2.2.2.2.2.1, ())))))), x50, (w64 (x51 + (1 : Int))), ()))) else none) else none) else none) else none) else (some (true, ())))
def spec_l4SameObject.f (k : Nat) : T14.D × T14.D × Unit → Option (Bool × Unit) := fun (a0, a1, _) => (if (!(a0.1.toList == a1.1.toList)) = true then (some (false, ())) else (if (a0.2.1 != a1.2.1) = true then (some (false, ())) else (if (a0.2.2.1 != a1.2.2.1) = true then (some (false, ())) else (if (a0.2.2.2.1 != a1.2.2.2.1) = true then (some (false, ())) else (if (a0.2.2.2.2.1 != a1.2.2.2.2.1) = true then (some (false, ())) else (if ((a0.2.2.2.2.2.length : Int) != (a1.2.2.2.2.2.length : Int)) = true then (some (false, ())) else (spec_l4SameObject.l3 k ((a0.1, (a0.2.1, (a0.2.2.1, (a0.2.2.2.1, (a0.2.2.2.2.1, (a0.2.2.2.2.2, ())))))), (a1.1, (a1.2.1, (a1.2.2.1, (a1.2.2.2.1, (a1.2.2.2.2.1, (a1.2.2.2.2.2, ())))))), (a0.2.2.2.2.2.length : Int), 0, ()))))))))
def spec_l4SameObject.fc : Fc := ⟨130, [.agg T14, .agg T14], [], [.c .bool], spec_l4SameObject.f⟩
def spec_l4SameObject.lps : List (Option (Lp (Bool × Unit))) := [none, none, none, some ⟨[(2, .p (.box [.str, (.int .i64), (.int .i64), (.int .i64), (.int .i64), (.list T9)])), (3, .p (.box [.str, (.int .i64), (.int .i64), (.int .i64), (.int .i64), (.list T9)])), (50, .c (.int .i64)), (51, .c (.int .i64))], spec_l4SameObject.l3⟩]
theorem spec_l4SameObject.ok : ∀ k, FcOK Try.prog spec_l4SameObject.fc k := fc_of (tbl := []) (fn := Try.f130) (lps := spec_l4SameObject.lps) Try.func130 (by kernel_rfl) ctx_nil (fun k x => by kernel_rfl) ⟨.inl ⟨by kernel_rfl, fun _ => rfl, fun k y => by kernel_rfl⟩, trivial⟩

def spec_SameScope.l11 : Nat → (ByteArray × (List ByteArray) × (List T7.D) × (List T14.D) × (List T3.D) × Unit) × (ByteArray × (List ByteArray) × (List T7.D) × (List T14.D) × (List T3.D) × Unit) × Int × Int × Unit → Option (Bool × Unit)
  | 0, _ => none
  | k + 1, (x2, x3, x88, x89, _) => (if (decide (x89 < x88)) = true then (if 0 ≤ x89 then (if x89 < (x2.2.2.2.2.1.length : Int) then (if 0 ≤ x89 then (if x89 < (x3.2.2.2.2.1.length : Int) then (if (!(((rdT T3 x2.2.2.2.2.1 x89.toNat).1.toList == (rdT T3 x3.2.2.2.2.1 x89.toNat).1.toList) && ((rdT T3 x2.2.2.2.2.1 x89.toNat).2.toList == (rdT T3 x3.2.2.2.2.1 x89.toNat).2.toList))) = true then (some (false, ())) else (spec_SameScope.l11 k ((x2.1, (x2.2.1, (x2.2.2.1, (x2.2.2.2.1, (x2.2.2.2.2.1, ()))))), (x3.1, (x3.2.1, (x3.2.2.1, (x3.2.2.2.1, (x3.2.2.2.2.1, ()))))), x88, (w64 (x89 + (1 : Int))), ()))) else none) else none) else none) else none) else (some (true, ())))
def spec_SameScope.l7 : Nat → (ByteArray × (List ByteArray) × (List T7.D) × (List T14.D) × (List T3.D) × Unit) × (ByteArray × (List ByteArray) × (List T7.D) × (List T14.D) × (List T3.D) × Unit) × Int × Int × Unit → Option (Bool × Unit)
  | 0, _ => none
  | k + 1, (x2, x3, x69, x70, _) => (if (decide (x70 < x69)) = true then (if 0 ≤ x70 then (if x70 < (x2.2.2.2.1.length : Int) then (if 0 ≤ x70 then (if x70 < (x3.2.2.2.1.length : Int) then ((spec_l4SameObject.f k ((rdT T14 x2.2.2.2.1 x70.toNat), (rdT T14 x3.2.2.2.1 x70.toNat), ())).bind fun y3 => (if (!y3.1) = true then (some (false, ())) else (spec_SameScope.l7 k ((x2.1, (x2.2.1, (x2.2.2.1, (x2.2.2.2.1, (x2.2.2.2.2.1, ()))))), (x3.1, (x3.2.1, (x3.2.2.1, (x3.2.2.2.1, (x3.2.2.2.2.1, ()))))), x69, (w64 (x70 + (1 : Int))), ())))) else none) else none) else none) else none) else (spec_SameScope.l11 k ((x2.1, (x2.2.1, (x2.2.2.1, (x2.2.2.2.1, (x2.2.2.2.2.1, ()))))), (x3.1, (x3.2.1, (x3.2.2.1, (x3.2.2.2.1, (x3.2.2.2.2.1, ()))))), (x2.2.2.2.2.1.length : Int), 0, ())))
def spec_SameScope.l3 : Nat → (ByteArray × (List ByteArray) × (List T7.D) × (List T14.D) × (List T3.D) × Unit) × (ByteArray × (List ByteArray) × (List T7.D) × (List T14.D) × (List T3.D) × Unit) × Int × Int × Unit → Option (Bool × Unit)
  | 0, _ => none
  | k + 1, (x2, x3, x50, x51, _) => (if (decide (x51 < x50)) = true then (if 0 ≤ x51 then (if x51 < (x2.2.2.1.length : Int) then (if 0 ≤ x51 then (if x51 < (x3.2.2.1.length : Int) then ((spec_l4SameType.f k ((rdT T7 x2.2.2.1 x51.toNat), (rdT T7 x3.2.2.1 x51.toNat), ())).bind fun y2 => (if (!y2.1) = true then (some (false, ())) else (spec_SameScope.l3 k ((x2.1, (x2.2.1, (x2.2.2.1, (x2.2.2.2.1, (x2.2.2.2.2.1, ()))))), (x3.1, (x3.2.1, (x3.2.2.1, (x3.2.2.2.1, (x3.2.2.2.2.1, ()))))), x50, (w64 (x51 + (1 : Int))), ())))) else none) else none) else none) else none) else (spec_SameScope.l7 k ((x2.1, (x2.2.1, (x2.2.2.1, (x2.2.2.2.1, (x2.2.2.2.2.1, ()))))), (x3.1, (x3.2.1, (x3.2.2.1, (x3.2.2.2.1, (x3.2.2.2.2.1, ()))))), (x2.2.2.2.1.length : Int), 0, ())))
def spec_SameScope.f (k : Nat) : T18.D × T18.D × Unit → Option (Bool × Unit) := fun (a0, a1, _) => (if (!(a0.1.toList == a1.1.toList)) = true then (some (false, ())) else ((spec_l4SameNames.f k (a0.2.1, a1.2.1, ())).bind fun y1 => (if (!y1.1) = true then (some (false, ())) else (if ((a0.2.2.1.length : Int) != (a1.2.2.1.length : Int)) = true then (some (false, ())) else (if ((a0.2.2.2.1.length : Int) != (a1.2.2.2.1.length : Int)) = true then (some (false, ())) else (if ((a0.2.2.2.2.length : Int) != (a1.2.2.2.2.length : Int)) = true then (some (false, ())) else (spec_SameScope.l3 k ((a0.1, (a0.2.1, (a0.2.2.1, (a0.2.2.2.1, (a0.2.2.2.2, ()))))), (a1.1, (a1.2.1, (a1.2.2.1, (a1.2.2.2.1, (a1.2.2.2.2, ()))))), (a0.2.2.1.length : Int), 0, ()))))))))
def spec_SameScope.fc : Fc := ⟨64, [.agg T18, .agg T18], [], [.c .bool], spec_SameScope.f⟩
def spec_SameScope.lps : List (Option (Lp (Bool × Unit))) := [none, none, none, some ⟨[(2, .p (.box [.str, (.list .str), (.list T7), (.list T14), (.list T3)])), (3, .p (.box [.str, (.list .str), (.list T7), (.list T14), (.list T3)])), (50, .c (.int .i64)), (51, .c (.int .i64))], spec_SameScope.l3⟩, none, none, none, some ⟨[(2, .p (.box [.str, (.list .str), (.list T7), (.list T14), (.list T3)])), (3, .p (.box [.str, (.list .str), (.list T7), (.list T14), (.list T3)])), (69, .c (.int .i64)), (70, .c (.int .i64))], spec_SameScope.l7⟩, none, none, none, some ⟨[(2, .p (.box [.str, (.list .str), (.list T7), (.list T14), (.list T3)])), (3, .p (.box [.str, (.list .str), (.list T7), (.list T14), (.list T3)])), (88, .c (.int .i64)), (89, .c (.int .i64))], spec_SameScope.l11⟩]
theorem spec_SameScope.ok : ∀ k, FcOK Try.prog spec_SameScope.fc k := fc_of (tbl := [spec_l4SameNames.fc, spec_l4SameType.fc, spec_l4SameObject.fc]) (fn := Try.f64) (lps := spec_SameScope.lps) Try.func64 (by kernel_rfl) (ctx_cons spec_l4SameNames.ok (ctx_cons spec_l4SameType.ok (ctx_cons spec_l4SameObject.ok ctx_nil))) (fun k x => by kernel_rfl) ⟨.inl ⟨by kernel_rfl, fun _ => rfl, fun k y => by kernel_rfl⟩, ⟨.inl ⟨by kernel_rfl, fun _ => rfl, fun k y => by kernel_rfl⟩, ⟨.inl ⟨by kernel_rfl, fun _ => rfl, fun k y => by kernel_rfl⟩, trivial⟩⟩⟩

def slices_Equal_string_string.l2 : Nat → (List ByteArray) × (List ByteArray) × Int × Int × Unit → Option (Bool × Unit)
  | 0, _ => none
  | k + 1, (x0, x1, x12, x13, _) => (if (decide (x13 < x12)) = true then (if 0 ≤ x13 then (if x13 < (x0.length : Int) then (if 0 ≤ x13 then (if x13 < (x1.length : Int) then (if (!((rdT .str x0 x13.toNat).toList == (rdT .str x1 x13.toNat).toList)) = true then (some (false, ())) else (slices_Equal_string_string.l2 k (x0, x1, x12, (w64 (x13 + (1 : Int))), ()))) else none) else none) else none) else none) else (some (true, ())))
def slices_Equal_string_string.f (k : Nat) : (List ByteArray) × (List ByteArray) × Unit → Option (Bool × Unit) := fun (a0, a1, _) => (if ((a0.length : Int) != (a1.length : Int)) = true then (some (false, ())) else (slices_Equal_string_string.l2 k (a0, a1, (a0.length : Int), 0, ())))
def slices_Equal_string_string.fc : Fc := ⟨172, [.c (.list .str), .c (.list .str)], [], [.c .bool], slices_Equal_string_string.f⟩
def slices_Equal_string_string.lps : List (Option (Lp (Bool × Unit))) := [none, none, some ⟨[(0, .c (.list .str)), (1, .c (.list .str)), (12, .c (.int .i64)), (13, .c (.int .i64))], slices_Equal_string_string.l2⟩]
theorem slices_Equal_string_string.ok : ∀ k, FcOK Try.prog slices_Equal_string_string.fc k := fc_of (tbl := []) (fn := Try.f172) (lps := slices_Equal_string_string.lps) Try.func172 (by kernel_rfl) ctx_nil (fun k x => by kernel_rfl) ⟨.inl ⟨by kernel_rfl, fun _ => rfl, fun k y => by kernel_rfl⟩, trivial⟩

def slices_Equal_impl_Field_impl_Field.l2 : Nat → (List T2.D) × (List T2.D) × Int × Int × Unit → Option (Bool × Unit)
  | 0, _ => none
  | k + 1, (x0, x1, x12, x13, _) => (if (decide (x13 < x12)) = true then (if 0 ≤ x13 then (if x13 < (x0.length : Int) then (if 0 ≤ x13 then (if x13 < (x1.length : Int) then (if (!(((rdT T2 x0 x13.toNat).1.toList == (rdT T2 x1 x13.toNat).1.toList) && (((rdT T2 x0 x13.toNat).2.1 == (rdT T2 x1 x13.toNat).2.1) && ((rdT T2 x0 x13.toNat).2.2 == (rdT T2 x1 x13.toNat).2.2)))) = true then (some (false, ())) else (slices_Equal_impl_Field_impl_Field.l2 k (x0, x1, x12, (w64 (x13 + (1 : Int))), ()))) else none) else none) else none) else none) else (some (true, ())))
def slices_Equal_impl_Field_impl_Field.f (k : Nat) : (List T2.D) × (List T2.D) × Unit → Option (Bool × Unit) := fun (a0, a1, _) => (if ((a0.length : Int) != (a1.length : Int)) = true then (some (false, ())) else (slices_Equal_impl_Field_impl_Field.l2 k (a0, a1, (a0.length : Int), 0, ())))
def slices_Equal_impl_Field_impl_Field.fc : Fc := ⟨183, [.c (.list T2), .c (.list T2)], [], [.c .bool], slices_Equal_impl_Field_impl_Field.f⟩
def slices_Equal_impl_Field_impl_Field.lps : List (Option (Lp (Bool × Unit))) := [none, none, some ⟨[(0, .c (.list T2)), (1, .c (.list T2)), (12, .c (.int .i64)), (13, .c (.int .i64))], slices_Equal_impl_Field_impl_Field.l2⟩]
theorem slices_Equal_impl_Field_impl_Field.ok : ∀ k, FcOK Try.prog slices_Equal_impl_Field_impl_Field.fc k := fc_of (tbl := []) (fn := Try.f183) (lps := slices_Equal_impl_Field_impl_Field.lps) Try.func183 (by kernel_rfl) ctx_nil (fun k x => by kernel_rfl) ⟨.inl ⟨by kernel_rfl, fun _ => rfl, fun k y => by kernel_rfl⟩, trivial⟩

def impl_sameType.f (k : Nat) : T7.D × T7.D × Unit → Option (Bool × Unit) := fun (a0, a1, _) => (if (a0.1 == a1.1) = true then (if (a0.2.1 == a1.2.1) = true then (if (a0.2.2.1 == a1.2.2.1) = true then ((slices_Equal_impl_Field_impl_Field.f k (a0.2.2.2.1, a1.2.2.2.1, ())).bind fun y1 => (if y1.1 = true then (if (a0.2.2.2.2.1.toList == a1.2.2.2.2.1.toList) = true then (some ((a0.2.2.2.2.2.toList == a1.2.2.2.2.2.toList), ())) else (some (false, ()))) else (some (false, ())))) else (some (false, ()))) else (some (false, ()))) else (some (false, ())))
def impl_sameType.fc : Fc := ⟨174, [.agg T7, .agg T7], [], [.c .bool], impl_sameType.f⟩
def impl_sameType.lps : List (Option (Lp (Bool × Unit))) := []
theorem impl_sameType.ok : ∀ k, FcOK Try.prog impl_sameType.fc k := fc_of (tbl := [slices_Equal_impl_Field_impl_Field.fc]) (fn := Try.f174) (lps := impl_sameType.lps) Try.func174 (by kernel_rfl) (ctx_cons slices_Equal_impl_Field_impl_Field.ok ctx_nil) (fun k x => by kernel_rfl) trivial

def slices_EqualFunc_impl_Type_impl_Type_impl_Type_impl_Type.l2 : Nat → (List T7.D) × Unit × (List T7.D) × Int × Int × Unit → Option (Bool × Unit)
  | 0, _ => none
  | k + 1, (x1, x2, x15, x16, x17, _) => (if (decide (x17 < x16)) = true then (if 0 ≤ x17 then (if x17 < (x15.length : Int) then (if 0 ≤ x17 then (if x17 < (x1.length : Int) then ((impl_sameType.f k ((rdT T7 x15 x17.toNat), (rdT T7 x1 x17.toNat), ())).bind fun y1 => (if (!y1.1) = true then (some (false, ())) else (slices_EqualFunc_impl_Type_impl_Type_impl_Type_impl_Type.l2 k (x1, (), x15, x16, (w64 (x17 + (1 : Int))), ())))) else none) else none) else none) else none) else (some (true, ())))
def slices_EqualFunc_impl_Type_impl_Type_impl_Type_impl_Type.f (k : Nat) : (List T7.D) × (List T7.D) × Unit × Unit → Option (Bool × Unit) := fun (a0, a1, a2, _) => (if ((a0.length : Int) != (a1.length : Int)) = true then (some (false, ())) else (slices_EqualFunc_impl_Type_impl_Type_impl_Type_impl_Type.l2 k (a1, (), a0, (a0.length : Int), 0, ())))
def slices_EqualFunc_impl_Type_impl_Type_impl_Type_impl_Type.fc : Fc := ⟨173, [.c (.list T7), .c (.list T7), .fn 174 []], [], [.c .bool], slices_EqualFunc_impl_Type_impl_Type_impl_Type_impl_Type.f⟩
def slices_EqualFunc_impl_Type_impl_Type_impl_Type_impl_Type.lps : List (Option (Lp (Bool × Unit))) := [none, none, some ⟨[(1, .c (.list T7)), (2, .fn 174 []), (15, .c (.list T7)), (16, .c (.int .i64)), (17, .c (.int .i64))], slices_EqualFunc_impl_Type_impl_Type_impl_Type_impl_Type.l2⟩]
theorem slices_EqualFunc_impl_Type_impl_Type_impl_Type_impl_Type.ok : ∀ k, FcOK Try.prog slices_EqualFunc_impl_Type_impl_Type_impl_Type_impl_Type.fc k := fc_of (tbl := [impl_sameType.fc]) (fn := Try.f173) (lps := slices_EqualFunc_impl_Type_impl_Type_impl_Type_impl_Type.lps) Try.func173 (by kernel_rfl) (ctx_cons impl_sameType.ok ctx_nil) (fun k x => by kernel_rfl) ⟨.inl ⟨by kernel_rfl, fun _ => rfl, fun k y => by kernel_rfl⟩, trivial⟩

def slices_Equal_impl_Param_impl_Param.l2 : Nat → (List T9.D) × (List T9.D) × Int × Int × Unit → Option (Bool × Unit)
  | 0, _ => none
  | k + 1, (x0, x1, x12, x13, _) => (if (decide (x13 < x12)) = true then (if 0 ≤ x13 then (if x13 < (x0.length : Int) then (if 0 ≤ x13 then (if x13 < (x1.length : Int) then (if (!(((rdT T9 x0 x13.toNat).1.toList == (rdT T9 x1 x13.toNat).1.toList) && (((rdT T9 x0 x13.toNat).2.1 == (rdT T9 x1 x13.toNat).2.1) && ((rdT T9 x0 x13.toNat).2.2 == (rdT T9 x1 x13.toNat).2.2)))) = true then (some (false, ())) else (slices_Equal_impl_Param_impl_Param.l2 k (x0, x1, x12, (w64 (x13 + (1 : Int))), ()))) else none) else none) else none) else none) else (some (true, ())))
def slices_Equal_impl_Param_impl_Param.f (k : Nat) : (List T9.D) × (List T9.D) × Unit → Option (Bool × Unit) := fun (a0, a1, _) => (if ((a0.length : Int) != (a1.length : Int)) = true then (some (false, ())) else (slices_Equal_impl_Param_impl_Param.l2 k (a0, a1, (a0.length : Int), 0, ())))
def slices_Equal_impl_Param_impl_Param.fc : Fc := ⟨184, [.c (.list T9), .c (.list T9)], [], [.c .bool], slices_Equal_impl_Param_impl_Param.f⟩
def slices_Equal_impl_Param_impl_Param.lps : List (Option (Lp (Bool × Unit))) := [none, none, some ⟨[(0, .c (.list T9)), (1, .c (.list T9)), (12, .c (.int .i64)), (13, .c (.int .i64))], slices_Equal_impl_Param_impl_Param.l2⟩]
theorem slices_Equal_impl_Param_impl_Param.ok : ∀ k, FcOK Try.prog slices_Equal_impl_Param_impl_Param.fc k := fc_of (tbl := []) (fn := Try.f184) (lps := slices_Equal_impl_Param_impl_Param.lps) Try.func184 (by kernel_rfl) ctx_nil (fun k x => by kernel_rfl) ⟨.inl ⟨by kernel_rfl, fun _ => rfl, fun k y => by kernel_rfl⟩, trivial⟩

def impl_sameObject.f (k : Nat) : T14.D × T14.D × Unit → Option (Bool × Unit) := fun (a0, a1, _) => (if (a0.1.toList == a1.1.toList) = true then (if (a0.2.1 == a1.2.1) = true then (if (a0.2.2.1 == a1.2.2.1) = true then (if (a0.2.2.2.1 == a1.2.2.2.1) = true then (if (a0.2.2.2.2.1 == a1.2.2.2.2.1) = true then ((slices_Equal_impl_Param_impl_Param.f k (a0.2.2.2.2.2, a1.2.2.2.2.2, ())).bind fun y1 => (some (y1.1, ()))) else (some (false, ()))) else (some (false, ()))) else (some (false, ()))) else (some (false, ()))) else (some (false, ())))
def impl_sameObject.fc : Fc := ⟨176, [.agg T14, .agg T14], [], [.c .bool], impl_sameObject.f⟩
def impl_sameObject.lps : List (Option (Lp (Bool × Unit))) := []
theorem impl_sameObject.ok : ∀ k, FcOK Try.prog impl_sameObject.fc k := fc_of (tbl := [slices_Equal_impl_Param_impl_Param.fc]) (fn := Try.f176) (lps := impl_sameObject.lps) Try.func176 (by kernel_rfl) (ctx_cons slices_Equal_impl_Param_impl_Param.ok ctx_nil) (fun k x => by kernel_rfl) trivial

def slices_EqualFunc_impl_Object_impl_Object_impl_Object_impl_Object.l2 : Nat → (List T14.D) × Unit × (List T14.D) × Int × Int × Unit → Option (Bool × Unit)
  | 0, _ => none
  | k + 1, (x1, x2, x15, x16, x17, _) => (if (decide (x17 < x16)) = true then (if 0 ≤ x17 then (if x17 < (x15.length : Int) then (if 0 ≤ x17 then (if x17 < (x1.length : Int) then ((impl_sameObject.f k ((rdT T14 x15 x17.toNat), (rdT T14 x1 x17.toNat), ())).bind fun y1 => (if (!y1.1) = true then (some (false, ())) else (slices_EqualFunc_impl_Object_impl_Object_impl_Object_impl_Object.l2 k (x1, (), x15, x16, (w64 (x17 + (1 : Int))), ())))) else none) else none) else none) else none) else (some (true, ())))
def slices_EqualFunc_impl_Object_impl_Object_impl_Object_impl_Object.f (k : Nat) : (List T14.D) × (List T14.D) × Unit × Unit → Option (Bool × Unit) := fun (a0, a1, a2, _) => (if ((a0.length : Int) != (a1.length : Int)) = true then (some (false, ())) else (slices_EqualFunc_impl_Object_impl_Object_impl_Object_impl_Object.l2 k (a1, (), a0, (a0.length : Int), 0, ())))
def slices_EqualFunc_impl_Object_impl_Object_impl_Object_impl_Object.fc : Fc := ⟨175, [.c (.list T14), .c (.list T14), .fn 176 []], [], [.c .bool], slices_EqualFunc_impl_Object_impl_Object_impl_Object_impl_Object.f⟩
def slices_EqualFunc_impl_Object_impl_Object_impl_Object_impl_Object.lps : List (Option (Lp (Bool × Unit))) := [none, none, some ⟨[(1, .c (.list T14)), (2, .fn 176 []), (15, .c (.list T14)), (16, .c (.int .i64)), (17, .c (.int .i64))], slices_EqualFunc_impl_Object_impl_Object_impl_Object_impl_Object.l2⟩]
theorem slices_EqualFunc_impl_Object_impl_Object_impl_Object_impl_Object.ok : ∀ k, FcOK Try.prog slices_EqualFunc_impl_Object_impl_Object_impl_Object_impl_Object.fc k := fc_of (tbl := [impl_sameObject.fc]) (fn := Try.f175) (lps := slices_EqualFunc_impl_Object_impl_Object_impl_Object_impl_Object.lps) Try.func175 (by kernel_rfl) (ctx_cons impl_sameObject.ok ctx_nil) (fun k x => by kernel_rfl) ⟨.inl ⟨by kernel_rfl, fun _ => rfl, fun k y => by kernel_rfl⟩, trivial⟩

def slices_Equal_impl_Use_impl_Use.l2 : Nat → (List T3.D) × (List T3.D) × Int × Int × Unit → Option (Bool × Unit)
  | 0, _ => none
  | k + 1, (x0, x1, x12, x13, _) => (if (decide (x13 < x12)) = true then (if 0 ≤ x13 then (if x13 < (x0.length : Int) then (if 0 ≤ x13 then (if x13 < (x1.length : Int) then (if (!(((rdT T3 x0 x13.toNat).1.toList == (rdT T3 x1 x13.toNat).1.toList) && ((rdT T3 x0 x13.toNat).2.toList == (rdT T3 x1 x13.toNat).2.toList))) = true then (some (false, ())) else (slices_Equal_impl_Use_impl_Use.l2 k (x0, x1, x12, (w64 (x13 + (1 : Int))), ()))) else none) else none) else none) else none) else (some (true, ())))
def slices_Equal_impl_Use_impl_Use.f (k : Nat) : (List T3.D) × (List T3.D) × Unit → Option (Bool × Unit) := fun (a0, a1, _) => (if ((a0.length : Int) != (a1.length : Int)) = true then (some (false, ())) else (slices_Equal_impl_Use_impl_Use.l2 k (a0, a1, (a0.length : Int), 0, ())))
def slices_Equal_impl_Use_impl_Use.fc : Fc := ⟨177, [.c (.list T3), .c (.list T3)], [], [.c .bool], slices_Equal_impl_Use_impl_Use.f⟩
def slices_Equal_impl_Use_impl_Use.lps : List (Option (Lp (Bool × Unit))) := [none, none, some ⟨[(0, .c (.list T3)), (1, .c (.list T3)), (12, .c (.int .i64)), (13, .c (.int .i64))], slices_Equal_impl_Use_impl_Use.l2⟩]
theorem slices_Equal_impl_Use_impl_Use.ok : ∀ k, FcOK Try.prog slices_Equal_impl_Use_impl_Use.fc k := fc_of (tbl := []) (fn := Try.f177) (lps := slices_Equal_impl_Use_impl_Use.lps) Try.func177 (by kernel_rfl) ctx_nil (fun k x => by kernel_rfl) ⟨.inl ⟨by kernel_rfl, fun _ => rfl, fun k y => by kernel_rfl⟩, trivial⟩

def impl_sameScope.f (k : Nat) : T18.D × T18.D × Unit → Option (Bool × Unit) := fun (a0, a1, _) => (if (a0.1.toList == a1.1.toList) = true then ((slices_Equal_string_string.f k (a0.2.1, a1.2.1, ())).bind fun y1 => (if y1.1 = true then ((slices_EqualFunc_impl_Type_impl_Type_impl_Type_impl_Type.f k (a0.2.2.1, a1.2.2.1, (), ())).bind fun y2 => (if y2.1 = true then ((slices_EqualFunc_impl_Object_impl_Object_impl_Object_impl_Object.f k (a0.2.2.2.1, a1.2.2.2.1, (), ())).bind fun y3 => (if y3.1 = true then ((slices_Equal_impl_Use_impl_Use.f k (a0.2.2.2.2, a1.2.2.2.2, ())).bind fun y4 => (some (y4.1, ()))) else (some (false, ())))) else (some (false, ())))) else (some (false, ())))) else (some (false, ())))
def impl_sameScope.fc : Fc := ⟨135, [.agg T18, .agg T18], [], [.c .bool], impl_sameScope.f⟩
def impl_sameScope.lps : List (Option (Lp (Bool × Unit))) := []
theorem impl_sameScope.ok : ∀ k, FcOK Try.prog impl_sameScope.fc k := fc_of (tbl := [slices_Equal_string_string.fc, slices_EqualFunc_impl_Type_impl_Type_impl_Type_impl_Type.fc, slices_EqualFunc_impl_Object_impl_Object_impl_Object_impl_Object.fc, slices_Equal_impl_Use_impl_Use.fc]) (fn := Try.f135) (lps := impl_sameScope.lps) Try.func135 (by kernel_rfl) (ctx_cons slices_Equal_string_string.ok (ctx_cons slices_EqualFunc_impl_Type_impl_Type_impl_Type_impl_Type.ok (ctx_cons slices_EqualFunc_impl_Object_impl_Object_impl_Object_impl_Object.ok (ctx_cons slices_Equal_impl_Use_impl_Use.ok ctx_nil)))) (fun k x => by kernel_rfl) trivial

def impl_SameScope.f (k : Nat) : T18.D × T18.D × Unit → Option (Bool × Unit) := fun (a0, a1, _) => ((impl_sameScope.f k (a0, a1, ())).bind fun y1 => (some (y1.1, ())))
def impl_SameScope.fc : Fc := ⟨66, [.agg T18, .agg T18], [], [.c .bool], impl_SameScope.f⟩
def impl_SameScope.lps : List (Option (Lp (Bool × Unit))) := []
theorem impl_SameScope.ok : ∀ k, FcOK Try.prog impl_SameScope.fc k := fc_of (tbl := [impl_sameScope.fc]) (fn := Try.f66) (lps := impl_SameScope.lps) Try.func66 (by kernel_rfl) (ctx_cons impl_sameScope.ok ctx_nil) (fun k x => by kernel_rfl) trivial

def laws_eqStringS.l2 : Nat → (List ByteArray) × (List ByteArray) × Int × Unit → Option (Bool × Unit)
  | 0, _ => none
  | k + 1, (x0, x1, x5, _) => (if (decide (x5 < (x0.length : Int))) = true then (if 0 ≤ x5 then (if x5 < (x0.length : Int) then (if 0 ≤ x5 then (if x5 < (x1.length : Int) then (if (!((rdT .str x0 x5.toNat).toList == (rdT .str x1 x5.toNat).toList)) = true then (some (false, ())) else (laws_eqStringS.l2 k (x0, x1, (w64 (x5 + (1 : Int))), ()))) else none) else none) else none) else none) else (some (true, ())))
def laws_eqStringS.f (k : Nat) : (List ByteArray) × (List ByteArray) × Unit → Option (Bool × Unit) := fun (a0, a1, _) => (if ((a0.length : Int) != (a1.length : Int)) = true then (some (false, ())) else (laws_eqStringS.l2 k (a0, a1, 0, ())))
def laws_eqStringS.fc : Fc := ⟨136, [.c (.list .str), .c (.list .str)], [], [.c .bool], laws_eqStringS.f⟩
def laws_eqStringS.lps : List (Option (Lp (Bool × Unit))) := [none, none, some ⟨[(0, .c (.list .str)), (1, .c (.list .str)), (5, .c (.int .i64))], laws_eqStringS.l2⟩]
theorem laws_eqStringS.ok : ∀ k, FcOK Try.prog laws_eqStringS.fc k := fc_of (tbl := []) (fn := Try.f136) (lps := laws_eqStringS.lps) Try.func136 (by kernel_rfl) ctx_nil (fun k x => by kernel_rfl) ⟨.inl ⟨by kernel_rfl, fun _ => rfl, fun k y => by kernel_rfl⟩, trivial⟩

def laws_eqField.f (k : Nat) : T2.D × T2.D × Unit → Option (Bool × Unit) := fun (a0, a1, _) => (if (!(a0.1.toList == a1.1.toList)) = true then (some (false, ())) else (if (a0.2.1 != a1.2.1) = true then (some (false, ())) else (if (a0.2.2 != a1.2.2) = true then (some (false, ())) else (some (true, ())))))
def laws_eqField.fc : Fc := ⟨163, [.agg T2, .agg T2], [], [.c .bool], laws_eqField.f⟩
def laws_eqField.lps : List (Option (Lp (Bool × Unit))) := []
theorem laws_eqField.ok : ∀ k, FcOK Try.prog laws_eqField.fc k := fc_of (tbl := []) (fn := Try.f163) (lps := laws_eqField.lps) Try.func163 (by kernel_rfl) ctx_nil (fun k x => by kernel_rfl) trivial

def laws_eqFieldS.l2 : Nat → (List T2.D) × (List T2.D) × Int × Unit → Option (Bool × Unit)
  | 0, _ => none
  | k + 1, (x0, x1, x5, _) => (if (decide (x5 < (x0.length : Int))) = true then (if 0 ≤ x5 then (if x5 < (x0.length : Int) then (if 0 ≤ x5 then (if x5 < (x1.length : Int) then ((laws_eqField.f k ((rdT T2 x0 x5.toNat), (rdT T2 x1 x5.toNat), ())).bind fun y1 => (if (!y1.1) = true then (some (false, ())) else (laws_eqFieldS.l2 k (x0, x1, (w64 (x5 + (1 : Int))), ())))) else none) else none) else none) else none) else (some (true, ())))
def laws_eqFieldS.f (k : Nat) : (List T2.D) × (List T2.D) × Unit → Option (Bool × Unit) := fun (a0, a1, _) => (if ((a0.length : Int) != (a1.length : Int)) = true then (some (false, ())) else (laws_eqFieldS.l2 k (a0, a1, 0, ())))
def laws_eqFieldS.fc : Fc := ⟨116, [.c (.list T2), .c (.list T2)], [], [.c .bool], laws_eqFieldS.f⟩
def laws_eqFieldS.lps : List (Option (Lp (Bool × Unit))) := [none, none, some ⟨[(0, .c (.list T2)), (1, .c (.list T2)), (5, .c (.int .i64))], laws_eqFieldS.l2⟩]
theorem laws_eqFieldS.ok : ∀ k, FcOK Try.prog laws_eqFieldS.fc k := fc_of (tbl := [laws_eqField.fc]) (fn := Try.f116) (lps := laws_eqFieldS.lps) Try.func116 (by kernel_rfl) (ctx_cons laws_eqField.ok ctx_nil) (fun k x => by kernel_rfl) ⟨.inl ⟨by kernel_rfl, fun _ => rfl, fun k y => by kernel_rfl⟩, trivial⟩

def laws_eqType.f (k : Nat) : T7.D × T7.D × Unit → Option (Bool × Unit) := fun (a0, a1, _) => (if (a0.1 != a1.1) = true then (some (false, ())) else (if (a0.2.1 != a1.2.1) = true then (some (false, ())) else (if (a0.2.2.1 != a1.2.2.1) = true then (some (false, ())) else ((laws_eqFieldS.f k (a0.2.2.2.1, a1.2.2.2.1, ())).bind fun y1 => (if (!y1.1) = true then (some (false, ())) else (if (!(a0.2.2.2.2.1.toList == a1.2.2.2.2.1.toList)) = true then (some (false, ())) else (if (!(a0.2.2.2.2.2.toList == a1.2.2.2.2.2.toList)) = true then (some (false, ())) else (some (true, ())))))))))
def laws_eqType.fc : Fc := ⟨57, [.agg T7, .agg T7], [], [.c .bool], laws_eqType.f⟩
def laws_eqType.lps : List (Option (Lp (Bool × Unit))) := []
theorem laws_eqType.ok : ∀ k, FcOK Try.prog laws_eqType.fc k := fc_of (tbl := [laws_eqFieldS.fc]) (fn := Try.f57) (lps := laws_eqType.lps) Try.func57 (by kernel_rfl) (ctx_cons laws_eqFieldS.ok ctx_nil) (fun k x => by kernel_rfl) trivial

def laws_eqTypeS.l2 : Nat → (List T7.D) × (List T7.D) × Int × Unit → Option (Bool × Unit)
  | 0, _ => none
  | k + 1, (x0, x1, x5, _) => (if (decide (x5 < (x0.length : Int))) = true then (if 0 ≤ x5 then (if x5 < (x0.length : Int) then (if 0 ≤ x5 then (if x5 < (x1.length : Int) then ((laws_eqType.f k ((rdT T7 x0 x5.toNat), (rdT T7 x1 x5.toNat), ())).bind fun y1 => (if (!y1.1) = true then (some (false, ())) else (laws_eqTypeS.l2 k (x0, x1, (w64 (x5 + (1 : Int))), ())))) else none) else none) else none) else none) else (some (true, ())))
def laws_eqTypeS.f (k : Nat) : (List T7.D) × (List T7.D) × Unit → Option (Bool × Unit) := fun (a0, a1, _) => (if ((a0.length : Int) != (a1.length : Int)) = true then (some (false, ())) else (laws_eqTypeS.l2 k (a0, a1, 0, ())))
def laws_eqTypeS.fc : Fc := ⟨137, [.c (.list T7), .c (.list T7)], [], [.c .bool], laws_eqTypeS.f⟩
def laws_eqTypeS.lps : List (Option (Lp (Bool × Unit))) := [none, none, some ⟨[(0, .c (.list T7)), (1, .c (.list T7)), (5, .c (.int .i64))], laws_eqTypeS.l2⟩]
theorem laws_eqTypeS.ok : ∀ k, FcOK Try.prog laws_eqTypeS.fc k := fc_of (tbl := [laws_eqType.fc]) (fn := Try.f137) (lps := laws_eqTypeS.lps) Try.func137 (by kernel_rfl) (ctx_cons laws_eqType.ok ctx_nil) (fun k x => by kernel_rfl) ⟨.inl ⟨by kernel_rfl, fun _ => rfl, fun k y => by kernel_rfl⟩, trivial⟩

def laws_eqParam.f (k : Nat) : T9.D × T9.D × Unit → Option (Bool × Unit) := fun (a0, a1, _) => (if (!(a0.1.toList == a1.1.toList)) = true then (some (false, ())) else (if (!(a0.2.1 == a1.2.1)) = true then (some (false, ())) else (if (a0.2.2 != a1.2.2) = true then (some (false, ())) else (some (true, ())))))
def laws_eqParam.fc : Fc := ⟨155, [.agg T9, .agg T9], [], [.c .bool], laws_eqParam.f⟩
def laws_eqParam.lps : List (Option (Lp (Bool × Unit))) := []
theorem laws_eqParam.ok : ∀ k, FcOK Try.prog laws_eqParam.fc k := fc_of (tbl := []) (fn := Try.f155) (lps := laws_eqParam.lps) Try.func155 (by kernel_rfl) ctx_nil (fun k x => by kernel_rfl) trivial

def laws_eqParamS.l2 : Nat → (List T9.D) × (List T9.D) × Int × Unit → Option (Bool × Unit)
  | 0, _ => none
  | k + 1, (x0, x1, x5, _) => (if (decide (x5 < (x0.length : Int))) = true then (if 0 ≤ x5 then (if x5 < (x0.length : Int) then (if 0 ≤ x5 then (if x5 < (x1.length : Int) then ((laws_eqParam.f k ((rdT T9 x0 x5.toNat), (rdT T9 x1 x5.toNat), ())).bind fun y1 => (if (!y1.1) = true then (some (false, ())) else (laws_eqParamS.l2 k (x0, x1, (w64 (x5 + (1 : Int))), ())))) else none) else none) else none) else none) else (some (true, ())))
def laws_eqParamS.f (k : Nat) : (List T9.D) × (List T9.D) × Unit → Option (Bool × Unit) := fun (a0, a1, _) => (if ((a0.length : Int) != (a1.length : Int)) = true then (some (false, ())) else (laws_eqParamS.l2 k (a0, a1, 0, ())))
def laws_eqParamS.fc : Fc := ⟨109, [.c (.list T9), .c (.list T9)], [], [.c .bool], laws_eqParamS.f⟩
def laws_eqParamS.lps : List (Option (Lp (Bool × Unit))) := [none, none, some ⟨[(0, .c (.list T9)), (1, .c (.list T9)), (5, .c (.int .i64))], laws_eqParamS.l2⟩]
theorem laws_eqParamS.ok : ∀ k, FcOK Try.prog laws_eqParamS.fc k := fc_of (tbl := [laws_eqParam.fc]) (fn := Try.f109) (lps := laws_eqParamS.lps) Try.func109 (by kernel_rfl) (ctx_cons laws_eqParam.ok ctx_nil) (fun k x => by kernel_rfl) ⟨.inl ⟨by kernel_rfl, fun _ => rfl, fun k y => by kernel_rfl⟩, trivial⟩

def laws_eqObject.f (k : Nat) : T14.D × T14.D × Unit → Option (Bool × Unit) := fun (a0, a1, _) => (if (!(a0.1.toList == a1.1.toList)) = true then (some (false, ())) else (if (a0.2.1 != a1.2.1) = true then (some (false, ())) else (if (a0.2.2.1 != a1.2.2.1) = true then (some (false, ())) else (if (a0.2.2.2.1 != a1.2.2.2.1) = true then (some (false, ())) else (if (a0.2.2.2.2.1 != a1.2.2.2.2.1) = true then (some (false, ())) else ((laws_eqParamS.f k (a0.2.2.2.2.2, a1.2.2.2.2.2, ())).bind fun y1 => (if (!y1.1) = true then (some (false, ())) else (some (true, ())))))))))
def laws_eqObject.fc : Fc := ⟨52, [.agg T14, .agg T14], [], [.c .bool], laws_eqObject.f⟩
def laws_eqObject.lps : List (Option (Lp (Bool × Unit))) := []
theorem laws_eqObject.ok : ∀ k, FcOK Try.prog laws_eqObject.fc k := fc_of (tbl := [laws_eqParamS.fc]) (fn := Try.f52) (lps := laws_eqObject.lps) Try.func52 (by kernel_rfl) (ctx_cons laws_eqParamS.ok ctx_nil) (fun k x => by kernel_rfl) trivial

def laws_eqObjectS.l2 : Nat → (List T14.D) × (List T14.D) × Int × Unit → Option (Bool × Unit)
  | 0, _ => none
  | k + 1, (x0, x1, x5, _) => (if (decide (x5 < (x0.length : Int))) = true then (if 0 ≤ x5 then (if x5 < (x0.length : Int) then (if 0 ≤ x5 then (if x5 < (x1.length : Int) then ((laws_eqObject.f k ((rdT T14 x0 x5.toNat), (rdT T14 x1 x5.toNat), ())).bind fun y1 => (if (!y1.1) = true then (some (false, ())) else (laws_eqObjectS.l2 k (x0, x1, (w64 (x5 + (1 : Int))), ())))) else none) else none) else none) else none) else (some (true, ())))
def laws_eqObjectS.f (k : Nat) : (List T14.D) × (List T14.D) × Unit → Option (Bool × Unit) := fun (a0, a1, _) => (if ((a0.length : Int) != (a1.length : Int)) = true then (some (false, ())) else (laws_eqObjectS.l2 k (a0, a1, 0, ())))
def laws_eqObjectS.fc : Fc := ⟨138, [.c (.list T14), .c (.list T14)], [], [.c .bool], laws_eqObjectS.f⟩
def laws_eqObjectS.lps : List (Option (Lp (Bool × Unit))) := [none, none, some ⟨[(0, .c (.list T14)), (1, .c (.list T14)), (5, .c (.int .i64))], laws_eqObjectS.l2⟩]
theorem laws_eqObjectS.ok : ∀ k, FcOK Try.prog laws_eqObjectS.fc k := fc_of (tbl := [laws_eqObject.fc]) (fn := Try.f138) (lps := laws_eqObjectS.lps) Try.func138 (by kernel_rfl) (ctx_cons laws_eqObject.ok ctx_nil) (fun k x => by kernel_rfl) ⟨.inl ⟨by kernel_rfl, fun _ => rfl, fun k y => by kernel_rfl⟩, trivial⟩

def laws_eqUse.f (k : Nat) : T3.D × T3.D × Unit → Option (Bool × Unit) := fun (a0, a1, _) => (if (!(a0.1.toList == a1.1.toList)) = true then (some (false, ())) else (if (!(a0.2.toList == a1.2.toList)) = true then (some (false, ())) else (some (true, ()))))
def laws_eqUse.fc : Fc := ⟨178, [.agg T3, .agg T3], [], [.c .bool], laws_eqUse.f⟩
def laws_eqUse.lps : List (Option (Lp (Bool × Unit))) := []
theorem laws_eqUse.ok : ∀ k, FcOK Try.prog laws_eqUse.fc k := fc_of (tbl := []) (fn := Try.f178) (lps := laws_eqUse.lps) Try.func178 (by kernel_rfl) ctx_nil (fun k x => by kernel_rfl) trivial

def laws_eqUseS.l2 : Nat → (List T3.D) × (List T3.D) × Int × Unit → Option (Bool × Unit)
  | 0, _ => none
  | k + 1, (x0, x1, x5, _) => (if (decide (x5 < (x0.length : Int))) = true then (if 0 ≤ x5 then (if x5 < (x0.length : Int) then (if 0 ≤ x5 then (if x5 < (x1.length : Int) then ((laws_eqUse.f k ((rdT T3 x0 x5.toNat), (rdT T3 x1 x5.toNat), ())).bind fun y1 => (if (!y1.1) = true then (some (false, ())) else (laws_eqUseS.l2 k (x0, x1, (w64 (x5 + (1 : Int))), ())))) else none) else none) else none) else none) else (some (true, ())))
def laws_eqUseS.f (k : Nat) : (List T3.D) × (List T3.D) × Unit → Option (Bool × Unit) := fun (a0, a1, _) => (if ((a0.length : Int) != (a1.length : Int)) = true then (some (false, ())) else (laws_eqUseS.l2 k (a0, a1, 0, ())))
def laws_eqUseS.fc : Fc := ⟨139, [.c (.list T3), .c (.list T3)], [], [.c .bool], laws_eqUseS.f⟩
def laws_eqUseS.lps : List (Option (Lp (Bool × Unit))) := [none, none, some ⟨[(0, .c (.list T3)), (1, .c (.list T3)), (5, .c (.int .i64))], laws_eqUseS.l2⟩]
theorem laws_eqUseS.ok : ∀ k, FcOK Try.prog laws_eqUseS.fc k := fc_of (tbl := [laws_eqUse.fc]) (fn := Try.f139) (lps := laws_eqUseS.lps) Try.func139 (by kernel_rfl) (ctx_cons laws_eqUse.ok ctx_nil) (fun k x => by kernel_rfl) ⟨.inl ⟨by kernel_rfl, fun _ => rfl, fun k y => by kernel_rfl⟩, trivial⟩

def laws_eqScope.f (k : Nat) : T18.D × T18.D × Unit → Option (Bool × Unit) := fun (a0, a1, _) => (if (!(a0.1.toList == a1.1.toList)) = true then (some (false, ())) else ((laws_eqStringS.f k (a0.2.1, a1.2.1, ())).bind fun y1 => (if (!y1.1) = true then (some (false, ())) else ((laws_eqTypeS.f k (a0.2.2.1, a1.2.2.1, ())).bind fun y2 => (if (!y2.1) = true then (some (false, ())) else ((laws_eqObjectS.f k (a0.2.2.2.1, a1.2.2.2.1, ())).bind fun y3 => (if (!y3.1) = true then (some (false, ())) else ((laws_eqUseS.f k (a0.2.2.2.2, a1.2.2.2.2, ())).bind fun y4 => (if (!y4.1) = true then (some (false, ())) else (some (true, ())))))))))))
def laws_eqScope.fc : Fc := ⟨67, [.agg T18, .agg T18], [], [.c .bool], laws_eqScope.f⟩
def laws_eqScope.lps : List (Option (Lp (Bool × Unit))) := []
theorem laws_eqScope.ok : ∀ k, FcOK Try.prog laws_eqScope.fc k := fc_of (tbl := [laws_eqStringS.fc, laws_eqTypeS.fc, laws_eqObjectS.fc, laws_eqUseS.fc]) (fn := Try.f67) (lps := laws_eqScope.lps) Try.func67 (by kernel_rfl) (ctx_cons laws_eqStringS.ok (ctx_cons laws_eqTypeS.ok (ctx_cons laws_eqObjectS.ok (ctx_cons laws_eqUseS.ok ctx_nil)))) (fun k x => by kernel_rfl) trivial

def laws_FnExactSameScope.f (k : Nat) : T18.D × T18.D × Unit → Option (Bool × Unit) := fun (a0, a1, _) => ((laws_szScope.f k (a0, 1048576, ())).bind fun y1 => (if (decide (y1.1 < (0 : Int))) = true then (some (true, ())) else ((laws_szScope.f k (a1, y1.1, ())).bind fun y2 => (if (decide (y2.1 < (0 : Int))) = true then (some (true, ())) else ((laws_toScope.f k (a0, ())).bind fun y3 => ((laws_toScope.f k (a1, ())).bind fun y4 => ((spec_SameScope.f k (y3.1, y4.1, ())).bind fun y5 => ((laws_toScope.f k (a0, ())).bind fun y6 => ((laws_toScope.f k (a1, ())).bind fun y7 => ((impl_SameScope.f k (y6.1, y7.1, ())).bind fun y8 => (if (!(y8.1 == y5.1)) = true then (some (false, ())) else ((laws_toScope.f k (a0, ())).bind fun y9 => ((laws_eqScope.f k (y6.1, y9.1, ())).bind fun y10 => (if (!y10.1) = true then (some (false, ())) else ((laws_toScope.f k (a1, ())).bind fun y11 => ((laws_eqScope.f k (y7.1, y11.1, ())).bind fun y12 => (if (!y12.1) = true then (some (false, ())) else (some (true, ())))))))))))))))))))
def laws_FnExactSameScope.fc : Fc := ⟨12, [.agg T18, .agg T18], [], [.c .bool], laws_FnExactSameScope.f⟩
def laws_FnExactSameScope.lps : List (Option (Lp (Bool × Unit))) := []
theorem laws_FnExactSameScope.ok : ∀ k, FcOK Try.prog laws_FnExactSameScope.fc k := fc_of (tbl := [laws_szScope.fc, laws_toScope.fc, spec_SameScope.fc, impl_SameScope.fc, laws_eqScope.fc]) (fn := Try.f12) (lps := laws_FnExactSameScope.lps) Try.func12 (by kernel_rfl) (ctx_cons laws_szScope.ok (ctx_cons laws_toScope.ok (ctx_cons spec_SameScope.ok (ctx_cons impl_SameScope.ok (ctx_cons laws_eqScope.ok ctx_nil))))) (fun k x => by kernel_rfl) trivial

end Go.Proofs.Ytdphgdlkchajoaa.LawFnExactSameScope
