/- Fields of a word, plain: the program's way and the reference's. -/
import Derived.Test.YtopkcanfiefmaaaDoorWdB
import Derived.Lib.SplitLaws
namespace Go.Proofs.YtopkcanfiefmaaaDoor
open Go.RowKit
set_option maxHeartbeats 400000
set_option linter.unusedVariables false
set_option linter.unusedSimpArgs false
abbrev bs (l : List UInt8) : ByteArray := ⟨l.toArray⟩
structure Pt where
  text : ByteArray
  var : Bool
  quoted : Bool
def Pt.zero : Pt := ⟨ByteArray.empty, false, false⟩
def Pt.cells (p : Pt) : List Value := [.string p.text, .bool p.var, .bool p.quoted]
structure Vr where
  name : ByteArray
  value : ByteArray
def Vr.zero : Vr := ⟨ByteArray.empty, ByteArray.empty⟩
def Vr.cells (v : Vr) : List Value := [.string v.name, .string v.value]
/-- The fields so far, the one under way, and whether there is one. -/
structure Fs where
  out : List ByteArray
  now : ByteArray
  some : Bool
def Fs.add (f : Fs) (s : ByteArray) : Fs := ⟨f.out, f.now ++ s, true⟩
def Fs.fin (f : Fs) : Fs := ⟨if f.some = true then f.out ++ [f.now] else f.out, ByteArray.empty, false⟩
def Fs.loose : Fs → List UInt8 → Fs
  | f, [] => f
  | f, b :: l => Fs.loose (if b = 32 then f.fin else f.add (bs [b])) l
def Fs.init : Fs := ⟨[], ByteArray.empty, false⟩
/-- A variable's value; T: the status. -/
def valS (T : ByteArray) (vars : List Vr) (name : ByteArray) : ByteArray :=
  if name.data.toList = [63] then T else match vars.find? (fun v => v.name.data.toList == name.data.toList) with | some v => v.value | none => ByteArray.empty
def Fs.part (T : ByteArray) (vars : List Vr) (f : Fs) (p : Pt) : Fs :=
  if p.var = true then (if p.quoted = true then f.add (valS T vars p.text) else f.loose (valS T vars p.text).data.toList)
  else if p.quoted = true ∨ p.text.size ≠ 0 then f.add p.text else f
/-- What is wrong with the variables: 3 form, 2 large. -/
def varsErr : List Vr → Int
  | [] => 0
  | v :: r => if nameW (nums v.name) = false then 3 else if 60 < v.value.size then 2 else varsErr r
def expandS (T : ByteArray) (op : ByteArray) (ps : List Pt) (vars : List Vr) : List ByteArray × Int :=
  if op.size ≠ 0 then ([], 1) else if varsErr vars ≠ 0 then ([], varsErr vars) else
  if 40 < ((ps.foldl (Fs.part T vars) Fs.init).fin).out.length then ([], 2) else (((ps.foldl (Fs.part T vars) Fs.init).fin).out, 0)
/-! the reference: pieces -/
structure Pc where
  s : ByteArray
  cut : Bool
def Pc.zero : Pc := ⟨ByteArray.empty, false⟩
def Pc.cells (p : Pc) : List Value := [.string p.s, .bool p.cut]
def Fs.step (f : Fs) (p : Pc) : Fs := if p.cut = false then f.add p.s else if f.some = true then ⟨f.out ++ [f.now], ByteArray.empty, false⟩ else f
def Fs.Inv (f : Fs) : Prop := f.some = false → f.now = ByteArray.empty
theorem Fs.step_cut {f : Fs} (h : f.Inv) : f.step ⟨ByteArray.empty, true⟩ = f.fin := by
  obtain ⟨out, now, some⟩ := f
  cases some with
  | true => rfl
  | false => have := h rfl; dsimp only at this; subst this; rfl
theorem Fs.inv_add (f : Fs) (s : ByteArray) : (f.add s).Inv := fun h => by cases h
theorem Fs.inv_fin (f : Fs) : f.fin.Inv := fun _ => rfl
theorem Fs.inv_loose : ∀ (l : List UInt8) (f : Fs), f.Inv → (f.loose l).Inv
  | [], f, h => h
  | b :: l, f, h => by
    unfold Fs.loose
    split
    · exact Fs.inv_loose l _ (Fs.inv_fin f)
    · exact Fs.inv_loose l _ (Fs.inv_add f _)
theorem Fs.inv_part (T : ByteArray) (vars : List Vr) (f : Fs) (p : Pt) (h : f.Inv) : (f.part T vars p).Inv := by
  unfold Fs.part
  repeat' split
  · exact Fs.inv_add f _
  · exact Fs.inv_loose _ f h
  · exact Fs.inv_add f _
  · exact h
theorem empty_app (s : ByteArray) : ByteArray.empty ++ s = s := by
  cases s; simp
theorem app_assoc (a b c : ByteArray) : a ++ b ++ c = a ++ (b ++ c) := ByteArray.append_assoc
theorem Fs.add_add (f : Fs) (a b : ByteArray) : (f.add a).add b = f.add (a ++ b) := by
  unfold Fs.add
  rw [app_assoc]
theorem bs_cons (b : UInt8) (x : List UInt8) : bs [b] ++ bs x = bs (b :: x) := by
  simp [ByteArray.mk_append_mk]
/-- A text parted at its blanks. -/
def spl (l : List UInt8) : List (List UInt8) := Lib.splitK [32] 0 (l.count 32) l
theorem splitK_ne (c b : UInt8) (h : b ≠ c) : ∀ (k : Nat) (l : List UInt8), ∃ x r, Lib.splitK [c] 0 k l = x :: r ∧ Lib.splitK [c] 0 k (b :: l) = (b :: x) :: r
  | 0, l => ⟨l, [], rfl, rfl⟩
  | k + 1, l => by
    have hp : ([c].isPrefixOf (b :: l)) = false := by simp [List.isPrefixOf, Ne.symm h]
    have hi : Lib.index (b :: l) [c] = if Lib.index l [c] == -1 then -1 else Lib.index l [c] + 1 := by
      rw [Lib.index, hp]; rfl
    have hge := Lib.index_ge l [c]
    by_cases h1 : (Lib.index l [c] == -1) = true
    · refine ⟨l, [], ?_, ?_⟩
      · rw [Lib.splitK, if_pos h1]
      · rw [Lib.splitK, hi, if_pos h1, if_pos (by rfl)]
    · have h2 : ¬ Lib.index l [c] = -1 := by simpa using h1
      have h3 : ¬ (Lib.index l [c] + 1 == -1) = true := by simp; omega
      obtain ⟨i, hi'⟩ : ∃ i : Nat, Lib.index l [c] = i := ⟨(Lib.index l [c]).toNat, by omega⟩
      refine ⟨l.take i, Lib.splitK [c] 0 k (l.drop (i + 1)), ?_, ?_⟩
      · rw [Lib.splitK, if_neg h1, hi', Int.toNat_natCast]; rfl
      · rw [Lib.splitK, hi, if_neg h1, if_neg h3, hi', show ((i : Int) + 1).toNat = i + 1 by omega]
        simp
theorem splitK_eq (c : UInt8) (k : Nat) (l : List UInt8) : Lib.splitK [c] 0 (k + 1) (c :: l) = [] :: Lib.splitK [c] 0 k l := by
  have hi : Lib.index (c :: l) [c] = 0 := by
    rw [Lib.index]; simp [List.isPrefixOf]
  rw [Lib.splitK, hi]
  rfl
theorem spl_nil : spl [] = [[]] := rfl
theorem spl_blank (l : List UInt8) : spl (32 :: l) = [] :: spl l := by
  unfold spl
  rw [List.count_cons_self, splitK_eq]
theorem spl_cons (b : UInt8) (l : List UInt8) (h : b ≠ 32) : ∃ x r, spl l = x :: r ∧ spl (b :: l) = (b :: x) :: r := by
  unfold spl
  rw [List.count_cons_of_ne h]
  exact splitK_ne 32 b h _ l
theorem spl_some : ∀ l : List UInt8, ∃ x r, spl l = x :: r
  | [] => ⟨[], [], rfl⟩
  | b :: l => by
    by_cases h : b = 32
    · subst h; exact ⟨[], spl l, spl_blank l⟩
    · obtain ⟨x, r, _, h2⟩ := spl_cons b l h; exact ⟨b :: x, r, h2⟩
theorem spl_len : ∀ l : List UInt8, (spl l).length ≤ l.length + 1
  | [] => by rw [spl_nil]; simp
  | b :: l => by
    have ih := spl_len l
    by_cases h : b = 32
    · subst h; rw [spl_blank]; simp; omega
    · obtain ⟨x, r, h1, h2⟩ := spl_cons b l h
      rw [h1] at ih
      rw [h2]; simp at ih ⊢; omega
theorem spl_size : ∀ (l : List UInt8), ∀ x ∈ spl l, x.length ≤ l.length
  | [], x, h => by rw [spl_nil] at h; simp at h; subst h; simp
  | b :: l, x, h => by
    by_cases hb : b = 32
    · subst hb
      rw [spl_blank] at h
      rcases List.mem_cons.1 h with rfl | h
      · simp
      · have := spl_size l x h; simp; omega
    · obtain ⟨y, r, h1, h2⟩ := spl_cons b l hb
      rw [h2] at h
      rcases List.mem_cons.1 h with rfl | h
      · have := spl_size l y (by rw [h1]; simp); simp; omega
      · have := spl_size l x (by rw [h1]; simp [h]); simp; omega
/-- One piece, or none of an empty text. -/
def pc1 (x : List UInt8) : List Pc := if x = [] then [] else [⟨bs x, false⟩]
/-- The pieces of the parted text number k and behind. -/
def pcsV : Nat → List (List UInt8) → List Pc
  | _, [] => []
  | 0, x :: r => pc1 x ++ pcsV 1 r
  | k + 1, x :: r => ⟨ByteArray.empty, true⟩ :: (pc1 x ++ pcsV (k + 2) r)
def pcsP : Nat → List (List UInt8) → List Pc
  | _, [] => []
  | 0, x :: r => pc1 x ++ pcsP 1 r
  | k + 1, x :: r => pc1 (32 :: x) ++ pcsP (k + 2) r
theorem pcsV_any : ∀ (r : List (List UInt8)) (k : Nat), pcsV (k + 1) r = pcsV 1 r
  | [], _ => by simp [pcsV]
  | x :: r, k => by simp only [pcsV]; rw [pcsV_any r (k + 1), pcsV_any r 1]
theorem pcsP_any : ∀ (r : List (List UInt8)) (k : Nat), pcsP (k + 1) r = pcsP 1 r
  | [], _ => by simp [pcsP]
  | x :: r, k => by simp only [pcsP]; rw [pcsP_any r (k + 1), pcsP_any r 1]
theorem fold_pc1 (f : Fs) (x : List UInt8) (r : List Pc) : (pc1 x ++ r).foldl Fs.step f = r.foldl Fs.step (if x = [] then f else f.add (bs x)) := by
  unfold pc1
  split <;> rfl
theorem fold_pc1_add (f : Fs) (b : UInt8) (x : List UInt8) (r : List Pc) : (pc1 x ++ r).foldl Fs.step (f.add (bs [b])) = r.foldl Fs.step (f.add (bs (b :: x))) := by
  rw [fold_pc1]
  split
  · rename_i h; rw [h]
  · rw [Fs.add_add, bs_cons]
theorem fold_V : ∀ (l : List UInt8) (f : Fs), f.Inv → (pcsV 0 (spl l)).foldl Fs.step f = f.loose l
  | [], f, _ => by rw [spl_nil]; rfl
  | b :: l, f, h => by
    by_cases hb : b = 32
    · subst hb
      obtain ⟨x, r, hx⟩ := spl_some l
      have ih := fold_V l f.fin (Fs.inv_fin f)
      rw [spl_blank, Fs.loose, if_pos rfl, ← ih, hx]
      have e : pcsV 0 ([] :: x :: r) = ⟨ByteArray.empty, true⟩ :: (pcsV 0 (x :: r)) := by
        simp only [pcsV, pc1, if_true, List.nil_append]
        rw [pcsV_any r 1]
      rw [e, List.foldl_cons, Fs.step_cut h]
    · obtain ⟨x, r, h1, h2⟩ := spl_cons b l hb
      have ih := fold_V l (f.add (bs [b])) (Fs.inv_add f _)
      rw [h1] at ih
      rw [h2, Fs.loose, if_neg hb, ← ih]
      simp only [pcsV]
      rw [fold_pc1_add, fold_pc1, if_neg (by simp)]
theorem fold_P : ∀ (l : List UInt8) (f : Fs), (pcsP 0 (spl l)).foldl Fs.step f = if l = [] then f else f.add (bs l)
  | [], f => by rw [spl_nil]; rfl
  | b :: l, f => by
    have ih := fold_P l (f.add (bs [b]))
    have fin : (if l = [] then f.add (bs [b]) else (f.add (bs [b])).add (bs l)) = f.add (bs (b :: l)) := by
      split
      · rename_i h; rw [h]
      · rw [Fs.add_add, bs_cons]
    rw [fin] at ih
    rw [if_neg (by simp), ← ih]
    by_cases hb : b = 32
    · subst hb
      obtain ⟨x, r, hx⟩ := spl_some l
      rw [spl_blank, hx]
      have e : pcsP 0 ([] :: x :: r) = pc1 (32 :: x) ++ pcsP 1 r := by
        simp only [pcsP, pc1, if_true, List.nil_append]
        rw [pcsP_any r 1]
      rw [e, fold_pc1, if_neg (by simp)]
      simp only [pcsP]
      rw [fold_pc1_add]
    · obtain ⟨x, r, h1, h2⟩ := spl_cons b l hb
      rw [h2, h1]
      simp only [pcsP]
      rw [fold_pc1_add, fold_pc1, if_neg (by simp)]
/-- The pieces of a part. -/
def pcsOf (T : ByteArray) (vars : List Vr) (p : Pt) : List Pc :=
  if p.quoted = true then [⟨if p.var = true then valS T vars p.text else p.text, false⟩]
  else if p.var = true then pcsV 0 (spl (valS T vars p.text).data.toList) else pcsP 0 (spl p.text.data.toList)
theorem fold_part (T : ByteArray) (vars : List Vr) (f : Fs) (p : Pt) (h : f.Inv) : (pcsOf T vars p).foldl Fs.step f = f.part T vars p := by
  unfold pcsOf Fs.part
  obtain ⟨t, v, q⟩ := p
  cases q <;> cases v
  · simp only [Bool.false_eq_true, if_false, false_or]
    rw [fold_P]
    by_cases ht : t.size = 0
    · have h0 : t.data.toList = [] := List.eq_nil_of_length_eq_zero (by simpa using ht)
      rw [if_pos h0, if_neg (fun h => h ht)]
    · have h0 : ¬ t.data.toList = [] := fun h => ht (by have := congrArg List.length h; simpa using this)
      rw [if_neg h0, if_pos ht]
  · simp only [Bool.false_eq_true, if_false, if_true]
    exact fold_V _ f h
  · simp [Fs.step]
  · simp [Fs.step]
theorem fold_parts (T : ByteArray) (vars : List Vr) : ∀ (ps : List Pt) (f : Fs), f.Inv → (ps.flatMap (pcsOf T vars)).foldl Fs.step f = ps.foldl (Fs.part T vars) f
  | [], f, _ => rfl
  | p :: ps, f, h => by
    rw [List.flatMap_cons, List.foldl_append, fold_part T vars f p h, List.foldl_cons]
    exact fold_parts T vars ps _ (Fs.inv_part T vars f p h)
theorem inv_parts (T : ByteArray) (vars : List Vr) : ∀ (ps : List Pt) (f : Fs), f.Inv → (ps.foldl (Fs.part T vars) f).Inv
  | [], f, h => h
  | p :: ps, f, h => inv_parts T vars ps _ (Fs.inv_part T vars f p h)
theorem fold_all (T : ByteArray) (vars : List Vr) (ps : List Pt) : (ps.flatMap (pcsOf T vars) ++ [(⟨ByteArray.empty, true⟩ : Pc)]).foldl Fs.step Fs.init = (ps.foldl (Fs.part T vars) Fs.init).fin := by
  have h0 : Fs.init.Inv := fun _ => rfl
  rw [List.foldl_append, fold_parts T vars ps _ h0, List.foldl_cons, List.foldl_nil, Fs.step_cut (inv_parts T vars ps _ h0)]
end Go.Proofs.YtopkcanfiefmaaaDoor
