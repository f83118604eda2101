/- Over any program: an append in a drawn region whose appended elements are known only by a property Z that lasts. -/
import Derived.Test.YtdgjcjhdclihpaaDoorOwnC
namespace Go
open Go.RowKit
set_option linter.unusedVariables false
set_option linter.unusedSimpArgs false
/-- An appended row that says some ys of which Z holds. -/
def AppZ (Z : List Value → World → Prop) (base : Nat) (e : TypeId) (size s0 : Nat) (A0 : Option Addr) (c0 k : Nat) (w : World) (A : Option Addr) (c : Nat) : Prop := ∃ ys, Z ys w ∧ App base e size s0 A0 c0 k ys w A c
def AppZF (Z : List Value → World → Prop) (base : Nat) (e : TypeId) (size s0 : Nat) (A0 : Option Addr) (n c0 k : Nat) (w w' : World) : Prop :=
  (∀ A c, AppZ Z base e size s0 A0 c0 k w A c → AppZ Z base e size s0 A0 c0 k w' A c) ∧ Fr (fun g => (Value.slice A0 n c0).ownBlock = some g) w w'
section
variable {Z : List Value → World → Prop} {base : Nat} {e : TypeId} {size s0 : Nat} {A0 : Option Addr} {n c0 k : Nat}
theorem AppZF.refl (w : World) : AppZF Z base e size s0 A0 n c0 k w w := ⟨fun _ _ h => h, Fr.refl _ w⟩
/-- Memory has only grown. -/
theorem AppZF.grow {w w' : World} (hZ : ∀ ys w w', Z ys w → Fr (fun g => (Value.slice A0 n c0).ownBlock = some g) w w' → Z ys w') (hb : Below w.heap.size w w') : AppZF Z base e size s0 A0 n c0 k w w' := by
  have hf : Fr (fun g => (Value.slice A0 n c0).ownBlock = some g) w w' := (Fr.of_grow hb).mono fun _ _ h => h.elim
  refine ⟨fun A c h => ?_, hf⟩
  obtain ⟨ys, h1, h2⟩ := h
  exact ⟨ys, hZ ys w w' h1 hf, h2.row.grow hb, h2.spot⟩
def appzSt (Z : List Value → World → Prop) (base : Nat) (e : TypeId) (size s0 : Nat) (A0 : Option Addr) (n c0 k : Nat) : FR.St (AppZF Z base e size s0 A0 n c0 k) :=
  ⟨fun v w => ∃ A c, v = .slice A k c ∧ AppZ Z base e size s0 A0 c0 k w A c, fun _ _ _ h hr => by obtain ⟨A, c, h1, h2⟩ := h; exact ⟨A, c, h1, hr.1 A c h2⟩⟩
/-- A property of a value that lasts while only the slice's own block changes. -/
def frSt (Z : List Value → World → Prop) (base : Nat) (e : TypeId) (size s0 : Nat) (A0 : Option Addr) (n c0 k : Nat) (p : Value → World → Prop) (hp : ∀ v w w', p v w → Fr (fun g => (Value.slice A0 n c0).ownBlock = some g) w w' → p v w') : FR.St (AppZF Z base e size s0 A0 n c0 k) :=
  ⟨p, fun v w w' h hr => hp v w w' h hr.2⟩
theorem wpList_append_row_z {P : Program} (w : World) {ops : Array Oper} {rest : List Oper} {o : Oper} {a : Act} {Q : Exit → Act → World → Prop} (hgd : o.guard = none) (s x : Operand) (t : TypeId)
    (ho : o.op = .call { callee := .builtin .append, args := #[s, x], argTypes := #[t, t] })
    (Z : List Value → World → Prop) (base : Nat) (e : TypeId) (i : TypeInfo) (z : Value) (size bytes : Nat) (ht : P.underlying t = some (.slice e)) (hi : P.info? e = some i) (hz : i.zero = some z)
    (hsize : i.size = size) (hby : i.bytes = bytes) (hzs : z.cells.size = size) (hsz : 0 < size)
    (A0 : Option Addr) (n c0 : Nat) (xs : List Value) (hs : a.eval s = .slice A0 n c0) (hown : Row w base e size (.slice A0 n c0) n xs)
    (B : Nat) (A : Option Addr) (m c : Nat) (news : List Value) (hx : a.eval x = .slice A m c) (hr : Reads w B size A m news) (h1 : ∀ u ∈ news, u.oneCell' = true)
    (h63 : n + m ≤ maxLen) (hbytes : (n + m) * bytes ≤ 140737488355328) (hbase : base ≤ w.heap.size) (h0 : 0 < m) (s0 : Nat) (hs0 : s0 ≤ w.heap.size) (hrow : ∀ g, (Value.slice A0 n c0).ownBlock = some g → g < s0)
    (hZ : ∀ ys w w', Z ys w → Fr (fun g => (Value.slice A0 n c0).ownBlock = some g) w w' → Z ys w') (hZ0 : Z (xs ++ news) w)
    (h : ∀ A' c' w', AppZ Z base e size s0 A0 c0 (n + m) w' A' c' → AppZF Z base e size s0 A0 n c0 (n + m) w w' → Row w' base e size (.slice A0 n c0) n xs → w.grownBy w' (Value.slice A0 n c0).ownBlock → wpList P ops Q rest (a.put o.dst (.slice A' (n + m) c')) w') : wpList P ops Q (o :: rest) a w := by
  refine wpList_append_row_at w hgd s x t ho base e i z size bytes ht hi hz hsize hby hzs hsz A0 n c0 xs hs hown B A m c news hx hr h1 h63 hbytes hbase h0 s0 hs0 hrow ?_
  intro A' c' w' hA hF hR hg
  have hf := Fr.of_grown hg
  have hf' : Fr (fun g => (Value.slice A0 n c0).ownBlock = some g) w w' := hf
  have hAZ : AppZ Z base e size s0 A0 c0 (n + m) w' A' c' := ⟨_, hZ _ _ _ hZ0 hf', hA⟩
  refine h A' c' w' hAZ ⟨fun A9 c9 h9 => ?_, hf'⟩ hR hg
  obtain ⟨ys, hz9, h9⟩ := h9
  rcases h9.spot with ⟨hroom, rfl, rfl⟩ | ⟨hroom, g, hgo, hgs⟩
  · rcases hA.spot with ⟨_, rfl, rfl⟩ | ⟨hh, _⟩
    · exact hAZ
    · exact absurd hroom hh
  · refine ⟨ys, hZ _ _ _ hz9 hf', h9.row.grown hg (fun k hk e => ?_), h9.spot⟩
    have := hrow k e
    rw [hgo] at hk
    injection hk with hk
    omega
end
end Go
