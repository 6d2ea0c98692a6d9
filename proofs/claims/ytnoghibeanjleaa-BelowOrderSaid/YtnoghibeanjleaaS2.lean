/- A law's arguments as books and meters. -/
import Derived.Test.YtnoghibeanjleaaS1
set_option linter.unusedVariables false
set_option linter.unusedSimpArgs false
namespace Go.Hl
open Go.Gh

def bookTy : Ty := .agg [.int, .int, .int, .int, .int, .int, .int, .int, .int, .int, .int, .int, .int, .int, .int, .int, .int, .int, .int]
def meterTy : Ty := .agg [.int, .int, .bool, .int, .int, .int, .int, .bool, .int, .int, .bool, .int, .int, .int]

/-- Each number is one of 64 bits. -/
structure Book.Fits (b : Book) : Prop where
  all : I64 b.Drive ∧ I64 b.Break ∧ I64 b.First ∧ I64 b.Second ∧ I64 b.Day ∧ I64 b.Longer ∧ I64 b.Longers ∧ I64 b.Regular ∧ I64 b.Reduced ∧ I64 b.Reduces ∧ I64 b.Part ∧ I64 b.Round ∧ I64 b.Weekly ∧ I64 b.Short ∧ I64 b.Rounds ∧ I64 b.Week ∧ I64 b.Fortnight ∧ I64 b.Labour ∧ I64 b.Length
structure Meter.Fits (m : Meter) : Prop where
  all : I64 m.Now ∧ I64 m.Acc ∧ I64 m.Lie ∧ I64 m.Dawn ∧ I64 m.Day ∧ I64 m.Longers ∧ I64 m.Reduces ∧ I64 m.Sabbath ∧ I64 m.Week ∧ I64 m.Last ∧ I64 m.Labour

theorem ints_of : ∀ (n : Nat) {gs : List GV}, WTs (List.replicate n .int) gs → ∃ ns : List Int, ns.length = n ∧ gs = ns.map gi ∧ ∀ x, x ∈ ns → I64 x
  | 0, gs, h => ⟨[], rfl, h, fun x hx => by cases hx⟩
  | n + 1, gs, h => by
    obtain ⟨a, b, rfl, ⟨x, rfl, hx⟩, h2⟩ := h
    obtain ⟨ns, h3, rfl, h4⟩ := ints_of n h2
    exact ⟨x :: ns, by simp [h3], rfl, fun y hy => by
      rcases List.mem_cons.1 hy with rfl | hy
      · exact hx
      · exact h4 y hy⟩

theorem WTs.int {ts : List Ty} {gs : List GV} (h : WTs (.int :: ts) gs) : ∃ (n : Int) (r : List GV), gs = gi n :: r ∧ I64 n ∧ WTs ts r := by
  obtain ⟨a, b, rfl, ⟨n, rfl, hn⟩, h2⟩ := h
  exact ⟨n, b, rfl, hn, h2⟩
theorem WTs.bool {ts : List Ty} {gs : List GV} (h : WTs (.bool :: ts) gs) : ∃ (n : Bool) (r : List GV), gs = gb n :: r ∧ WTs ts r := by
  obtain ⟨a, b, rfl, ⟨n, rfl⟩, h2⟩ := h
  exact ⟨n, b, rfl, h2⟩
theorem WTs.nil {gs : List GV} (h : WTs [] gs) : gs = [] := h

theorem book_wt {cs : List GV} (h : WT bookTy cs) : ∃ b : Book, cs = b.c ∧ b.Fits := by
  have k0 : WTs _ cs := h
  obtain ⟨x1, r1, e1, h1, k1⟩ := WTs.int k0
  obtain ⟨x2, r2, e2, h2, k2⟩ := WTs.int k1
  obtain ⟨x3, r3, e3, h3, k3⟩ := WTs.int k2
  obtain ⟨x4, r4, e4, h4, k4⟩ := WTs.int k3
  obtain ⟨x5, r5, e5, h5, k5⟩ := WTs.int k4
  obtain ⟨x6, r6, e6, h6, k6⟩ := WTs.int k5
  obtain ⟨x7, r7, e7, h7, k7⟩ := WTs.int k6
  obtain ⟨x8, r8, e8, h8, k8⟩ := WTs.int k7
  obtain ⟨x9, r9, e9, h9, k9⟩ := WTs.int k8
  obtain ⟨x10, r10, e10, h10, k10⟩ := WTs.int k9
  obtain ⟨x11, r11, e11, h11, k11⟩ := WTs.int k10
  obtain ⟨x12, r12, e12, h12, k12⟩ := WTs.int k11
  obtain ⟨x13, r13, e13, h13, k13⟩ := WTs.int k12
  obtain ⟨x14, r14, e14, h14, k14⟩ := WTs.int k13
  obtain ⟨x15, r15, e15, h15, k15⟩ := WTs.int k14
  obtain ⟨x16, r16, e16, h16, k16⟩ := WTs.int k15
  obtain ⟨x17, r17, e17, h17, k17⟩ := WTs.int k16
  obtain ⟨x18, r18, e18, h18, k18⟩ := WTs.int k17
  obtain ⟨x19, r19, e19, h19, k19⟩ := WTs.int k18
  have e20 := WTs.nil k19
  subst e20 e19 e18 e17 e16 e15 e14 e13 e12 e11 e10 e9 e8 e7 e6 e5 e4 e3 e2 e1
  exact ⟨⟨x1, x2, x3, x4, x5, x6, x7, x8, x9, x10, x11, x12, x13, x14, x15, x16, x17, x18, x19⟩, rfl, ⟨h1, h2, h3, h4, h5, h6, h7, h8, h9, h10, h11, h12, h13, h14, h15, h16, h17, h18, h19⟩⟩
theorem meter_wt {cs : List GV} (h : WT meterTy cs) : ∃ m : Meter, cs = m.c ∧ m.Fits := by
  have k0 : WTs _ cs := h
  obtain ⟨x1, r1, e1, h1, k1⟩ := WTs.int k0
  obtain ⟨x2, r2, e2, h2, k2⟩ := WTs.int k1
  obtain ⟨x3, r3, e3, k3⟩ := WTs.bool k2
  obtain ⟨x4, r4, e4, h4, k4⟩ := WTs.int k3
  obtain ⟨x5, r5, e5, h5, k5⟩ := WTs.int k4
  obtain ⟨x6, r6, e6, h6, k6⟩ := WTs.int k5
  obtain ⟨x7, r7, e7, h7, k7⟩ := WTs.int k6
  obtain ⟨x8, r8, e8, k8⟩ := WTs.bool k7
  obtain ⟨x9, r9, e9, h9, k9⟩ := WTs.int k8
  obtain ⟨x10, r10, e10, h10, k10⟩ := WTs.int k9
  obtain ⟨x11, r11, e11, k11⟩ := WTs.bool k10
  obtain ⟨x12, r12, e12, h12, k12⟩ := WTs.int k11
  obtain ⟨x13, r13, e13, h13, k13⟩ := WTs.int k12
  obtain ⟨x14, r14, e14, h14, k14⟩ := WTs.int k13
  have e15 := WTs.nil k14
  subst e15 e14 e13 e12 e11 e10 e9 e8 e7 e6 e5 e4 e3 e2 e1
  exact ⟨⟨x1, x2, x3, x4, x5, x6, x7, x8, x9, x10, x11, x12, x13, x14⟩, rfl, ⟨h1, h2, h4, h5, h6, h7, h9, h10, h12, h13, h14⟩⟩

theorem book_of {g : GV} (h : ArgOk bookTy g) : ∃ b : Book, g = b.g ∧ b.Fits := by
  obtain ⟨cs, rfl, hw⟩ := h.1 rfl
  obtain ⟨b, rfl, hb⟩ := book_wt hw
  exact ⟨b, rfl, hb⟩
theorem meter_of {g : GV} (h : ArgOk meterTy g) : ∃ m : Meter, g = m.g ∧ m.Fits := by
  obtain ⟨cs, rfl, hw⟩ := h.1 rfl
  obtain ⟨b, rfl, hb⟩ := meter_wt hw
  exact ⟨b, rfl, hb⟩

end Go.Hl
