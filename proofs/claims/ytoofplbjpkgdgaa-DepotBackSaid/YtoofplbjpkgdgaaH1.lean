/- Contracts of functions, bundle H1; proved for whatever the arguments' types allow, as each theorem says. -/
import Derived.Test.YtoofplbjpkgdgaaGh15
import Derived.Test.YtoofplbjpkgdgaaProg

/- Books, meters, what may be: plain Lean, no program in sight. -/
set_option linter.unusedVariables false
namespace Go.Hl
open Go.Gh

structure Book where
  Drive : Int
  Break : Int
  First : Int
  Second : Int
  Day : Int
  Longer : Int
  Longers : Int
  Regular : Int
  Reduced : Int
  Reduces : Int
  Part : Int
  Round : Int
  Weekly : Int
  Short : Int
  Rounds : Int
  Week : Int
  Fortnight : Int
  Labour : Int
  Length : Int
  deriving DecidableEq

def Book.c (b : Book) : List GV := [gi b.Drive, gi b.Break, gi b.First, gi b.Second, gi b.Day, gi b.Longer, gi b.Longers, gi b.Regular, gi b.Reduced, gi b.Reduces, gi b.Part, gi b.Round, gi b.Weekly, gi b.Short, gi b.Rounds, gi b.Week, gi b.Fortnight, gi b.Labour, gi b.Length]
def Book.g (b : Book) : GV := .agg b.c

structure Meter where
  Now : Int
  Acc : Int
  Half : Bool
  Lie : Int
  Dawn : Int
  Day : Int
  Longers : Int
  Split : Bool
  Reduces : Int
  Sabbath : Int
  Brief : Bool
  Week : Int
  Last : Int
  Labour : Int
  deriving DecidableEq

def Meter.c (m : Meter) : List GV := [gi m.Now, gi m.Acc, gb m.Half, gi m.Lie, gi m.Dawn, gi m.Day, gi m.Longers, gb m.Split, gi m.Reduces, gi m.Sabbath, gb m.Brief, gi m.Week, gi m.Last, gi m.Labour]
def Meter.g (m : Meter) : GV := .agg m.c

def I64 (n : Int) : Prop := -9223372036854775808 ≤ n ∧ n ≤ 9223372036854775807

/-- Whether all numbers are within their limits. -/
def Book.within (b : Book) : Prop :=
  (1 ≤ b.Drive ∧ b.Drive ≤ 40320) ∧ (1 ≤ b.Break ∧ b.Break ≤ 40320) ∧ (1 ≤ b.First ∧ b.First ≤ 40320) ∧ (1 ≤ b.Second ∧ b.Second ≤ 40320) ∧ (1 ≤ b.Day ∧ b.Day ≤ 40320) ∧
  (1 ≤ b.Longer ∧ b.Longer ≤ 40320) ∧ (0 ≤ b.Longers ∧ b.Longers ≤ 1000) ∧ (1 ≤ b.Regular ∧ b.Regular ≤ 40320) ∧ (1 ≤ b.Reduced ∧ b.Reduced ≤ 40320) ∧ (0 ≤ b.Reduces ∧ b.Reduces ≤ 1000) ∧
  (1 ≤ b.Part ∧ b.Part ≤ 40320) ∧ (1 ≤ b.Round ∧ b.Round ≤ 40320) ∧ (1 ≤ b.Weekly ∧ b.Weekly ≤ 40320) ∧ (1 ≤ b.Short ∧ b.Short ≤ 40320) ∧ (1 ≤ b.Rounds ∧ b.Rounds ≤ 40320) ∧
  (1 ≤ b.Week ∧ b.Week ≤ 40320) ∧ (1 ≤ b.Fortnight ∧ b.Fortnight ≤ 40320) ∧ (1 ≤ b.Labour ∧ b.Labour ≤ 40320) ∧ (1 ≤ b.Length ∧ b.Length ≤ 40320)
instance (b : Book) : Decidable b.within := by unfold Book.within; infer_instance

structure Book.May (b : Book) : Prop where
  within : b.within
  first : b.First ≤ b.Break
  second : b.Second ≤ b.Break
  brk : b.Break ≤ b.Part
  part : b.Part ≤ b.Reduced
  reduced : b.Reduced ≤ b.Regular
  regular : b.Regular ≤ b.Short
  short : b.Short ≤ b.Weekly
  day : b.Day ≤ b.Longer
  round : b.Reduced < b.Round

theorem Book.May_iff (b : Book) : b.May ↔ (b.within ∧ b.First ≤ b.Break ∧ b.Second ≤ b.Break ∧ b.Break ≤ b.Part ∧ b.Part ≤ b.Reduced ∧ b.Reduced ≤ b.Regular ∧ b.Regular ≤ b.Short ∧ b.Short ≤ b.Weekly ∧ b.Day ≤ b.Longer ∧ b.Reduced < b.Round) :=
  ⟨fun h => ⟨h.1, h.2, h.3, h.4, h.5, h.6, h.7, h.8, h.9, h.10⟩, fun ⟨h1, h2, h3, h4, h5, h6, h7, h8, h9, h10⟩ => ⟨h1, h2, h3, h4, h5, h6, h7, h8, h9, h10⟩⟩
instance (b : Book) : Decidable b.May := decidable_of_iff _ b.May_iff.symm

structure Meter.May (m : Meter) : Prop where
  now : 0 ≤ m.Now ∧ m.Now ≤ 40320
  acc : 0 ≤ m.Acc ∧ m.Acc ≤ m.Now
  lie : 0 ≤ m.Lie ∧ m.Lie ≤ m.Now
  dawn : 0 ≤ m.Dawn ∧ m.Dawn ≤ m.Now
  day : 0 ≤ m.Day ∧ m.Day ≤ m.Now
  longers : 0 ≤ m.Longers ∧ m.Longers ≤ m.Now
  reduces : 0 ≤ m.Reduces ∧ m.Reduces ≤ m.Now
  sabbath : 0 ≤ m.Sabbath ∧ m.Sabbath ≤ m.Now
  week : 0 ≤ m.Week ∧ m.Week ≤ m.Now
  last : 0 ≤ m.Last ∧ m.Last ≤ m.Now
  labour : 0 ≤ m.Labour ∧ m.Labour ≤ m.Now

theorem Meter.May_iff (m : Meter) : m.May ↔ ((0 ≤ m.Now ∧ m.Now ≤ 40320) ∧ (0 ≤ m.Acc ∧ m.Acc ≤ m.Now) ∧ (0 ≤ m.Lie ∧ m.Lie ≤ m.Now) ∧ (0 ≤ m.Dawn ∧ m.Dawn ≤ m.Now) ∧ (0 ≤ m.Day ∧ m.Day ≤ m.Now) ∧ (0 ≤ m.Longers ∧ m.Longers ≤ m.Now) ∧
    (0 ≤ m.Reduces ∧ m.Reduces ≤ m.Now) ∧ (0 ≤ m.Sabbath ∧ m.Sabbath ≤ m.Now) ∧ (0 ≤ m.Week ∧ m.Week ≤ m.Now) ∧ (0 ≤ m.Last ∧ m.Last ≤ m.Now) ∧ (0 ≤ m.Labour ∧ m.Labour ≤ m.Now)) :=
  ⟨fun h => ⟨h.1, h.2, h.3, h.4, h.5, h.6, h.7, h.8, h.9, h.10, h.11⟩, fun ⟨h1, h2, h3, h4, h5, h6, h7, h8, h9, h10, h11⟩ => ⟨h1, h2, h3, h4, h5, h6, h7, h8, h9, h10, h11⟩⟩
instance (m : Meter) : Decidable m.May := decidable_of_iff _ m.May_iff.symm

/-- x is nowhere worse than y. -/
structure Under (b : Book) (x y : Meter) : Prop where
  book : b.May
  mx : x.May
  my : y.May
  now : x.Now = y.Now
  lie : x.Lie = y.Lie
  half : x.Half = y.Half
  acc : x.Acc ≤ y.Acc
  day : x.Day ≤ y.Day
  reduces : x.Reduces ≤ y.Reduces
  week : x.Week ≤ y.Week
  last : x.Last ≤ y.Last
  labour : x.Labour ≤ y.Labour
  dawn : y.Dawn ≤ x.Dawn
  sabbath : y.Sabbath ≤ x.Sabbath
  split : y.Split = true → x.Split = true
  brief : x.Brief = true → y.Brief = true
  spent : if x.Day ≤ b.Day ∧ b.Day < y.Day then x.Longers < y.Longers ∧ x.Longers < b.Longers else x.Longers ≤ y.Longers

def Book.europe : Book := ⟨270, 45, 15, 30, 540, 600, 2, 660, 540, 3, 180, 1440, 2700, 1440, 8640, 3360, 5400, 3600, 10080⟩

end Go.Hl

/- A law's arguments as books and meters. -/
set_option linter.unusedVariables false
set_option linter.unusedSimpArgs false
namespace Go.Hl
open Go.Gh

def bookTy : Ty := .agg [.int, .int, .int, .int, .int, .int, .int, .int, .int, .int, .int, .int, .int, .int, .int, .int, .int, .int, .int]
def meterTy : Ty := .agg [.int, .int, .bool, .int, .int, .int, .int, .bool, .int, .int, .bool, .int, .int, .int]

/-- Each number is one of 64 bits. -/
structure Book.Fits (b : Book) : Prop where
  all : I64 b.Drive ∧ I64 b.Break ∧ I64 b.First ∧ I64 b.Second ∧ I64 b.Day ∧ I64 b.Longer ∧ I64 b.Longers ∧ I64 b.Regular ∧ I64 b.Reduced ∧ I64 b.Reduces ∧ I64 b.Part ∧ I64 b.Round ∧ I64 b.Weekly ∧ I64 b.Short ∧ I64 b.Rounds ∧ I64 b.Week ∧ I64 b.Fortnight ∧ I64 b.Labour ∧ I64 b.Length
structure Meter.Fits (m : Meter) : Prop where
  all : I64 m.Now ∧ I64 m.Acc ∧ I64 m.Lie ∧ I64 m.Dawn ∧ I64 m.Day ∧ I64 m.Longers ∧ I64 m.Reduces ∧ I64 m.Sabbath ∧ I64 m.Week ∧ I64 m.Last ∧ I64 m.Labour

theorem WTs.int {ts : List Ty} {gs : List GV} (h : WTs (.int :: ts) gs) : ∃ (n : Int) (r : List GV), gs = gi n :: r ∧ I64 n ∧ WTs ts r := by
  obtain ⟨a, b, rfl, ⟨n, rfl, hn⟩, h2⟩ := h
  exact ⟨n, b, rfl, hn, h2⟩
theorem WTs.bool {ts : List Ty} {gs : List GV} (h : WTs (.bool :: ts) gs) : ∃ (n : Bool) (r : List GV), gs = gb n :: r ∧ WTs ts r := by
  obtain ⟨a, b, rfl, ⟨n, rfl⟩, h2⟩ := h
  exact ⟨n, b, rfl, h2⟩
theorem WTs.nil {gs : List GV} (h : WTs [] gs) : gs = [] := h

theorem book_wt {cs : List GV} (h : WT bookTy cs) : ∃ b : Book, cs = b.c ∧ b.Fits := by
  have k0 : WTs _ cs := h
  obtain ⟨x1, r1, e1, h1, k1⟩ := WTs.int k0
  obtain ⟨x2, r2, e2, h2, k2⟩ := WTs.int k1
  obtain ⟨x3, r3, e3, h3, k3⟩ := WTs.int k2
  obtain ⟨x4, r4, e4, h4, k4⟩ := WTs.int k3
  obtain ⟨x5, r5, e5, h5, k5⟩ := WTs.int k4
  obtain ⟨x6, r6, e6, h6, k6⟩ := WTs.int k5
  obtain ⟨x7, r7, e7, h7, k7⟩ := WTs.int k6
  obtain ⟨x8, r8, e8, h8, k8⟩ := WTs.int k7
  obtain ⟨x9, r9, e9, h9, k9⟩ := WTs.int k8
  obtain ⟨x10, r10, e10, h10, k10⟩ := WTs.int k9
  obtain ⟨x11, r11, e11, h11, k11⟩ := WTs.int k10
  obtain ⟨x12, r12, e12, h12, k12⟩ := WTs.int k11
  obtain ⟨x13, r13, e13, h13, k13⟩ := WTs.int k12
  obtain ⟨x14, r14, e14, h14, k14⟩ := WTs.int k13
  obtain ⟨x15, r15, e15, h15, k15⟩ := WTs.int k14
  obtain ⟨x16, r16, e16, h16, k16⟩ := WTs.int k15
  obtain ⟨x17, r17, e17, h17, k17⟩ := WTs.int k16
  obtain ⟨x18, r18, e18, h18, k18⟩ := WTs.int k17
  obtain ⟨x19, r19, e19, h19, k19⟩ := WTs.int k18
  have e20 := WTs.nil k19
  subst e20 e19 e18 e17 e16 e15 e14 e13 e12 e11 e10 e9 e8 e7 e6 e5 e4 e3 e2 e1
  exact ⟨⟨x1, x2, x3, x4, x5, x6, x7, x8, x9, x10, x11, x12, x13, x14, x15, x16, x17, x18, x19⟩, rfl, ⟨h1, h2, h3, h4, h5, h6, h7, h8, h9, h10, h11, h12, h13, h14, h15, h16, h17, h18, h19⟩⟩
end Go.Hl

/- What a spell of rest is worth; a meter's minute: plain Lean. -/
set_option linter.unusedVariables false
namespace Go.Hl
open Go.Gh

structure Worth where
  Break : Bool
  Half : Bool
  Part : Bool
  Daily : Bool
  Reduced : Bool
  Weekly : Bool
  Brief : Bool
  deriving DecidableEq
def Worth.c (w : Worth) : List GV := [gb w.Break, gb w.Half, gb w.Part, gb w.Daily, gb w.Reduced, gb w.Weekly, gb w.Brief]
def Worth.g (w : Worth) : GV := .agg w.c

/-- How much of the spell counts for the day. -/
def inDay (b : Book) (f t dawn : Int) : Int := if dawn + b.Round < t then dawn + b.Round - f else t - f

def worth (b : Book) (f t dawn : Int) (half split : Bool) : Worth where
  Break := decide (b.Break ≤ t - f) || (half && decide (b.Second ≤ t - f))
  Half := !(decide (b.Break ≤ t - f) || (half && decide (b.Second ≤ t - f))) && (half || decide (b.First ≤ t - f))
  Part := !decide (b.Reduced ≤ t - f) && decide (b.Part ≤ t - f)
  Daily := decide (b.Reduced ≤ t - f)
  Reduced := decide (b.Reduced ≤ t - f) && (!decide (b.Short ≤ t - f) && (!split && decide (inDay b f t dawn < b.Regular)))
  Weekly := decide (b.Short ≤ t - f)
  Brief := decide (b.Short ≤ t - f) && decide (t - f < b.Weekly)

/-- A spell that may be looked at. -/
structure Spell (f t dawn : Int) : Prop where
  hf : 0 ≤ f
  hft : f ≤ t
  ht : t ≤ 100000
  hdawn : 0 ≤ dawn ∧ dawn ≤ 100000

/-- All numbers of a meter are small. -/
structure Meter.Small (m : Meter) : Prop where
  now : 0 ≤ m.Now ∧ m.Now ≤ 100000
  acc : 0 ≤ m.Acc ∧ m.Acc ≤ 100000
  lie : 0 ≤ m.Lie ∧ m.Lie ≤ 100000
  dawn : 0 ≤ m.Dawn ∧ m.Dawn ≤ 100000
  day : 0 ≤ m.Day ∧ m.Day ≤ 100000
  longers : 0 ≤ m.Longers ∧ m.Longers ≤ 100000
  reduces : 0 ≤ m.Reduces ∧ m.Reduces ≤ 100000
  sabbath : 0 ≤ m.Sabbath ∧ m.Sabbath ≤ 100000
  week : 0 ≤ m.Week ∧ m.Week ≤ 100000
  last : 0 ≤ m.Last ∧ m.Last ≤ 100000
  labour : 0 ≤ m.Labour ∧ m.Labour ≤ 100000

end Go.Hl

/- Arguments of laws, read: numbers, lists, records, spans, tasks, spots. -/
set_option linter.unusedVariables false
set_option linter.unusedSimpArgs false
namespace Go.Hl
open Go.Gh

/-- One element: its cells. -/
def ElOk (e : Ty) (x : GV) : Prop := (x.cells = [x] ∨ x = .agg x.cells) ∧ (Ty.isAgg e = true → x = .agg x.cells) ∧ (Ty.isAgg e = false → x.cells = [x]) ∧ WT e x.cells
theorem list_all {α : Type} {enc : α → GV} {Good : α → Prop} : ∀ (xs : List GV), (∀ x, x ∈ xs → ∃ a, x = enc a ∧ Good a) → ∃ l : List α, xs = l.map enc ∧ ∀ a, a ∈ l → Good a
  | [], _ => ⟨[], rfl, fun a h => by cases h⟩
  | x :: xs, h => by
    obtain ⟨a, h1, h2⟩ := h x (List.mem_cons_self ..)
    obtain ⟨l, h3, h4⟩ := list_all xs fun y hy => h y (List.mem_cons_of_mem _ hy)
    exact ⟨a :: l, by rw [h1, h3]; rfl, fun b hb => by
      rcases List.mem_cons.1 hb with rfl | hb
      · exact h2
      · exact h4 b hb⟩
theorem listWT_of {α : Type} {e : Ty} {enc : α → GV} {Good : α → Prop} (he : ∀ x, ElOk e x → ∃ a, x = enc a ∧ Good a) {gs : List GV} (h : WT (.list e) gs) : ∃ l : List α, gs = [.list (tyCells e) (l.map enc) none] ∧ ∀ a, a ∈ l → Good a := by
  obtain ⟨xs, rfl, h2⟩ := h
  obtain ⟨l, rfl, h3⟩ := list_all xs fun x hx => he x (h2 x hx)
  exact ⟨l, rfl, h3⟩
theorem el_int (x : GV) (h : ElOk .int x) : ∃ n : Int, x = gi n ∧ I64 n := by
  obtain ⟨_, _, h1, h2⟩ := h
  obtain ⟨n, h3, h4⟩ := h2
  rw [h1 rfl] at h3
  simp at h3
  exact ⟨n, h3, h4⟩
theorem WTs.list {α : Type} {e : Ty} {enc : α → GV} {Good : α → Prop} (he : ∀ x, ElOk e x → ∃ a, x = enc a ∧ Good a) {ts : List Ty} {gs : List GV} (h : WTs (.list e :: ts) gs) : ∃ (l : List α) (r : List GV), gs = .list (tyCells e) (l.map enc) none :: r ∧ (∀ a, a ∈ l → Good a) ∧ WTs ts r := by
  obtain ⟨a, b, rfl, h1, h2⟩ := h
  obtain ⟨l, rfl, h3⟩ := listWT_of he h1
  exact ⟨l, b, rfl, h3, h2⟩
theorem WTs.agg {fs ts : List Ty} {gs : List GV} (h : WTs (.agg fs :: ts) gs) : ∃ a b, gs = a ++ b ∧ WTs fs a ∧ WTs ts b := h
theorem el_agg {α : Type} {fs : List Ty} {c : α → List GV} {Good : α → Prop} (hc : ∀ gs, WTs fs gs → ∃ a, gs = c a ∧ Good a) (x : GV) (h : ElOk (.agg fs) x) : ∃ a, x = .agg (c a) ∧ Good a := by
  obtain ⟨_, h1, _, h2⟩ := h
  obtain ⟨a, h3, h4⟩ := hc x.cells h2
  exact ⟨a, by rw [h1 rfl, h3], h4⟩
theorem agg_of {α : Type} {fs : List Ty} {c : α → List GV} {Good : α → Prop} (hc : ∀ gs, WTs fs gs → ∃ a, gs = c a ∧ Good a) {g : GV} (h : ArgOk (.agg fs) g) : ∃ a, g = .agg (c a) ∧ Good a := by
  obtain ⟨cs, rfl, hw⟩ := h.1 rfl
  obtain ⟨a, rfl, h4⟩ := hc cs hw
  exact ⟨a, rfl, h4⟩

end Go.Hl

/- Spans, tasks, spots, records: plain Lean. -/
set_option linter.unusedVariables false
set_option linter.unusedSimpArgs false
namespace Go.Hl
open Go.Gh

structure Span where
  From : Int
  To : Int
  deriving DecidableEq
def Span.c (s : Span) : List GV := [gi s.From, gi s.To]
def Span.g (s : Span) : GV := .agg s.c
abbrev spans (l : List Span) : List GV := l.map Span.g
def Span.right (s : Span) : Bool := decide (s.From < s.To)
def Span.has (s : Span) (m : Int) : Bool := decide (s.From ≤ m) && decide (m < s.To)
def spanTy : Ty := .agg [.int, .int]
def Span.Fits (s : Span) : Prop := I64 s.From ∧ I64 s.To
theorem span_wt (gs : List GV) (h : WTs [.int, .int] gs) : ∃ s : Span, gs = s.c ∧ s.Fits := by
  obtain ⟨a, r, rfl, ha, h⟩ := WTs.int h
  obtain ⟨b, r, rfl, hb, h⟩ := WTs.int h
  cases WTs.nil h
  exact ⟨⟨a, b⟩, rfl, ha, hb⟩
theorem el_span (x : GV) (h : ElOk spanTy x) : ∃ s : Span, x = s.g ∧ s.Fits := el_agg span_wt x h

/-- Is the span behind that minute? -/
def okAfter : Option Int → Span → Bool
  | none, _ => true
  | some t, s => decide (t < s.From)
/-- The spans are a set: each has a minute, and lies behind the one ahead of it. -/
def rightFrom : List Span → Option Int → Bool
  | [], _ => true
  | s :: r, e => if s.right && okAfter e s then rightFrom r (some s.To) else false
def hasL (l : List Span) (m : Int) : Bool := l.any (·.has m)
def beyond (s : Span) : Bool := decide (s.From < 0) || decide (40320 < s.To)
def winCheck (l : List Span) : Int :=
  if l.length = 0 then 13 else if 8 < l.length then 12 else if l.any (fun s => !s.right) then 3 else if l.any beyond then 4 else if !rightFrom l none then 6 else 0

/-- Where the first one stands of which p holds. -/
def idxFrom {α : Type} (p : α → Bool) : Int → List α → Int
  | _, [] => -1
  | i, x :: r => if p x then i else idxFrom p (i + 1) r
theorem idxFrom_any {α : Type} (p : α → Bool) : ∀ (l : List α) (i : Int), 0 ≤ i → (decide (0 ≤ idxFrom p i l) = l.any p)
  | [], i, h => by simp [idxFrom]
  | x :: r, i, h => by
    unfold idxFrom
    by_cases hx : p x = true
    · simp [hx, h]
    · rw [if_neg hx, idxFrom_any p r (i + 1) (by omega)]
      simp [hx]
theorem drop_of_get {α : Type} {l : List α} {i : Nat} {x : α} (h : l[i]? = some x) : l.drop i = x :: l.drop (i + 1) := by
  obtain ⟨h1, h2⟩ := List.getElem?_eq_some_iff.1 h
  rw [List.drop_eq_getElem_cons h1, h2]

structure Task where
  Drive : Int
  Serve : Int
  Open : List Span
  deriving DecidableEq
def Task.c (t : Task) : List GV := [gi t.Drive, gi t.Serve, .list 2 (spans t.Open) none]
def Task.g (t : Task) : GV := .agg t.c
abbrev tasks (l : List Task) : List GV := l.map Task.g
def taskTy : Ty := .agg [.int, .int, .list spanTy]
def Task.Fits (t : Task) : Prop := I64 t.Drive ∧ I64 t.Serve ∧ ∀ s, s ∈ t.Open → s.Fits
structure Spot where
  Task : Int
  Driven : Int
  Served : Int
  deriving DecidableEq
def Spot.c (t : Spot) : List GV := [gi t.Task, gi t.Driven, gi t.Served]
def Spot.g (t : Spot) : GV := .agg t.c
def spotTy : Ty := .agg [.int, .int, .int]
def Spot.Fits (t : Spot) : Prop := I64 t.Task ∧ I64 t.Driven ∧ I64 t.Served
structure Rec where
  Kind : Int
  From : Int
  To : Int
  deriving DecidableEq
def Rec.c (t : Rec) : List GV := [gi t.Kind, gi t.From, gi t.To]
def Rec.g (t : Rec) : GV := .agg t.c
abbrev recs (l : List Rec) : List GV := l.map Rec.g
def recTy : Ty := .agg [.int, .int, .int]
def Rec.Fits (t : Rec) : Prop := I64 t.Kind ∧ I64 t.From ∧ I64 t.To
theorem rec_wt (gs : List GV) (h : WTs [.int, .int, .int] gs) : ∃ s : Rec, gs = s.c ∧ s.Fits := by
  obtain ⟨a, r, rfl, ha, h⟩ := WTs.int h
  obtain ⟨b, r, rfl, hb, h⟩ := WTs.int h
  obtain ⟨c, r, rfl, hc, h⟩ := WTs.int h
  cases WTs.nil h
  exact ⟨⟨a, b, c⟩, rfl, ha, hb, hc⟩
theorem el_rec (x : GV) (h : ElOk recTy x) : ∃ s : Rec, x = s.g ∧ s.Fits := el_agg rec_wt x h

end Go.Hl

/- Contracts: books and meters, and what may be. -/
set_option linter.unusedVariables false
set_option linter.unusedSimpArgs false
namespace Go.Hl
open Go.Gh Go.Proofs

theorem leaf {p : Prop} [Decidable p] {x : Bool} (h : x = true ↔ p) : x = decide p := by
  by_cases hp : p
  · simp [hp, h.2 hp]
  · have : x ≠ true := fun e => hp (h.1 e)
    simp [hp, this]

set_option maxRecDepth 100000 in
theorem all_ok (b : Book) : ICalls Try.prog 101 [b.g] [] (Done b.g []) := by
  refine ICalls.of_body Try.func101 rfl Try.call101 rfl (Nat.le_of_ble_eq_true rfl) (fun _ => none) rfl ?_
  repeat' ((conv => whnf); first
    | refine Br.yes rfl ?_
    | refine Br.no rfl ?_
    | refine Br.mk (fun h => ?_) (fun h => ?_)
    | refine Need.mk (by first | kernel_rfl | exact ⟨of_decide_eq_true rfl, of_decide_eq_true rfl⟩ | omega) ?_
    | refine Len.mk ⟨_, by simp only [List.length_cons, List.length_nil, Nat.reduceAdd, Int.cast_ofNat_Int]; rfl, ?_⟩
    | refine Wr.lit _ (by simp only [Int.reduceAdd, Int.reduceSub, Int.reduceMul]; rfl) (by decide) ?_
    | refine Wr.fit (by omega) ?_
    | refine Elem.mk ⟨_, ⟨of_decide_eq_true rfl, rfl⟩, ?_⟩
    | refine Done.mk ⟨congrArg gb ?_, rfl⟩
    | refine Done.mk ⟨rfl, rfl⟩)

def pl_C1_1 : Nat → Option (List Nat × List Nat) := (fun k => bif Nat.beq k 2 then some ([1000002, 8, 9], []) else none)
set_option maxRecDepth 100000 in
theorem within_ok (b : Book) : ICalls Try.prog 69 [b.g] [] (Done (gb (decide b.within)) []) := by
  refine ICalls.of_body Try.func69 rfl Try.call69 rfl (Nat.le_of_ble_eq_true rfl) pl_C1_1 rfl ?_
  repeat' ((conv => whnf); first
    | refine Br.yes rfl ?_
    | refine Br.no rfl ?_
    | refine Br.mk (fun h => ?_) (fun h => ?_)
    | refine Need.mk (by first | kernel_rfl | exact ⟨of_decide_eq_true rfl, of_decide_eq_true rfl⟩ | omega) ?_
    | refine Len.mk ⟨_, by simp only [List.length_cons, List.length_nil, Nat.reduceAdd, Int.cast_ofNat_Int]; rfl, ?_⟩
    | refine Wr.lit _ (by simp only [Int.reduceAdd, Int.reduceSub, Int.reduceMul]; rfl) (by decide) ?_
    | refine Wr.fit (by omega) ?_
    | refine Elem.mk ⟨_, ⟨of_decide_eq_true rfl, rfl⟩, ?_⟩
    | refine (all_ok b).use ⟨rfl, ?_⟩
    | refine CallX.mk ⟨_, _, (all_ok b).x, rfl, ?_⟩
    | refine ILoop.unroll 20 ?_
    | refine Done.mk ⟨congrArg gb ?_, rfl⟩
    | refine Done.mk ⟨rfl, rfl⟩)
  all_goals (refine leaf ?_; simp only [cond_true, cond_false, decide_eq_true_eq, decide_eq_false_iff_not, Bool.false_eq_true, false_iff, true_iff, Book.within] at *; omega)

set_option maxRecDepth 100000 in
theorem nan_ok (n : Int) : ICalls Try.prog 73 [gi n] [] (Done (gb false) []) := by
  refine ICalls.of_body Try.func73 rfl Try.call73 rfl (Nat.le_of_ble_eq_true rfl) (fun _ => none) rfl ?_
  repeat' ((conv => whnf); first
    | refine Br.yes rfl ?_
    | refine Br.no rfl ?_
    | refine Br.mk (fun h => ?_) (fun h => ?_)
    | refine Need.mk (by first | kernel_rfl | exact ⟨of_decide_eq_true rfl, of_decide_eq_true rfl⟩ | omega) ?_
    | refine Len.mk ⟨_, by simp only [List.length_cons, List.length_nil, Nat.reduceAdd, Int.cast_ofNat_Int]; rfl, ?_⟩
    | refine Wr.lit _ (by simp only [Int.reduceAdd, Int.reduceSub, Int.reduceMul]; rfl) (by decide) ?_
    | refine Wr.fit (by omega) ?_
    | refine Elem.mk ⟨_, ⟨of_decide_eq_true rfl, rfl⟩, ?_⟩
    | refine Done.mk ⟨congrArg gb ?_, rfl⟩
    | refine Done.mk ⟨rfl, rfl⟩)
  simp

set_option maxRecDepth 100000 in
theorem less_ok (n m : Int) : ICalls Try.prog 102 [gi n, gi m] [] (Done (gb (decide (n < m))) []) := by
  refine ICalls.of_body Try.func102 rfl Try.call102 rfl (Nat.le_of_ble_eq_true rfl) (fun _ => none) rfl ?_
  repeat' ((conv => whnf); first
    | refine Br.yes rfl ?_
    | refine Br.no rfl ?_
    | refine Br.mk (fun h => ?_) (fun h => ?_)
    | refine Need.mk (by first | kernel_rfl | exact ⟨of_decide_eq_true rfl, of_decide_eq_true rfl⟩ | omega) ?_
    | refine Len.mk ⟨_, by simp only [List.length_cons, List.length_nil, Nat.reduceAdd, Int.cast_ofNat_Int]; rfl, ?_⟩
    | refine Wr.lit _ (by simp only [Int.reduceAdd, Int.reduceSub, Int.reduceMul]; rfl) (by decide) ?_
    | refine Wr.fit (by omega) ?_
    | refine Elem.mk ⟨_, ⟨of_decide_eq_true rfl, rfl⟩, ?_⟩
    | refine (nan_ok _).use ⟨rfl, ?_⟩
    | refine CallX.mk ⟨_, _, (nan_ok _).x, rfl, ?_⟩
    | refine Done.mk ⟨congrArg gb ?_, rfl⟩
    | refine Done.mk ⟨rfl, rfl⟩)
  simp

def sorted7 (a b c d e f g : Int) : Prop := a ≤ b ∧ b ≤ c ∧ c ≤ d ∧ d ≤ e ∧ e ≤ f ∧ f ≤ g
instance (a b c d e f g : Int) : Decidable (sorted7 a b c d e f g) := by unfold sorted7; infer_instance

def pl_C1_2 : Nat → Option (List Nat × List Nat) := (fun k => bif Nat.beq k 2 then some ([1000002, 0, 3], []) else none)
set_option maxRecDepth 100000 in
theorem sorted_ok (a b c d e f g : Int) : ICalls Try.prog 70 [.list 1 [gi a, gi b, gi c, gi d, gi e, gi f, gi g] none] [] (Done (gb (decide (sorted7 a b c d e f g))) []) := by
  refine ICalls.of_body Try.func70 rfl Try.call70 rfl (Nat.le_of_ble_eq_true rfl) pl_C1_2 rfl ?_
  repeat' ((conv => whnf); first
    | refine Br.yes rfl ?_
    | refine Br.no rfl ?_
    | refine Br.mk (fun h => ?_) (fun h => ?_)
    | refine Need.mk (by first | kernel_rfl | exact ⟨of_decide_eq_true rfl, of_decide_eq_true rfl⟩ | omega) ?_
    | refine Len.mk ⟨_, by simp only [List.length_cons, List.length_nil, Nat.reduceAdd, Int.cast_ofNat_Int]; rfl, ?_⟩
    | refine Wr.lit _ (by simp only [Int.reduceAdd, Int.reduceSub, Int.reduceMul]; rfl) (by decide) ?_
    | refine Wr.fit (by omega) ?_
    | refine Elem.mk ⟨_, ⟨of_decide_eq_true rfl, rfl⟩, ?_⟩
    | refine (less_ok _ _).use ⟨rfl, ?_⟩
    | refine CallX.mk ⟨_, _, (less_ok _ _).x, rfl, ?_⟩
    | refine ILoop.unroll 8 ?_
    | refine Done.mk ⟨congrArg gb ?_, rfl⟩
    | refine Done.mk ⟨rfl, rfl⟩)
  all_goals (refine leaf ?_; simp only [cond_true, cond_false, decide_eq_true_eq, decide_eq_false_iff_not, Bool.false_eq_true, false_iff, true_iff, sorted7] at *; omega)

end Go.Hl

/- Contracts: the checks of book and meter, twice over. -/
set_option linter.unusedVariables false
set_option linter.unusedSimpArgs false
namespace Go.Hl
open Go.Gh Go.Proofs

theorem leafI {p : Prop} [Decidable p] {x y z : Int} (h1 : p → x = y) (h2 : ¬ p → x = z) : x = if p then y else z := by
  by_cases hp : p
  · rw [if_pos hp, h1 hp]
  · rw [if_neg hp, h2 hp]

def Book.code (b : Book) : Int := if b.May then 0 else 14
def Meter.code (m : Meter) : Int := if m.May then 0 else 1
set_option maxRecDepth 100000 in
theorem bookCheck_ok (b : Book) : ICalls Try.prog 31 [b.g] [] (Done (gi b.code) []) := by
  refine ICalls.of_body Try.func31 rfl Try.call31 rfl (Nat.le_of_ble_eq_true rfl) (fun _ => none) rfl ?_
  repeat' ((conv => whnf); first
    | refine Br.yes rfl ?_
    | refine Br.no rfl ?_
    | refine Done.mk ⟨congrArg gi ?_, rfl⟩
    | refine Br.mk (fun h => ?_) (fun h => ?_)
    | refine Need.mk (by first | kernel_rfl | exact ⟨of_decide_eq_true rfl, of_decide_eq_true rfl⟩ | omega) ?_
    | refine Len.mk ⟨_, by simp only [List.length_cons, List.length_nil, Nat.reduceAdd, Int.cast_ofNat_Int]; rfl, ?_⟩
    | refine Wr.lit _ (by simp only [Int.reduceAdd, Int.reduceSub, Int.reduceMul]; rfl) (by decide) ?_
    | refine Wr.fit (by omega) ?_
    | refine Elem.mk ⟨_, ⟨of_decide_eq_true rfl, rfl⟩, ?_⟩
    | refine (within_ok b).use ⟨rfl, ?_⟩
    | refine (sorted_ok _ _ _ _ _ _ _).use ⟨rfl, ?_⟩
    | refine CallX.mk ⟨_, _, (within_ok b).x, rfl, ?_⟩
    | refine CallX.mk ⟨_, _, (sorted_ok _ _ _ _ _ _ _).x, rfl, ?_⟩
    | refine Done.mk ⟨congrArg gb ?_, rfl⟩
    | refine Done.mk ⟨rfl, rfl⟩)
  all_goals (refine leafI (fun hp => ?_) (fun hp => ?_) <;> simp only [Book.May_iff] at hp <;> simp only [cond_true, cond_false, Bool.not_eq_true', Bool.not_eq_false', decide_eq_true_eq, decide_eq_false_iff_not, sorted7] at * <;> first | rfl | (exfalso; omega) | (exfalso; grind))

def pl_C2_1 : Nat → Option (List Nat × List Nat) := (fun k => bif Nat.beq k 4 then some ([1000004, 1, 33, 34], [101]) else none)
end Go.Hl

/- Contracts: what may be, told the long way; which meter is nowhere worse. -/
set_option linter.unusedVariables false
set_option linter.unusedSimpArgs false
namespace Go.Hl
open Go.Gh Go.Proofs

def Book.row (b : Book) : GV := .list 1 b.c none

def pl_C3_1 : Nat → Option (List Nat × List Nat) := (fun k => bif Nat.beq k 3 then some ([1000003, 1, 3, 4], [101]) else none)
def pl_C3_2 : Nat → Option (List Nat × List Nat) := (fun k => bif Nat.beq k 5 then some ([1000005, 1, 3, 4], [101]) else none)
def Kept (x y : Meter) : Prop := x.Now = y.Now ∧ x.Lie = y.Lie ∧ x.Half = y.Half
instance (x y : Meter) : Decidable (Kept x y) := by unfold Kept; infer_instance
def Counted (x y : Meter) : Prop := x.Acc ≤ y.Acc ∧ x.Day ≤ y.Day ∧ x.Reduces ≤ y.Reduces ∧ x.Week ≤ y.Week ∧ x.Last ≤ y.Last ∧ x.Labour ≤ y.Labour
instance (x y : Meter) : Decidable (Counted x y) := by unfold Counted; infer_instance
def Rested (x y : Meter) : Prop := y.Dawn ≤ x.Dawn ∧ y.Sabbath ≤ x.Sabbath ∧ (y.Split = true → x.Split = true) ∧ (x.Brief = true → y.Brief = true)
instance (x y : Meter) : Decidable (Rested x y) := by unfold Rested; infer_instance
def Spent (b : Book) (x y : Meter) : Prop := if x.Day ≤ b.Day ∧ b.Day < y.Day then x.Longers < y.Longers ∧ x.Longers < b.Longers else x.Longers ≤ y.Longers
instance (b : Book) (x y : Meter) : Decidable (Spent b x y) := by unfold Spent; infer_instance
theorem Under_iff (b : Book) (x y : Meter) : Under b x y ↔ b.May ∧ x.May ∧ y.May ∧ Kept x y ∧ Counted x y ∧ Rested x y ∧ Spent b x y := by
  constructor
  · intro h; exact ⟨h.book, h.mx, h.my, ⟨h.now, h.lie, h.half⟩, ⟨h.acc, h.day, h.reduces, h.week, h.last, h.labour⟩, ⟨h.dawn, h.sabbath, h.split, h.brief⟩, h.spent⟩
  · rintro ⟨h1, h2, h3, ⟨h4, h5, h6⟩, ⟨g1, g2, g3, g4, g5, g6⟩, ⟨f1, f2, f3, f4⟩, h7⟩
    exact ⟨h1, h2, h3, h4, h5, h6, g1, g2, g3, g4, g5, g6, f1, f2, f3, f4, h7⟩

instance (b : Book) (x y : Meter) : Decidable (Under b x y) := decidable_of_iff _ (Under_iff b x y).symm

set_option maxRecDepth 100000 in
theorem europe_ok : ICalls Try.prog 30 [] [] (Done Book.europe.g []) := by
  refine ICalls.of_body Try.func30 rfl Try.call30 rfl (Nat.le_of_ble_eq_true rfl) (fun _ => none) rfl ?_
  repeat' ((conv => whnf); first
    | refine Br.yes rfl ?_
    | refine Br.no rfl ?_
    | refine Br.mk (fun h => ?_) (fun h => ?_)
    | refine Need.mk (by first | kernel_rfl | exact ⟨of_decide_eq_true rfl, of_decide_eq_true rfl⟩ | omega) ?_
    | refine Len.mk ⟨_, by simp only [List.length_cons, List.length_nil, Nat.reduceAdd, Int.cast_ofNat_Int]; rfl, ?_⟩
    | refine Wr.lit _ (by simp only [Int.reduceAdd, Int.reduceSub, Int.reduceMul]; rfl) (by decide) ?_
    | refine Wr.fit (by omega) ?_
    | refine Elem.mk ⟨_, ⟨of_decide_eq_true rfl, rfl⟩, ?_⟩
    | refine Done.mk ⟨congrArg gb ?_, rfl⟩
    | refine Done.mk ⟨rfl, rfl⟩)

end Go.Hl
