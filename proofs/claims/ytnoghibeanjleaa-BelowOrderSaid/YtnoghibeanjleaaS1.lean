/- Books, meters, what may be: plain Lean, no program in sight. -/
import Derived.Test.YtnoghibeanjleaaGh15
set_option linter.unusedVariables false
namespace Go.Hl
open Go.Gh

structure Book where
  Drive : Int
  Break : Int
  First : Int
  Second : Int
  Day : Int
  Longer : Int
  Longers : Int
  Regular : Int
  Reduced : Int
  Reduces : Int
  Part : Int
  Round : Int
  Weekly : Int
  Short : Int
  Rounds : Int
  Week : Int
  Fortnight : Int
  Labour : Int
  Length : Int
  deriving DecidableEq

def Book.c (b : Book) : List GV := [gi b.Drive, gi b.Break, gi b.First, gi b.Second, gi b.Day, gi b.Longer, gi b.Longers, gi b.Regular, gi b.Reduced, gi b.Reduces, gi b.Part, gi b.Round, gi b.Weekly, gi b.Short, gi b.Rounds, gi b.Week, gi b.Fortnight, gi b.Labour, gi b.Length]
def Book.g (b : Book) : GV := .agg b.c

structure Meter where
  Now : Int
  Acc : Int
  Half : Bool
  Lie : Int
  Dawn : Int
  Day : Int
  Longers : Int
  Split : Bool
  Reduces : Int
  Sabbath : Int
  Brief : Bool
  Week : Int
  Last : Int
  Labour : Int
  deriving DecidableEq

def Meter.c (m : Meter) : List GV := [gi m.Now, gi m.Acc, gb m.Half, gi m.Lie, gi m.Dawn, gi m.Day, gi m.Longers, gb m.Split, gi m.Reduces, gi m.Sabbath, gb m.Brief, gi m.Week, gi m.Last, gi m.Labour]
def Meter.g (m : Meter) : GV := .agg m.c

def I64 (n : Int) : Prop := -9223372036854775808 ≤ n ∧ n ≤ 9223372036854775807

/-- Whether all numbers are within their limits. -/
def Book.within (b : Book) : Prop :=
  (1 ≤ b.Drive ∧ b.Drive ≤ 40320) ∧ (1 ≤ b.Break ∧ b.Break ≤ 40320) ∧ (1 ≤ b.First ∧ b.First ≤ 40320) ∧ (1 ≤ b.Second ∧ b.Second ≤ 40320) ∧ (1 ≤ b.Day ∧ b.Day ≤ 40320) ∧
  (1 ≤ b.Longer ∧ b.Longer ≤ 40320) ∧ (0 ≤ b.Longers ∧ b.Longers ≤ 1000) ∧ (1 ≤ b.Regular ∧ b.Regular ≤ 40320) ∧ (1 ≤ b.Reduced ∧ b.Reduced ≤ 40320) ∧ (0 ≤ b.Reduces ∧ b.Reduces ≤ 1000) ∧
  (1 ≤ b.Part ∧ b.Part ≤ 40320) ∧ (1 ≤ b.Round ∧ b.Round ≤ 40320) ∧ (1 ≤ b.Weekly ∧ b.Weekly ≤ 40320) ∧ (1 ≤ b.Short ∧ b.Short ≤ 40320) ∧ (1 ≤ b.Rounds ∧ b.Rounds ≤ 40320) ∧
  (1 ≤ b.Week ∧ b.Week ≤ 40320) ∧ (1 ≤ b.Fortnight ∧ b.Fortnight ≤ 40320) ∧ (1 ≤ b.Labour ∧ b.Labour ≤ 40320) ∧ (1 ≤ b.Length ∧ b.Length ≤ 40320)
instance (b : Book) : Decidable b.within := by unfold Book.within; infer_instance

structure Book.May (b : Book) : Prop where
  within : b.within
  first : b.First ≤ b.Break
  second : b.Second ≤ b.Break
  brk : b.Break ≤ b.Part
  part : b.Part ≤ b.Reduced
  reduced : b.Reduced ≤ b.Regular
  regular : b.Regular ≤ b.Short
  short : b.Short ≤ b.Weekly
  day : b.Day ≤ b.Longer
  round : b.Reduced < b.Round

theorem Book.May_iff (b : Book) : b.May ↔ (b.within ∧ b.First ≤ b.Break ∧ b.Second ≤ b.Break ∧ b.Break ≤ b.Part ∧ b.Part ≤ b.Reduced ∧ b.Reduced ≤ b.Regular ∧ b.Regular ≤ b.Short ∧ b.Short ≤ b.Weekly ∧ b.Day ≤ b.Longer ∧ b.Reduced < b.Round) :=
  ⟨fun h => ⟨h.1, h.2, h.3, h.4, h.5, h.6, h.7, h.8, h.9, h.10⟩, fun ⟨h1, h2, h3, h4, h5, h6, h7, h8, h9, h10⟩ => ⟨h1, h2, h3, h4, h5, h6, h7, h8, h9, h10⟩⟩
instance (b : Book) : Decidable b.May := decidable_of_iff _ b.May_iff.symm

structure Meter.May (m : Meter) : Prop where
  now : 0 ≤ m.Now ∧ m.Now ≤ 40320
  acc : 0 ≤ m.Acc ∧ m.Acc ≤ m.Now
  lie : 0 ≤ m.Lie ∧ m.Lie ≤ m.Now
  dawn : 0 ≤ m.Dawn ∧ m.Dawn ≤ m.Now
  day : 0 ≤ m.Day ∧ m.Day ≤ m.Now
  longers : 0 ≤ m.Longers ∧ m.Longers ≤ m.Now
  reduces : 0 ≤ m.Reduces ∧ m.Reduces ≤ m.Now
  sabbath : 0 ≤ m.Sabbath ∧ m.Sabbath ≤ m.Now
  week : 0 ≤ m.Week ∧ m.Week ≤ m.Now
  last : 0 ≤ m.Last ∧ m.Last ≤ m.Now
  labour : 0 ≤ m.Labour ∧ m.Labour ≤ m.Now

theorem Meter.May_iff (m : Meter) : m.May ↔ ((0 ≤ m.Now ∧ m.Now ≤ 40320) ∧ (0 ≤ m.Acc ∧ m.Acc ≤ m.Now) ∧ (0 ≤ m.Lie ∧ m.Lie ≤ m.Now) ∧ (0 ≤ m.Dawn ∧ m.Dawn ≤ m.Now) ∧ (0 ≤ m.Day ∧ m.Day ≤ m.Now) ∧ (0 ≤ m.Longers ∧ m.Longers ≤ m.Now) ∧
    (0 ≤ m.Reduces ∧ m.Reduces ≤ m.Now) ∧ (0 ≤ m.Sabbath ∧ m.Sabbath ≤ m.Now) ∧ (0 ≤ m.Week ∧ m.Week ≤ m.Now) ∧ (0 ≤ m.Last ∧ m.Last ≤ m.Now) ∧ (0 ≤ m.Labour ∧ m.Labour ≤ m.Now)) :=
  ⟨fun h => ⟨h.1, h.2, h.3, h.4, h.5, h.6, h.7, h.8, h.9, h.10, h.11⟩, fun ⟨h1, h2, h3, h4, h5, h6, h7, h8, h9, h10, h11⟩ => ⟨h1, h2, h3, h4, h5, h6, h7, h8, h9, h10, h11⟩⟩
instance (m : Meter) : Decidable m.May := decidable_of_iff _ m.May_iff.symm

/-- x is nowhere worse than y. -/
structure Under (b : Book) (x y : Meter) : Prop where
  book : b.May
  mx : x.May
  my : y.May
  now : x.Now = y.Now
  lie : x.Lie = y.Lie
  half : x.Half = y.Half
  acc : x.Acc ≤ y.Acc
  day : x.Day ≤ y.Day
  reduces : x.Reduces ≤ y.Reduces
  week : x.Week ≤ y.Week
  last : x.Last ≤ y.Last
  labour : x.Labour ≤ y.Labour
  dawn : y.Dawn ≤ x.Dawn
  sabbath : y.Sabbath ≤ x.Sabbath
  split : y.Split = true → x.Split = true
  brief : x.Brief = true → y.Brief = true
  spent : if x.Day ≤ b.Day ∧ b.Day < y.Day then x.Longers < y.Longers ∧ x.Longers < b.Longers else x.Longers ≤ y.Longers


def Book.europe : Book := ⟨270, 45, 15, 30, 540, 600, 2, 660, 540, 3, 180, 1440, 2700, 1440, 8640, 3360, 5400, 3600, 10080⟩

end Go.Hl
