/- The disk in plain Lean: files with bytes, how many of them are safe, a plan of faults. -/
import Derived.Test.YtbmejbmkaoekgaaGreatDoorCrc
namespace Go.Proofs.YtbmejbmkaoekgaaGreatDoor
open Go
set_option linter.unusedVariables false

structure FileS where
  name : List UInt8
  bytes : List UInt8
  safe : Nat

structure DiskS where
  room : Nat
  files : List FileS
  plan : List (Int × Int)
  steps : Nat
  down : Bool

def usedBy (l : List FileS) : Nat := (l.map (·.bytes.length)).sum
def DiskS.used (d : DiskS) : Nat := usedBy d.files
def DiskS.find (d : DiskS) (n : List UInt8) : Option FileS := d.files.find? (fun f => f.name = n)
def DiskS.names (d : DiskS) : List (List UInt8) := d.files.map (·.name)
/-- The fault that meets a step. -/
def kindAt (p : List (Int × Int)) (n : Int) : Int := ((p.find? (fun q => q.1 = n)).map (·.2)).getD 0

def DiskS.step (d : DiskS) : DiskS × Int :=
  if d.down then (d, 32)
  else if kindAt d.plan ((d.steps + 1 : Nat) : Int) = 1 then ({ d with steps := d.steps + 1 }, 31)
  else if kindAt d.plan ((d.steps + 1 : Nat) : Int) = 2 then ({ d with steps := d.steps + 1 }, 30)
  else if kindAt d.plan ((d.steps + 1 : Nat) : Int) = 3 then ({ d with steps := d.steps + 1, down := true }, 32)
  else ({ d with steps := d.steps + 1 }, 0)

/-- Files, where those of one name are turned. -/
def turnAt (l : List FileS) (n : List UInt8) (g : FileS → FileS) : List FileS := l.map (fun f => if f.name = n then g f else f)

def DiskS.append (d : DiskS) (n b : List UInt8) : DiskS × Int :=
  if d.step.2 ≠ 0 then d.step
  else match d.find n with
    | none =>
      if 16 ≤ d.files.length then (d.step.1, 3)
      else if d.room - d.used < b.length then (d.step.1, 30)
      else ({ d.step.1 with files := d.files ++ [⟨n, b, 0⟩] }, 0)
    | some f =>
      if d.room - d.used < b.length then (d.step.1, 30)
      else ({ d.step.1 with files := turnAt d.files n (fun f => { f with bytes := f.bytes ++ b }) }, 0)

def DiskS.sync (d : DiskS) (n : List UInt8) : DiskS × Int :=
  if d.step.2 ≠ 0 then d.step
  else match d.find n with
    | none => (d.step.1, 33)
    | some _ => ({ d.step.1 with files := turnAt d.files n (fun f => { f with safe := f.bytes.length }) }, 0)

def DiskS.truncate (d : DiskS) (n : List UInt8) (k : Nat) : DiskS × Int :=
  if d.step.2 ≠ 0 then d.step
  else match d.find n with
    | none => (d.step.1, 33)
    | some f =>
      if f.bytes.length < k then (d.step.1, 1)
      else ({ d.step.1 with files := turnAt d.files n (fun f => { f with bytes := f.bytes.take k, safe := k }) }, 0)

def DiskS.remove (d : DiskS) (n : List UInt8) : DiskS × Int :=
  if d.step.2 ≠ 0 then d.step
  else match d.find n with
    | none => (d.step.1, 33)
    | some _ => ({ d.step.1 with files := d.files.filter (fun f => f.name ≠ n) }, 0)

def DiskS.read (d : DiskS) (n : List UInt8) : DiskS × List UInt8 × Int :=
  if d.step.2 ≠ 0 then (d.step.1, [], d.step.2)
  else match d.find n with
    | none => (d.step.1, [], 33)
    | some f => (d.step.1, f.bytes, 0)

def leB (x y : List UInt8) : Bool := decide (x ≤ y)
/-- The names in the order of their bytes. -/
def DiskS.sorted (d : DiskS) : List (List UInt8) := d.names.mergeSort leB

def DiskS.list (d : DiskS) : List (List UInt8) := if d.down then [] else d.sorted

def DiskS.spoil (d : DiskS) (n : List UInt8) (at_ : Int) (by_ : UInt8) : DiskS × Int :=
  match d.find n with
  | none => (d, 33)
  | some f =>
    if at_ < 0 ∨ (f.bytes.length : Int) ≤ at_ then (d, 1)
    else ({ d with files := turnAt d.files n (fun f => { f with bytes := f.bytes.set at_.toNat (f.bytes.getD at_.toNat 0 ^^^ by_) }) }, 0)

/-- How many bytes of a file are left behind a boot. -/
def leftOver (kept : List Int) (i : Nat) (f : FileS) : Nat :=
  match kept[i]? with
  | none => f.safe
  | some k => (min (max (f.safe : Int) k) (f.bytes.length : Int)).toNat

def bootFile (kept : List Int) (l : List (List UInt8)) (f : FileS) : FileS :=
  { f with bytes := f.bytes.take (leftOver kept (l.idxOf f.name) f), safe := leftOver kept (l.idxOf f.name) f }

def DiskS.boot (d : DiskS) (kept : List Int) : DiskS :=
  { d with files := d.files.map (bootFile kept d.sorted), plan := [], down := false }

structure DiskS.WF (d : DiskS) : Prop where
  room : d.room ≤ 1073741824
  used : d.used ≤ d.room
  many : d.files.length ≤ 16
  safe : ∀ f ∈ d.files, f.safe ≤ f.bytes.length
  names : d.names.Nodup
  short : ∀ f ∈ d.files, f.name.length ≤ 32

theorem usedBy_append (l m : List FileS) : usedBy (l ++ m) = usedBy l + usedBy m := by simp [usedBy]
theorem used_mem {l : List FileS} {f : FileS} (h : f ∈ l) : f.bytes.length ≤ usedBy l := by
  induction l with
  | nil => cases h
  | cons x l ih =>
    simp only [usedBy, List.map_cons, List.sum_cons] at ih ⊢
    rcases List.mem_cons.1 h with rfl | h
    · omega
    · have := ih h; omega
theorem DiskS.WF.len {d : DiskS} (h : d.WF) {f : FileS} (hf : f ∈ d.files) : f.bytes.length ≤ 1073741824 := by
  have := used_mem hf; have := h.used; have := h.room; unfold DiskS.used at *; omega

theorem find_spec {d : DiskS} {n : List UInt8} {f : FileS} (h : d.find n = some f) : f ∈ d.files ∧ f.name = n := by
  unfold DiskS.find at h
  exact ⟨List.mem_of_find?_eq_some h, by simpa using List.find?_some h⟩
theorem find_none {d : DiskS} {n : List UInt8} (h : d.find n = none) : ∀ f ∈ d.files, f.name ≠ n := by
  unfold DiskS.find at h
  intro f hf e
  have := List.find?_eq_none.1 h f hf
  exact this (by simpa using e)

theorem turn_names (l : List FileS) (n : List UInt8) (g : FileS → FileS) (hg : ∀ f, (g f).name = f.name) : (turnAt l n g).map (·.name) = l.map (·.name) := by
  unfold turnAt
  rw [List.map_map]
  apply List.map_congr_left
  intro f _
  simp only [Function.comp]
  split
  · exact hg f
  · rfl

/-- A turn of the one file of that name: what its bytes are more, all are more. -/
theorem turn_used {l : List FileS} {n : List UInt8} {f : FileS} (hf : f ∈ l) (hn : f.name = n) (hd : (l.map (·.name)).Nodup) (g : FileS → FileS) :
    usedBy (turnAt l n g) + f.bytes.length = usedBy l + (g f).bytes.length := by
  induction l with
  | nil => cases hf
  | cons x l ih =>
    simp only [List.map_cons, List.nodup_cons] at hd
    rcases List.mem_cons.1 hf with rfl | hf'
    · have hl : turnAt l n g = l := by
        unfold turnAt
        conv => rhs; rw [← List.map_id l]
        apply List.map_congr_left
        intro y hy
        rw [if_neg (fun e => hd.1 (by rw [hn, ← e]; exact List.mem_map.2 ⟨y, hy, rfl⟩))]
        rfl
      have e1 : turnAt (f :: l) n g = g f :: l := by
        show (if f.name = n then g f else f) :: turnAt l n g = _
        rw [if_pos hn, hl]
      rw [e1]
      simp only [usedBy, List.map_cons, List.sum_cons]
      omega
    · have hx : x.name ≠ n := fun e => hd.1 (by rw [e, ← hn]; exact List.mem_map.2 ⟨f, hf', rfl⟩)
      have e1 : turnAt (x :: l) n g = x :: turnAt l n g := by
        show (if x.name = n then g x else x) :: turnAt l n g = _
        rw [if_neg hx]
      have := ih hf' hd.2
      rw [e1]
      simp only [usedBy, List.map_cons, List.sum_cons] at this ⊢
      omega

theorem turn_len (l : List FileS) (n : List UInt8) (g : FileS → FileS) : (turnAt l n g).length = l.length := by simp [turnAt]
theorem turn_mem {l : List FileS} {n : List UInt8} {g : FileS → FileS} {x : FileS} (h : x ∈ turnAt l n g) : x ∈ l ∧ x.name ≠ n ∨ ∃ f ∈ l, f.name = n ∧ x = g f := by
  obtain ⟨f, hf, rfl⟩ := List.mem_map.1 h
  by_cases hn : f.name = n
  · exact .inr ⟨f, hf, hn, by rw [if_pos hn]⟩
  · exact .inl (by rw [if_neg hn]; exact ⟨hf, hn⟩)

theorem step_files (d : DiskS) : d.step.1.files = d.files := by unfold DiskS.step; (repeat' split) <;> rfl
theorem step_room (d : DiskS) : d.step.1.room = d.room := by unfold DiskS.step; (repeat' split) <;> rfl
theorem step_wf {d : DiskS} (h : d.WF) : d.step.1.WF := by
  have hf := step_files d
  have hr := step_room d
  exact ⟨by rw [hr]; exact h.room, by unfold DiskS.used; rw [hf, hr]; exact h.used, by rw [hf]; exact h.many, by rw [hf]; exact h.safe, by unfold DiskS.names; rw [hf]; exact h.names, by rw [hf]; exact h.short⟩
theorem step_steps (d : DiskS) : d.step.1.steps ≤ d.steps + 1 := by
  unfold DiskS.step
  repeat' split
  all_goals first | exact Nat.le_succ _ | exact Nat.le_refl _

end Go.Proofs.YtbmejbmkaoekgaaGreatDoor
