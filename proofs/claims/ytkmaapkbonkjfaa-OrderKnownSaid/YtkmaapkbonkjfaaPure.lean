/- Plain functions for the layer order: what the Go functions compute, with no program in sight. -/
namespace Go.Proofs.Ytkmaapkbonkjfaa

structure PartR where
  name : ByteArray
  batch : Int
  long : Int
  stock : Int
structure OrdR where
  part : Int
  many : Int
  due : Int
  worth : Int
structure ShopR where
  hours : List Int
  parts : List PartR
  orders : List OrdR

instance : Inhabited PartR := ⟨⟨ByteArray.empty, 0, 0, 0⟩⟩
instance : Inhabited OrdR := ⟨⟨0, 0, 0, 0⟩⟩

/-- n is from lo to hi -/
def inB (n lo hi : Int) : Bool := decide (lo ≤ n) && decide (n ≤ hi)
/-- some number is not from lo to hi -/
def outB (lo hi : Int) (l : List Int) : Bool := l.any fun n => decide (n < lo) || decide (hi < n)

def loB (c : UInt8) : Bool := decide (97 ≤ c.toNat) && decide (c.toNat ≤ 122)
def restB (c : UInt8) : Bool := loB c || (decide (48 ≤ c.toNat) && decide (c.toNat ≤ 57)) || c.toNat == 45
def nameL (l : List UInt8) : Bool :=
  match l with
  | [] => false
  | c :: r => loB c && r.all restB && decide (l.length ≤ 16)
def nameB (s : ByteArray) : Bool := nameL s.data.toList

/-- the first number below n that does -/
def fst? (n : Nat) (p : Nat → Bool) : Option Nat := (List.range n).find? p

theorem fst?_some {n k : Nat} {p : Nat → Bool} (hk : k < n) (hp : p k = true) (hb : ∀ j, j < k → p j = false) : fst? n p = some k := by
  unfold fst?
  rw [List.find?_range_eq_some]
  refine ⟨hp, by simpa using hk, fun j hj => by simp [hb j hj]⟩
theorem fst?_none {n : Nat} {p : Nat → Bool} (hb : ∀ j, j < n → p j = false) : fst? n p = none := by
  unfold fst?
  rw [List.find?_eq_none]
  intro x hx
  simp [hb x (by simpa using hx)]
theorem fst?_spec {n k : Nat} {p : Nat → Bool} (h : fst? n p = some k) : k < n ∧ p k = true ∧ ∀ j, j < k → p j = false := by
  unfold fst? at h
  rw [List.find?_range_eq_some] at h
  obtain ⟨h1, h2, h3⟩ := h
  exact ⟨by simpa using h2, h1, fun j hj => by simpa using h3 j hj⟩
theorem fst?_none_spec {n : Nat} {p : Nat → Bool} (h : fst? n p = none) : ∀ j, j < n → p j = false := by
  unfold fst? at h
  rw [List.find?_eq_none] at h
  intro j hj
  simpa using h j (by simpa using hj)

def partErr (before : List PartR) (p : PartR) : Int :=
  if nameB p.name = false then 6
  else if (before.any fun x => x.name.toList == p.name.toList) then 5
  else if inB p.batch 1 10 && inB p.long 1 48 && inB p.stock 0 50 then 0 else 7
def ordErr (np nh : Nat) (o : OrdR) : Int :=
  if inB o.part 0 (np - 1) = false then 4
  else if inB o.many 1 50 && inB o.due 0 (nh - 1) && inB o.worth 0 10000 then 0 else 7

def check (s : ShopR) : Int × Int × Int :=
  if !(inB s.hours.length 1 20) || !(inB s.parts.length 1 3) || decide (8 < (s.orders.length : Int)) then (1, 0, 3) else
  match fst? s.hours.length fun d => !(inB (s.hours.getD d 0) 0 24) with
  | some d => (1, d, 7)
  | none =>
  match fst? s.parts.length fun i => partErr (s.parts.take i) (s.parts.getD i default) != 0 with
  | some i => (2, i, partErr (s.parts.take i) (s.parts.getD i default))
  | none =>
  match fst? s.orders.length fun i => ordErr s.parts.length s.hours.length (s.orders.getD i default) != 0 with
  | some i => (3, i, ordErr s.parts.length s.hours.length (s.orders.getD i default))
  | none => (0, 0, 0)

def errOf (s : ShopR) : Int := (check s).2.2
def Valid (s : ShopR) : Prop := errOf s = 0

/-- the error of a shop and orders that are taken -/
def takenErr (s : ShopR) (t : List Int) : Int :=
  if errOf s ≠ 0 then errOf s
  else if outB 0 (s.orders.length - 1) t then 4
  else if (fst? t.length fun i => decide (0 < i) && decide (t.getD i 0 ≤ t.getD (i - 1) 0)).isSome then 2
  else 0

def ofL (s : ShopR) (t : List Int) : List OrdR := t.map fun i => s.orders.getD i.toNat default

def due (l : List OrdR) (part day : Int) : Int := ((l.filter fun o => o.part == part && decide (o.due ≤ day)).map (·.many)).sum
/-- how many castings of a part give so many pieces -/
def need (p : PartR) (n : Int) : Int := max 0 (n - p.stock + p.batch - 1) / p.batch
def byy (s : ShopR) (l : List OrdR) (i : Nat) (day : Int) : Int := need (s.parts.getD i default) (due l i day)
def takes (s : ShopR) (l : List OrdR) (day : Int) : Int := ((List.range s.parts.length).map fun i => byy s l i day * (s.parts.getD i default).long).sum
def worked (s : ShopR) (day : Nat) : Int := (s.hours.take (day + 1)).sum
def over (s : ShopR) (l : List OrdR) (day : Nat) : Int := takes s l day - worked s day
def first? (s : ShopR) (l : List OrdR) : Option Nat := fst? s.hours.length fun d => decide (0 < over s l d)
def canB (s : ShopR) (l : List OrdR) : Bool := (first? s l).isNone

def lateF (s : ShopR) (t : List Int) : Int × Int × Int :=
  if takenErr s t ≠ 0 then (0, 0, takenErr s t) else
  match first? s (ofL s t) with
  | some d => (d, over s (ofL s t) d, 0)
  | none => (0, 0, 4)
def neededL (s : ShopR) (l : List OrdR) : List Int := (List.range s.parts.length).map fun i => byy s l i (s.hours.length - 1)
def neededF (s : ShopR) (t : List Int) : List Int × Int :=
  if takenErr s t ≠ 0 then ([], takenErr s t) else (neededL s (ofL s t), 0)

/-- the castings that are newly needed by a day -/
def newBy (s : ShopR) (l : List OrdR) (d i : Nat) : Int := byy s l i d - (if d = 0 then 0 else byy s l i (d - 1 : Nat))
def needs (s : ShopR) (l : List OrdR) : List (Nat × Nat) :=
  (List.range s.hours.length).flatMap fun d => (List.range s.parts.length).flatMap fun i => List.replicate (newBy s l d i).toNat (i, d)
/-- the first day by whose evening so many hours were worked -/
def done (s : ShopR) (used : Int) : Nat := (fst? s.hours.length fun d => decide (used ≤ worked s d)).getD s.hours.length
def castsFrom (s : ShopR) (used : Int) : List (Nat × Nat) → List (Int × Int)
  | [] => []
  | (i, _) :: r => ((i : Int), (done s (used + (s.parts.getD i default).long) : Int)) :: castsFrom s (used + (s.parts.getD i default).long) r
def castsL (s : ShopR) (l : List OrdR) : List (Int × Int) := castsFrom s 0 (needs s l)
def planF (s : ShopR) (t : List Int) : List (Int × Int) × Int :=
  if takenErr s t ≠ 0 then ([], takenErr s t)
  else if canB s (ofL s t) then (castsL s (ofL s t), 0) else ([], 9)
def leftF (s : ShopR) (l : List OrdR) (c : List (Int × Int)) (part : Nat) (day : Int) : Int :=
  (s.parts.getD part default).stock - due l part day + (s.parts.getD part default).batch * ((c.filter fun x => x.1 == (part : Int) && decide (x.2 ≤ day)).length : Int)
def keptL (s : ShopR) (l : List OrdR) (part : Nat) : List Int := (List.range s.hours.length).map fun (d : Nat) => leftF s l (castsL s l) part d
def keptF (s : ShopR) (t : List Int) (part : Int) : List Int × Int :=
  if takenErr s t ≠ 0 then ([], takenErr s t)
  else if inB part 0 (s.parts.length - 1) = false then ([], 4)
  else if canB s (ofL s t) then (keptL s (ofL s t) part.toNat, 0) else ([], 9)
def promiseL (s : ShopR) (l : List OrdR) (part many : Int) : Option Nat :=
  fst? s.hours.length fun (d : Nat) => canB s (l ++ [⟨part, many, d, 0⟩])
def promiseF (s : ShopR) (t : List Int) (part many : Int) : Int × Int :=
  if takenErr s t ≠ 0 then (0, takenErr s t)
  else if inB part 0 (s.parts.length - 1) = false then (0, 4)
  else if inB many 1 50 = false then (0, 7)
  else match promiseL s (ofL s t) part many with
  | some d => (d, 0)
  | none => (0, 9)

/-- the numbers of a set, by bits -/
def bitsOf (n : Nat) (x : Nat) : List Nat := (List.range n).filter fun i => x.testBit i
def ordsOf (s : ShopR) (x : List Nat) : List OrdR := x.map fun i => s.orders.getD i default
def worthOf (s : ShopR) (x : List Nat) : Int := ((ordsOf s x).map (·.worth)).sum
/-- what one set does to the best one so far -/
def better (s : ShopR) (best : List Nat × Int) (x : List Nat) : List Nat × Int :=
  if best.2 < worthOf s x ∨ (worthOf s x = best.2 ∧ x < best.1) then (x, worthOf s x) else best
def setsOf (s : ShopR) (with_ but : Nat) : List (List Nat) :=
  (((List.range (2 ^ s.orders.length)).filter fun x => (x &&& with_ == with_) && (x &&& but == 0)).map (bitsOf s.orders.length)).filter fun x => canB s (ordsOf s x)
def bestL (s : ShopR) : List Nat × Int := (setsOf s 0 0).foldl (better s) ([], 0)
def bestF (s : ShopR) : List Int × Int × Int :=
  if errOf s ≠ 0 then ([], 0, errOf s) else ((bestL s).1.map (Int.ofNat ·), (bestL s).2, 0)
def mostW (s : ShopR) (with_ but : Nat) (start sub : Int) : Int := (setsOf s with_ but).foldl (fun m x => max m (worthOf s x - sub)) start
def costsF (s : ShopR) (o : Int) : Int × Int :=
  if errOf s ≠ 0 then (0, errOf s)
  else if inB o 0 (s.orders.length - 1) = false then (0, 4)
  else if mostW s (2 ^ o.toNat) 0 (-1) (s.orders.getD o.toNat default).worth < 0 then (0, 9)
  else (mostW s 0 (2 ^ o.toNat) 0 0 - mostW s (2 ^ o.toNat) 0 (-1) (s.orders.getD o.toNat default).worth, 0)

end Go.Proofs.Ytkmaapkbonkjfaa
