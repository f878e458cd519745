/- Plain functions for the layer order: what the Go functions compute, with no program in sight. Plain laws of the layer order: bounds, one step of each sum. Plain laws of the plan: the list of castings, as it is made day by day. -/
set_option linter.unusedSimpArgs false
set_option linter.unusedVariables false
namespace Go.Proofs.Ytkmaapkbonkjfaa

structure PartR where
  name : ByteArray
  batch : Int
  long : Int
  stock : Int
structure OrdR where
  part : Int
  many : Int
  due : Int
  worth : Int
structure ShopR where
  hours : List Int
  parts : List PartR
  orders : List OrdR

instance : Inhabited PartR := ⟨⟨ByteArray.empty, 0, 0, 0⟩⟩
instance : Inhabited OrdR := ⟨⟨0, 0, 0, 0⟩⟩

/-- n is from lo to hi -/
def inB (n lo hi : Int) : Bool := decide (lo ≤ n) && decide (n ≤ hi)
/-- some number is not from lo to hi -/
def outB (lo hi : Int) (l : List Int) : Bool := l.any fun n => decide (n < lo) || decide (hi < n)

def loB (c : UInt8) : Bool := decide (97 ≤ c.toNat) && decide (c.toNat ≤ 122)
def restB (c : UInt8) : Bool := loB c || (decide (48 ≤ c.toNat) && decide (c.toNat ≤ 57)) || c.toNat == 45
def nameL (l : List UInt8) : Bool :=
  match l with
  | [] => false
  | c :: r => loB c && r.all restB && decide (l.length ≤ 16)
def nameB (s : ByteArray) : Bool := nameL s.data.toList

/-- the first number below n that does -/
def fst? (n : Nat) (p : Nat → Bool) : Option Nat := (List.range n).find? p

theorem fst?_some {n k : Nat} {p : Nat → Bool} (hk : k < n) (hp : p k = true) (hb : ∀ j, j < k → p j = false) : fst? n p = some k := by
  unfold fst?
  rw [List.find?_range_eq_some]
  refine ⟨hp, by simpa using hk, fun j hj => by simp [hb j hj]⟩
theorem fst?_none {n : Nat} {p : Nat → Bool} (hb : ∀ j, j < n → p j = false) : fst? n p = none := by
  unfold fst?
  rw [List.find?_eq_none]
  intro x hx
  simp [hb x (by simpa using hx)]
theorem fst?_spec {n k : Nat} {p : Nat → Bool} (h : fst? n p = some k) : k < n ∧ p k = true ∧ ∀ j, j < k → p j = false := by
  unfold fst? at h
  rw [List.find?_range_eq_some] at h
  obtain ⟨h1, h2, h3⟩ := h
  exact ⟨by simpa using h2, h1, fun j hj => by simpa using h3 j hj⟩
theorem fst?_none_spec {n : Nat} {p : Nat → Bool} (h : fst? n p = none) : ∀ j, j < n → p j = false := by
  unfold fst? at h
  rw [List.find?_eq_none] at h
  intro j hj
  simpa using h j (by simpa using hj)

def partErr (before : List PartR) (p : PartR) : Int :=
  if nameB p.name = false then 6
  else if (before.any fun x => x.name.toList == p.name.toList) then 5
  else if inB p.batch 1 10 && inB p.long 1 48 && inB p.stock 0 50 then 0 else 7
def ordErr (np nh : Nat) (o : OrdR) : Int :=
  if inB o.part 0 (np - 1) = false then 4
  else if inB o.many 1 50 && inB o.due 0 (nh - 1) && inB o.worth 0 10000 then 0 else 7

def check (s : ShopR) : Int × Int × Int :=
  if !(inB s.hours.length 1 20) || !(inB s.parts.length 1 3) || decide (8 < (s.orders.length : Int)) then (1, 0, 3) else
  match fst? s.hours.length fun d => !(inB (s.hours.getD d 0) 0 24) with
  | some d => (1, d, 7)
  | none =>
  match fst? s.parts.length fun i => partErr (s.parts.take i) (s.parts.getD i default) != 0 with
  | some i => (2, i, partErr (s.parts.take i) (s.parts.getD i default))
  | none =>
  match fst? s.orders.length fun i => ordErr s.parts.length s.hours.length (s.orders.getD i default) != 0 with
  | some i => (3, i, ordErr s.parts.length s.hours.length (s.orders.getD i default))
  | none => (0, 0, 0)

def errOf (s : ShopR) : Int := (check s).2.2
def Valid (s : ShopR) : Prop := errOf s = 0

/-- the error of a shop and orders that are taken -/
def takenErr (s : ShopR) (t : List Int) : Int :=
  if errOf s ≠ 0 then errOf s
  else if outB 0 (s.orders.length - 1) t then 4
  else if (fst? t.length fun i => decide (0 < i) && decide (t.getD i 0 ≤ t.getD (i - 1) 0)).isSome then 2
  else 0

def ofL (s : ShopR) (t : List Int) : List OrdR := t.map fun i => s.orders.getD i.toNat default

def due (l : List OrdR) (part day : Int) : Int := ((l.filter fun o => o.part == part && decide (o.due ≤ day)).map (·.many)).sum
/-- how many castings of a part give so many pieces -/
def need (p : PartR) (n : Int) : Int := max 0 (n - p.stock + p.batch - 1) / p.batch
def byy (s : ShopR) (l : List OrdR) (i : Nat) (day : Int) : Int := need (s.parts.getD i default) (due l i day)
def takes (s : ShopR) (l : List OrdR) (day : Int) : Int := ((List.range s.parts.length).map fun i => byy s l i day * (s.parts.getD i default).long).sum
def worked (s : ShopR) (day : Nat) : Int := (s.hours.take (day + 1)).sum
def over (s : ShopR) (l : List OrdR) (day : Nat) : Int := takes s l day - worked s day
def first? (s : ShopR) (l : List OrdR) : Option Nat := fst? s.hours.length fun d => decide (0 < over s l d)
def canB (s : ShopR) (l : List OrdR) : Bool := (first? s l).isNone

def lateF (s : ShopR) (t : List Int) : Int × Int × Int :=
  if takenErr s t ≠ 0 then (0, 0, takenErr s t) else
  match first? s (ofL s t) with
  | some d => (d, over s (ofL s t) d, 0)
  | none => (0, 0, 4)
def neededL (s : ShopR) (l : List OrdR) : List Int := (List.range s.parts.length).map fun i => byy s l i (s.hours.length - 1)
def neededF (s : ShopR) (t : List Int) : List Int × Int :=
  if takenErr s t ≠ 0 then ([], takenErr s t) else (neededL s (ofL s t), 0)

/-- the castings that are newly needed by a day -/
def newBy (s : ShopR) (l : List OrdR) (d i : Nat) : Int := byy s l i d - (if d = 0 then 0 else byy s l i (d - 1 : Nat))
def needs (s : ShopR) (l : List OrdR) : List (Nat × Nat) :=
  (List.range s.hours.length).flatMap fun d => (List.range s.parts.length).flatMap fun i => List.replicate (newBy s l d i).toNat (i, d)
/-- the first day by whose evening so many hours were worked -/
def done (s : ShopR) (used : Int) : Nat := (fst? s.hours.length fun d => decide (used ≤ worked s d)).getD s.hours.length
def castsFrom (s : ShopR) (used : Int) : List (Nat × Nat) → List (Int × Int)
  | [] => []
  | (i, _) :: r => ((i : Int), (done s (used + (s.parts.getD i default).long) : Int)) :: castsFrom s (used + (s.parts.getD i default).long) r
def castsL (s : ShopR) (l : List OrdR) : List (Int × Int) := castsFrom s 0 (needs s l)
def planF (s : ShopR) (t : List Int) : List (Int × Int) × Int :=
  if takenErr s t ≠ 0 then ([], takenErr s t)
  else if canB s (ofL s t) then (castsL s (ofL s t), 0) else ([], 9)
def leftF (s : ShopR) (l : List OrdR) (c : List (Int × Int)) (part : Nat) (day : Int) : Int :=
  (s.parts.getD part default).stock - due l part day + (s.parts.getD part default).batch * ((c.filter fun x => x.1 == (part : Int) && decide (x.2 ≤ day)).length : Int)
def keptL (s : ShopR) (l : List OrdR) (part : Nat) : List Int := (List.range s.hours.length).map fun (d : Nat) => leftF s l (castsL s l) part d
def keptF (s : ShopR) (t : List Int) (part : Int) : List Int × Int :=
  if takenErr s t ≠ 0 then ([], takenErr s t)
  else if inB part 0 (s.parts.length - 1) = false then ([], 4)
  else if canB s (ofL s t) then (keptL s (ofL s t) part.toNat, 0) else ([], 9)
def promiseL (s : ShopR) (l : List OrdR) (part many : Int) : Option Nat :=
  fst? s.hours.length fun (d : Nat) => canB s (l ++ [⟨part, many, d, 0⟩])
def promiseF (s : ShopR) (t : List Int) (part many : Int) : Int × Int :=
  if takenErr s t ≠ 0 then (0, takenErr s t)
  else if inB part 0 (s.parts.length - 1) = false then (0, 4)
  else if inB many 1 50 = false then (0, 7)
  else match promiseL s (ofL s t) part many with
  | some d => (d, 0)
  | none => (0, 9)

/-- the numbers of a set, by bits -/
def bitsOf (n : Nat) (x : Nat) : List Nat := (List.range n).filter fun i => x.testBit i
def ordsOf (s : ShopR) (x : List Nat) : List OrdR := x.map fun i => s.orders.getD i default
def worthOf (s : ShopR) (x : List Nat) : Int := ((ordsOf s x).map (·.worth)).sum
/-- what one set does to the best one so far -/
def better (s : ShopR) (best : List Nat × Int) (x : List Nat) : List Nat × Int :=
  if best.2 < worthOf s x ∨ (worthOf s x = best.2 ∧ x < best.1) then (x, worthOf s x) else best
def setsOf (s : ShopR) (with_ but : Nat) : List (List Nat) :=
  (((List.range (2 ^ s.orders.length)).filter fun x => (x &&& with_ == with_) && (x &&& but == 0)).map (bitsOf s.orders.length)).filter fun x => canB s (ordsOf s x)
def bestL (s : ShopR) : List Nat × Int := (setsOf s 0 0).foldl (better s) ([], 0)
def bestF (s : ShopR) : List Int × Int × Int :=
  if errOf s ≠ 0 then ([], 0, errOf s) else ((bestL s).1.map (Int.ofNat ·), (bestL s).2, 0)
def mostW (s : ShopR) (with_ but : Nat) (start sub : Int) : Int := (setsOf s with_ but).foldl (fun m x => max m (worthOf s x - sub)) start
def costsF (s : ShopR) (o : Int) : Int × Int :=
  if errOf s ≠ 0 then (0, errOf s)
  else if inB o 0 (s.orders.length - 1) = false then (0, 4)
  else if mostW s (2 ^ o.toNat) 0 (-1) (s.orders.getD o.toNat default).worth < 0 then (0, 9)
  else (mostW s 0 (2 ^ o.toNat) 0 0 - mostW s (2 ^ o.toNat) 0 (-1) (s.orders.getD o.toNat default).worth, 0)

end Go.Proofs.Ytkmaapkbonkjfaa
namespace Go.Proofs.Ytkmaapkbonkjfaa

structure PartOK (p : PartR) : Prop where
  batch : 1 ≤ p.batch ∧ p.batch ≤ 10
  long : 1 ≤ p.long ∧ p.long ≤ 48
  stock : 0 ≤ p.stock ∧ p.stock ≤ 50
structure OrdOK (np nh : Nat) (o : OrdR) : Prop where
  part : 0 ≤ o.part ∧ o.part < np
  many : 1 ≤ o.many ∧ o.many ≤ 50
  due : 0 ≤ o.due ∧ o.due < nh
  worth : 0 ≤ o.worth ∧ o.worth ≤ 10000
/-- a shop without an error -/
structure Good (s : ShopR) : Prop where
  hlen : 1 ≤ s.hours.length ∧ s.hours.length ≤ 20
  hours : ∀ h ∈ s.hours, 0 ≤ h ∧ h ≤ 24
  plen : 1 ≤ s.parts.length ∧ s.parts.length ≤ 3
  parts : ∀ p ∈ s.parts, PartOK p
  olen : s.orders.length ≤ 8
  orders : ∀ o ∈ s.orders, OrdOK s.parts.length s.hours.length o
/-- orders that fit a shop -/
structure Fit (s : ShopR) (l : List OrdR) : Prop where
  len : l.length ≤ 9
  all : ∀ o ∈ l, OrdOK s.parts.length s.hours.length o

theorem getD_at {α : Type} {l : List α} {i : Nat} (h : i < l.length) (d : α) : l.getD i d = l[i] := by
  simp [List.getD, List.getElem?_eq_getElem h]
theorem inB_iff {n lo hi : Int} : inB n lo hi = true ↔ lo ≤ n ∧ n ≤ hi := by simp [inB]
theorem inB_false {n lo hi : Int} : inB n lo hi = false ↔ ¬ (lo ≤ n ∧ n ≤ hi) := by rw [← inB_iff]; simp

theorem getD_mem {α : Type} [Inhabited α] {l : List α} {i : Nat} (h : i < l.length) (d : α) : l.getD i d ∈ l := by
  simp [List.getD, List.getElem?_eq_getElem h]

theorem good_of_valid {s : ShopR} (h : Valid s) : Good s := by
  unfold Valid errOf check at h
  split at h
  · simp at h
  · rename_i h0
    simp only [Bool.or_eq_true, Bool.not_eq_true', inB_false, decide_eq_true_eq, not_or, Decidable.not_not] at h0
    obtain ⟨⟨hh, hp⟩, ho⟩ := h0
    split at h
    · simp at h
    · rename_i hd
      split at h
      · rename_i i hi
        have := (fst?_spec hi).2.1
        simp only at h
        rw [h] at this
        simp at this
      · rename_i hpn
        split at h
        · rename_i i hi
          have := (fst?_spec hi).2.1
          simp only at h
          rw [h] at this
          simp at this
        · rename_i hon
          refine ⟨by omega, ?_, by omega, ?_, by omega, ?_⟩
          · intro x hx
            obtain ⟨i, hi, rfl⟩ := List.getElem_of_mem hx
            have := fst?_none_spec hd i hi
            simp only [Bool.not_eq_false', inB_iff, getD_at hi] at this
            exact this
          · intro x hx
            obtain ⟨i, hi, rfl⟩ := List.getElem_of_mem hx
            have := fst?_none_spec hpn i hi
            simp only [bne_eq_false_iff_eq, partErr, getD_at hi] at this
            split at this
            · simp at this
            · split at this
              · simp at this
              · split at this
                · rename_i h3
                  simp only [Bool.and_eq_true, inB_iff] at h3
                  exact ⟨h3.1.1, h3.1.2, h3.2⟩
                · simp at this
          · intro x hx
            obtain ⟨i, hi, rfl⟩ := List.getElem_of_mem hx
            have := fst?_none_spec hon i hi
            simp only [bne_eq_false_iff_eq, ordErr, getD_at hi] at this
            split at this
            · simp at this
            · rename_i h2
              split at this
              · rename_i h3
                simp only [Bool.and_eq_true, inB_iff, Bool.not_eq_false] at h2 h3
                exact ⟨by omega, h3.1.1, by omega, h3.2⟩
              · simp at this

theorem Good.part {s : ShopR} (h : Good s) {i : Nat} (hi : i < s.parts.length) : PartOK (s.parts.getD i default) := h.parts _ (getD_mem hi _)
theorem Good.ord {s : ShopR} (h : Good s) {i : Nat} (hi : i < s.orders.length) : OrdOK s.parts.length s.hours.length (s.orders.getD i default) := h.orders _ (getD_mem hi _)
theorem Good.hour {s : ShopR} (h : Good s) {i : Nat} (hi : i < s.hours.length) : 0 ≤ s.hours.getD i 0 ∧ s.hours.getD i 0 ≤ 24 := h.hours _ (getD_mem hi _)

theorem take_succ_getD {α : Type} {l : List α} {k : Nat} (h : k < l.length) (d : α) : l.take (k + 1) = l.take k ++ [l.getD k d] := by
  rw [List.take_succ_eq_append_getElem h, getD_at h]

/-! ### due -/
theorem due_nil (part day : Int) : due [] part day = 0 := rfl
theorem due_append (l m : List OrdR) (part day : Int) : due (l ++ m) part day = due l part day + due m part day := by
  simp [due, List.filter_append, List.sum_append]
theorem due_one (o : OrdR) (part day : Int) : due [o] part day = if o.part = part ∧ o.due ≤ day then o.many else 0 := by
  unfold due
  by_cases h : o.part = part <;> by_cases h2 : o.due ≤ day <;> simp [h, h2]
theorem due_cons (o : OrdR) (l : List OrdR) (part day : Int) : due (o :: l) part day = (if o.part = part ∧ o.due ≤ day then o.many else 0) + due l part day := by
  rw [← due_one o part day, ← due_append]; rfl
theorem due_snoc {l : List OrdR} {k : Nat} (h : k < l.length) (part day : Int) (d : OrdR) :
    due (l.take (k + 1)) part day = due (l.take k) part day + if (l.getD k d).part = part ∧ (l.getD k d).due ≤ day then (l.getD k d).many else 0 := by
  rw [take_succ_getD h d, due_append, due_one]
theorem due_bd {l : List OrdR} (h : ∀ o ∈ l, 1 ≤ o.many ∧ o.many ≤ 50) (part day : Int) : 0 ≤ due l part day ∧ due l part day ≤ 50 * l.length := by
  induction l with
  | nil => simp [due]
  | cons o l ih =>
    have h1 := h o (by simp)
    have h2 := ih fun x hx => h x (by simp [hx])
    rw [due_cons]
    simp only [List.length_cons]
    split <;> omega
theorem Fit.many {s : ShopR} {l : List OrdR} (h : Fit s l) : ∀ o ∈ l, 1 ≤ o.many ∧ o.many ≤ 50 := fun o ho => (h.all o ho).many
theorem Fit.due_bd {s : ShopR} {l : List OrdR} (h : Fit s l) (part day : Int) : 0 ≤ due l part day ∧ due l part day ≤ 450 := by
  have := @Go.Proofs.Ytkmaapkbonkjfaa.due_bd l h.many part day
  have := h.len
  omega
theorem due_mono {l : List OrdR} (h : ∀ o ∈ l, 1 ≤ o.many ∧ o.many ≤ 50) (part : Int) {d e : Int} (hde : d ≤ e) : due l part d ≤ due l part e := by
  induction l with
  | nil => simp [due]
  | cons o l ih =>
    have h1 := h o (by simp)
    have h2 := ih fun x hx => h x (by simp [hx])
    rw [due_cons, due_cons]
    by_cases h3 : o.part = part
    · by_cases h4 : o.due ≤ d
      · rw [if_pos ⟨h3, h4⟩, if_pos ⟨h3, by omega⟩]; omega
      · rw [if_neg (by simp [h4])]
        split <;> omega
    · rw [if_neg (by simp [h3]), if_neg (by simp [h3])]; omega

/-! ### need -/
theorem need_le_iff {p : PartR} (hp : PartOK p) {n : Int} (k : Int) (hk : 0 ≤ k) : need p n ≤ k ↔ n ≤ p.stock + k * p.batch := by
  unfold need
  have hb := hp.batch
  constructor
  · intro h
    have h1 := Int.lt_ediv_add_one_mul_self (max 0 (n - p.stock + p.batch - 1)) (show 0 < p.batch by omega)
    have h2 : (max 0 (n - p.stock + p.batch - 1) / p.batch + 1) * p.batch ≤ (k + 1) * p.batch := Int.mul_le_mul_of_nonneg_right (by omega) (by omega)
    rw [Int.add_mul k 1] at h2
    omega
  · intro h
    have h3 : max 0 (n - p.stock + p.batch - 1) / p.batch < k + 1 := by
      apply Int.ediv_lt_of_lt_mul (by omega)
      have : 0 ≤ k * p.batch := Int.mul_nonneg hk (by omega)
      rw [Int.add_mul]
      omega
    omega
theorem need_nonneg {p : PartR} (hp : PartOK p) (n : Int) : 0 ≤ need p n := Int.ediv_nonneg (by omega) (by have := hp.batch; omega)
theorem need_le {p : PartR} (hp : PartOK p) {n : Int} (hn : n ≤ 450) : need p n ≤ 450 := by
  rw [need_le_iff hp 450 (by omega)]
  have := hp.batch; have := hp.stock
  have : 450 * 1 ≤ 450 * p.batch := Int.mul_le_mul_of_nonneg_left (by omega) (by omega)
  omega
/-- the loop that counts up ends just there -/
theorem need_eq {p : PartR} (hp : PartOK p) {n k : Int} (hk : 0 ≤ k) (hlt : ∀ j, 0 ≤ j → j < k → p.stock + j * p.batch < n) (hge : n ≤ p.stock + k * p.batch) : need p n = k := by
  have h1 := (need_le_iff hp k hk).2 hge
  have h0 := need_nonneg hp n
  by_cases h : need p n < k
  · have := hlt _ h0 h
    have := (need_le_iff hp (n := n) _ h0).1 (Int.le_refl _)
    omega
  · omega
theorem need_mono {p : PartR} (hp : PartOK p) {n m : Int} (h : n ≤ m) : need p n ≤ need p m := by
  unfold need
  exact Int.ediv_le_ediv (by have := hp.batch; omega) (by omega)

theorem byy_bd {s : ShopR} {l : List OrdR} (hg : Good s) (hf : Fit s l) {i : Nat} (hi : i < s.parts.length) (day : Int) : 0 ≤ byy s l i day ∧ byy s l i day ≤ 450 :=
  ⟨need_nonneg (hg.part hi) _, need_le (hg.part hi) (hf.due_bd _ _).2⟩
theorem byy_mono {s : ShopR} {l : List OrdR} (hg : Good s) (hf : Fit s l) {i : Nat} (hi : i < s.parts.length) {d e : Int} (h : d ≤ e) : byy s l i d ≤ byy s l i e :=
  need_mono (hg.part hi) (due_mono hf.many _ h)

/-! ### takes, worked -/
def takesTo (s : ShopR) (l : List OrdR) (day : Int) (k : Nat) : Int := ((List.range k).map fun i => byy s l i day * (s.parts.getD i default).long).sum
theorem takesTo_succ (s : ShopR) (l : List OrdR) (day : Int) (k : Nat) : takesTo s l day (k + 1) = takesTo s l day k + byy s l k day * (s.parts.getD k default).long := by
  simp [takesTo, List.range_succ, List.sum_append]
theorem takesTo_bd {s : ShopR} {l : List OrdR} (hg : Good s) (hf : Fit s l) (day : Int) {k : Nat} (hk : k ≤ s.parts.length) : 0 ≤ takesTo s l day k ∧ takesTo s l day k ≤ 21600 * k := by
  induction k with
  | zero => simp [takesTo]
  | succ k ih =>
    have h1 := ih (by omega)
    have h2 := byy_bd hg hf (i := k) (by omega) day
    have h3 := (hg.part (i := k) (by omega)).long
    have h4 : byy s l k day * (s.parts.getD k default).long ≤ 450 * 48 := Int.mul_le_mul h2.2 h3.2 (by omega) (by omega)
    have h5 : 0 ≤ byy s l k day * (s.parts.getD k default).long := Int.mul_nonneg h2.1 (by omega)
    rw [takesTo_succ]
    omega
theorem takes_bd {s : ShopR} {l : List OrdR} (hg : Good s) (hf : Fit s l) (day : Int) : 0 ≤ takes s l day ∧ takes s l day ≤ 64800 := by
  have := takesTo_bd hg hf day (Nat.le_refl _)
  have h2 : takesTo s l day s.parts.length = takes s l day := rfl
  have := hg.plen
  omega
theorem sum_take_succ {l : List Int} {k : Nat} (h : k < l.length) : (l.take (k + 1)).sum = (l.take k).sum + l.getD k 0 := by
  rw [take_succ_getD h 0, List.sum_append]; simp
theorem sum_take_bd {s : ShopR} (hg : Good s) (k : Nat) (hk : k ≤ s.hours.length) : 0 ≤ (s.hours.take k).sum ∧ (s.hours.take k).sum ≤ 24 * k := by
  induction k with
  | zero => simp
  | succ k ih =>
    have h1 := ih (by omega)
    have h2 := hg.hour (i := k) (by omega)
    rw [sum_take_succ (by omega)]
    omega
theorem worked_bd {s : ShopR} (hg : Good s) {d : Nat} (hd : d < s.hours.length) : 0 ≤ worked s d ∧ worked s d ≤ 480 := by
  have := sum_take_bd hg (d + 1) (by omega)
  have := hg.hlen
  unfold worked
  omega
end Go.Proofs.Ytkmaapkbonkjfaa
namespace Go.Proofs.Ytkmaapkbonkjfaa

/-- the castings that are newly needed by a day -/
def newsOf (s : ShopR) (l : List OrdR) (d : Nat) (np : Nat) : List (Int × Int) := (List.range np).flatMap fun i => List.replicate (newBy s l d i).toNat ((i : Int), (d : Int))
def listTo (s : ShopR) (l : List OrdR) (k : Nat) : List (Int × Int) := (List.range k).flatMap fun d => newsOf s l d s.parts.length
theorem listTo_succ (s : ShopR) (l : List OrdR) (k : Nat) : listTo s l (k + 1) = listTo s l k ++ newsOf s l k s.parts.length := by
  simp [listTo, List.range_succ]
theorem newsOf_succ (s : ShopR) (l : List OrdR) (d np : Nat) : newsOf s l d (np + 1) = newsOf s l d np ++ List.replicate (newBy s l d np).toNat ((np : Int), (d : Int)) := by
  simp [newsOf, List.range_succ]
theorem needs_map (s : ShopR) (l : List OrdR) : (needs s l).map (fun x => ((x.1 : Int), (x.2 : Int))) = listTo s l s.hours.length := by
  simp [needs, listTo, newsOf, List.map_flatMap, List.map_replicate]

theorem newBy_bd {s : ShopR} {l : List OrdR} (hg : Good s) (hf : Fit s l) {i : Nat} (hi : i < s.parts.length) (d : Nat) : 0 ≤ newBy s l d i ∧ newBy s l d i ≤ 450 := by
  unfold newBy
  have h1 := byy_bd hg hf hi (d : Int)
  split
  · omega
  · have h2 := byy_mono hg hf hi (d := ((d - 1 : Nat) : Int)) (e := (d : Int)) (by omega)
    have h3 := byy_bd hg hf hi ((d - 1 : Nat) : Int)
    omega

/-- castings that are needed by the evening before day k -/
def before (s : ShopR) (l : List OrdR) (k i : Nat) : Int := if k = 0 then 0 else byy s l i ((k - 1 : Nat) : Int)
theorem newBy_before (s : ShopR) (l : List OrdR) (k i : Nat) : newBy s l k i = before s l (k + 1) i - before s l k i := by
  unfold newBy before
  simp
theorem news_len {s : ShopR} {l : List OrdR} (hg : Good s) (hf : Fit s l) (k : Nat) : ∀ np, np ≤ s.parts.length → ((newsOf s l k np).length : Int) = ((List.range np).map fun i => before s l (k + 1) i - before s l k i).sum := by
  intro np
  induction np with
  | zero => intro _; simp [newsOf]
  | succ np ih =>
    intro h
    rw [newsOf_succ, List.length_append, List.range_succ, List.map_append, List.sum_append, Int.natCast_add, ih (by omega)]
    have := newBy_bd hg hf (i := np) (by omega) k
    simp only [List.length_replicate, List.map_cons, List.map_nil, List.sum_cons, List.sum_nil]
    rw [← newBy_before]
    omega
theorem sum_sub (n : Nat) (f g : Nat → Int) : ((List.range n).map fun i => f i - g i).sum = ((List.range n).map f).sum - ((List.range n).map g).sum := by
  induction n with
  | zero => rfl
  | succ n ih => rw [List.range_succ, List.map_append, List.map_append, List.map_append, List.sum_append, List.sum_append, List.sum_append, ih]; simp; omega
theorem list_len {s : ShopR} {l : List OrdR} (hg : Good s) (hf : Fit s l) (k : Nat) : ((listTo s l k).length : Int) = ((List.range s.parts.length).map fun i => before s l k i).sum := by
  induction k with
  | zero =>
    have : ((List.range s.parts.length).map fun i => before s l 0 i).sum = 0 := by
      generalize s.parts.length = n
      induction n with
      | zero => rfl
      | succ n ih => rw [List.range_succ, List.map_append, List.sum_append, ih]; simp [before]
    rw [this]
    simp [listTo]
  | succ k ih =>
    rw [listTo_succ, List.length_append, Int.natCast_add, ih, news_len hg hf k _ (Nat.le_refl _), sum_sub s.parts.length (fun i => before s l (k + 1) i) (fun i => before s l k i)]
    omega
theorem sum_le (n : Nat) (f g : Nat → Int) (h : ∀ i, i < n → f i ≤ g i) : ((List.range n).map f).sum ≤ ((List.range n).map g).sum := by
  induction n with
  | zero => simp
  | succ n ih =>
    rw [List.range_succ, List.map_append, List.map_append, List.sum_append, List.sum_append]
    have := ih fun i hi => h i (by omega)
    have := h n (by omega)
    simp
    omega
theorem sum_const (n : Nat) (c : Int) : ((List.range n).map fun _ => c).sum = n * c := by
  induction n with
  | zero => simp
  | succ n ih => rw [List.range_succ, List.map_append, List.sum_append, ih]; simp [Int.add_mul]
theorem before_bd {s : ShopR} {l : List OrdR} (hg : Good s) (hf : Fit s l) {i : Nat} (hi : i < s.parts.length) (k : Nat) : 0 ≤ before s l k i ∧ before s l k i ≤ 450 := by
  unfold before
  split
  · omega
  · exact byy_bd hg hf hi _
theorem list_bd {s : ShopR} {l : List OrdR} (hg : Good s) (hf : Fit s l) (k : Nat) : (listTo s l k).length ≤ 1350 := by
  have h1 := list_len hg hf k
  have h2 := sum_le s.parts.length (fun i => before s l k i) (fun _ => 450) fun i hi => (before_bd hg hf hi k).2
  rw [sum_const] at h2
  have := hg.plen
  omega
/-- if the orders can be kept, there are not more castings than hours -/
theorem list_hours {s : ShopR} {l : List OrdR} (hg : Good s) (hf : Fit s l) (hc : canB s l = true) : (listTo s l s.hours.length).length ≤ 480 := by
  have h1 := list_len hg hf s.hours.length
  have hh := hg.hlen
  have h2 := sum_le s.parts.length (fun i => before s l s.hours.length i) (fun i => byy s l i ((s.hours.length - 1 : Nat) : Int) * (s.parts.getD i default).long) fun i hi => by
    have h3 := byy_bd hg hf hi ((s.hours.length - 1 : Nat) : Int)
    have h4 := (hg.part hi).long
    have h5 : byy s l i ((s.hours.length - 1 : Nat) : Int) * 1 ≤ byy s l i ((s.hours.length - 1 : Nat) : Int) * (s.parts.getD i default).long := Int.mul_le_mul_of_nonneg_left (by omega) (by omega)
    simp only [before]
    rw [if_neg (by omega)]
    omega
  have h3 : canB s l = true → first? s l = none := fun h => by simpa [canB] using h
  have h4 := fst?_none_spec (h3 hc) (s.hours.length - 1) (by omega)
  have h4 : ¬ 0 < over s l (s.hours.length - 1) := of_decide_eq_false h4
  unfold over at h4
  have h5 := (worked_bd hg (d := s.hours.length - 1) (by omega)).2
  unfold takes at h4
  omega

def leC (x y : Int × Int) : Prop := x.2 < y.2 ∨ (x.2 = y.2 ∧ x.1 ≤ y.1)
theorem news_mem {s : ShopR} {l : List OrdR} {d np : Nat} {x : Int × Int} (h : x ∈ newsOf s l d np) : x.2 = d ∧ 0 ≤ x.1 ∧ x.1 < np := by
  unfold newsOf at h
  obtain ⟨i, hi, hx⟩ := List.mem_flatMap.1 h
  rw [List.mem_range] at hi
  have := (List.mem_replicate.1 hx).2
  subst this
  simp
  omega
theorem news_order (s : ShopR) (l : List OrdR) (d np : Nat) : (newsOf s l d np).Pairwise leC := by
  unfold newsOf
  rw [List.pairwise_flatMap]
  refine ⟨fun i _ => List.pairwise_replicate.2 (.inr (.inr ⟨rfl, Int.le_refl _⟩)), ?_⟩
  refine List.pairwise_lt_range.imp ?_
  intro i j hij x hx y hy
  rw [(List.mem_replicate.1 hx).2, (List.mem_replicate.1 hy).2]
  exact .inr ⟨rfl, by simp; omega⟩
theorem list_order (s : ShopR) (l : List OrdR) (k : Nat) : (listTo s l k).Pairwise leC := by
  unfold listTo
  rw [List.pairwise_flatMap]
  refine ⟨fun d _ => news_order s l d _, ?_⟩
  refine List.pairwise_lt_range.imp ?_
  intro i j hij x hx y hy
  have h1 := (news_mem hx).1
  have h2 := (news_mem hy).1
  exact .inl (by omega)
theorem list_mem {s : ShopR} {l : List OrdR} {k : Nat} {x : Int × Int} (h : x ∈ listTo s l k) : 0 ≤ x.2 ∧ x.2 < k ∧ 0 ≤ x.1 ∧ x.1 < s.parts.length := by
  unfold listTo at h
  obtain ⟨d, hd, hx⟩ := List.mem_flatMap.1 h
  rw [List.mem_range] at hd
  have := news_mem hx
  omega

/-! ### when castings are done -/
def longOf (s : ShopR) (x : Int × Int) : Int := (s.parts.getD x.1.toNat default).long
def usedOf (s : ShopR) (xs : List (Int × Int)) : Int := (xs.map (longOf s)).sum
def castsC (s : ShopR) (u : Int) : List (Int × Int) → List (Int × Int)
  | [] => []
  | x :: r => (x.1, (done s (u + longOf s x) : Int)) :: castsC s (u + longOf s x) r
theorem castsFrom_eq (s : ShopR) : ∀ (l : List (Nat × Nat)) (u : Int), castsFrom s u l = castsC s u (l.map fun x => ((x.1 : Int), (x.2 : Int))) := by
  intro l
  induction l with
  | nil => intro u; rfl
  | cons x l ih =>
    intro u
    obtain ⟨a, b⟩ := x
    simp only [castsFrom, List.map_cons, castsC, longOf, Int.toNat_natCast]
    rw [ih]
theorem castsL_eq (s : ShopR) (l : List OrdR) : castsL s l = castsC s 0 (listTo s l s.hours.length) := by
  unfold castsL
  rw [castsFrom_eq, needs_map]
theorem usedOf_snoc (s : ShopR) (xs : List (Int × Int)) (x : Int × Int) : usedOf s (xs ++ [x]) = usedOf s xs + longOf s x := by
  simp [usedOf]
theorem castsC_snoc (s : ShopR) (x : Int × Int) : ∀ (xs : List (Int × Int)) (u : Int), castsC s u (xs ++ [x]) = castsC s u xs ++ [(x.1, (done s (u + usedOf s xs + longOf s x) : Int))] := by
  intro xs
  induction xs with
  | nil => intro u; simp [castsC, usedOf]
  | cons y ys ih =>
    intro u
    simp only [List.cons_append, castsC]
    rw [ih]
    simp [usedOf, Int.add_assoc]
theorem castsC_len (s : ShopR) : ∀ (xs : List (Int × Int)) (u : Int), (castsC s u xs).length = xs.length := by
  intro xs
  induction xs with
  | nil => intro u; rfl
  | cons x xs ih => intro u; simp [castsC, ih]
theorem usedOf_bd {s : ShopR} (hg : Good s) {xs : List (Int × Int)} (h : ∀ x ∈ xs, 0 ≤ x.1 ∧ x.1 < s.parts.length) : 0 ≤ usedOf s xs ∧ usedOf s xs ≤ 48 * xs.length := by
  induction xs with
  | nil => simp [usedOf]
  | cons x xs ih =>
    have h1 := ih fun y hy => h y (by simp [hy])
    have h2 := h x (by simp)
    have h3 := (hg.part (i := x.1.toNat) (by omega)).long
    have e : usedOf s (x :: xs) = longOf s x + usedOf s xs := by simp [usedOf]
    rw [e]
    unfold longOf
    simp only [List.length_cons]
    omega
end Go.Proofs.Ytkmaapkbonkjfaa
