/- Plain: what the reference's fewest finds is what the program's search finds. Plain: the lists of the reference, as they are laid; a row more in a slice of slices. Walks of the reference of the layer sheet: Wider, without. Walks of the reference of the layer sheet: Lists. Walks of the reference of the layer sheet: fewest, Proof, Wrong. -/
import Derived.Test.YtajdgdelhlfniaaGreatDoorGBd
import Derived.Test.YtajdgdelhlfniaaGreatDoorGPl
import Derived.Test.YtajdgdelhlfniaaGreatDoorGMx
import Derived.Test.YtajdgdelhlfniaaGreatDoorGSam
set_option linter.unusedSimpArgs false
set_option linter.unusedVariables false
namespace Go.Proofs.YtajdgdelhlfniaaGreatDoor

/-- all lists of m ascending numbers from i on, below n, in order -/
def listsR (n : Nat) : Nat → Nat → List (List Int)
  | 0, _ => [[]]
  | m + 1, i => (List.range (n - i)).flatMap fun j => (listsR n m (i + j + 1)).map fun r => ((i + j : Nat) : Int) :: r
theorem mem_listsR {n : Nat} : ∀ {m i : Nat} {l : List Int}, l ∈ listsR n m i ↔ InR n i l ∧ l.length = m := by
  intro m
  induction m with
  | zero =>
    intro i l
    unfold listsR
    rw [List.mem_singleton]
    constructor
    · rintro rfl; exact ⟨trivial, rfl⟩
    · rintro ⟨_, h⟩; exact List.eq_nil_of_length_eq_zero h
  | succ m ih =>
    intro i l
    unfold listsR
    rw [List.mem_flatMap]
    constructor
    · rintro ⟨j, hj, hl⟩
      have hj := List.mem_range.1 hj
      obtain ⟨r, hr, rfl⟩ := List.mem_map.1 hl
      obtain ⟨h1, h2⟩ := ih.1 hr
      exact ⟨⟨by omega, by omega, by rw [Int.toNat_natCast]; exact h1⟩, by simp [h2]⟩
    · rintro ⟨h1, h2⟩
      cases l with
      | nil => simp at h2
      | cons x l =>
        obtain ⟨a, b, c⟩ := h1
        refine ⟨x.toNat - i, List.mem_range.2 (by omega), List.mem_map.2 ⟨l, ih.2 ⟨?_, by simpa using h2⟩, ?_⟩⟩
        · rw [show i + (x.toNat - i) + 1 = x.toNat + 1 by omega]; exact c
        · rw [show i + (x.toNat - i) = x.toNat by omega, show ((x.toNat : Nat) : Int) = x by omega]
theorem lexLe_refl : ∀ l : List Int, lexLe l l
  | [] => trivial
  | _ :: l => .inr ⟨rfl, lexLe_refl l⟩
theorem lexLe_anti : ∀ {a b : List Int}, a.length = b.length → lexLe a b → lexLe b a → a = b
  | [], [], _, _, _ => rfl
  | [], _ :: _, h, _, _ => by simp at h
  | _ :: _, [], h, _, _ => by simp at h
  | x :: a, y :: b, h, h1, h2 => by
    rcases h1 with h1 | ⟨rfl, h1⟩
    · rcases h2 with h2 | ⟨e, _⟩ <;> omega
    · rcases h2 with h2 | ⟨_, h2⟩
      · omega
      · rw [lexLe_anti (by simpa using h) h1 h2]
theorem pairwise_flatMap {α β : Type} {R : β → β → Prop} {l : List α} {f : α → List β} (h1 : ∀ a ∈ l, (f a).Pairwise R) (h2 : l.Pairwise fun a b => ∀ x ∈ f a, ∀ y ∈ f b, R x y) : (l.flatMap f).Pairwise R := by
  induction l with
  | nil => simp
  | cons a l ih =>
    rw [List.flatMap_cons, List.pairwise_append]
    rw [List.pairwise_cons] at h2
    refine ⟨h1 a (by simp), ih (fun b hb => h1 b (by simp [hb])) h2.2, fun x hx y hy => ?_⟩
    obtain ⟨b, hb, hyb⟩ := List.mem_flatMap.1 hy
    exact h2.1 b hb x hx y hyb
theorem pairwise_map' {α β : Type} {R : β → β → Prop} {S : α → α → Prop} {f : α → β} (hf : ∀ a b, S a b → R (f a) (f b)) {l : List α} (h : l.Pairwise S) : (l.map f).Pairwise R := by
  induction l with
  | nil => simp
  | cons a l ih =>
    rw [List.pairwise_cons] at h
    rw [List.map_cons, List.pairwise_cons]
    refine ⟨fun y hy => ?_, ih h.2⟩
    obtain ⟨b, hb, rfl⟩ := List.mem_map.1 hy
    exact hf _ _ (h.1 b hb)
theorem pairwise_range (n : Nat) : (List.range n).Pairwise (fun a b => a < b) := List.pairwise_lt_range
theorem listsR_sorted {n : Nat} : ∀ {m i : Nat}, (listsR n m i).Pairwise lexLe := by
  intro m
  induction m with
  | zero => intro i; unfold listsR; simp
  | succ m ih =>
    intro i
    unfold listsR
    refine pairwise_flatMap (fun j _ => pairwise_map' (fun a b h => .inr ⟨rfl, h⟩) ih) ((pairwise_range _).imp fun {a b} hab x hx y hy => ?_)
    obtain ⟨r, _, rfl⟩ := List.mem_map.1 hx
    obtain ⟨r', _, rfl⟩ := List.mem_map.1 hy
    exact .inl (by omega)
/-- all lists, the shorter ones first -/
def manyL (n k : Nat) : List (List Int) := (List.range k).flatMap fun m => listsR n m 0
theorem manyL_snoc (n k : Nat) : manyL n (k + 1) = manyL n k ++ listsR n k 0 := by
  unfold manyL
  rw [List.range_succ, List.flatMap_append]
  simp
theorem mem_manyL {n k : Nat} {l : List Int} : l ∈ manyL n k ↔ InR n 0 l ∧ l.length < k := by
  unfold manyL
  rw [List.mem_flatMap]
  constructor
  · rintro ⟨m, hm, hl⟩
    have := List.mem_range.1 hm
    obtain ⟨h1, h2⟩ := mem_listsR.1 hl
    exact ⟨h1, by omega⟩
  · rintro ⟨h1, h2⟩
    exact ⟨l.length, List.mem_range.2 h2, mem_listsR.2 ⟨h1, rfl⟩⟩
theorem manyL_sorted (n k : Nat) : (manyL n k).Pairwise Lx := by
  refine pairwise_flatMap (fun m _ => listsR_sorted.imp_of_mem fun {a b} ha hb h => .inr ⟨?_, h⟩) ((pairwise_range _).imp fun {a b} hab x hx y hy => .inl ?_)
  · rw [(mem_listsR.1 ha).2, (mem_listsR.1 hb).2]
  · rw [(mem_listsR.1 hx).2, (mem_listsR.1 hy).2]; exact hab
theorem Lx.rfl' (l : List Int) : Lx l l := .inr ⟨rfl, lexLe_refl l⟩
theorem Lx.anti {a b : List Int} (h : Lx a b) (k : Lx b a) : a = b := by
  rcases h with h | ⟨h1, h2⟩
  · have := k.le; omega
  · rcases k with k | ⟨_, k2⟩
    · omega
    · exact lexLe_anti h1 h2 k2
theorem find_first {R : List Int → List Int → Prop} (hr : ∀ l, R l l) {p : List Int → Bool} : ∀ {L : List (List Int)} {m : List Int}, L.Pairwise R → L.find? p = some m → ∀ l ∈ L, p l = true → R m l := by
  intro L
  induction L with
  | nil => intro m _ h; simp at h
  | cons x L ih =>
    intro m hp hf l hl hpl
    rw [List.pairwise_cons] at hp
    rw [List.find?_cons] at hf
    cases hx : p x with
    | true =>
      rw [hx] at hf
      cases hf
      rcases List.mem_cons.1 hl with rfl | hl
      · exact hr _
      · exact hp.1 l hl
    | false =>
      rw [hx] at hf
      rcases List.mem_cons.1 hl with rfl | hl
      · rw [hx] at hpl; cases hpl
      · exact ih hp.2 hf l hl hpl
theorem InR.len {n : Nat} : ∀ {l : List Int} {i : Nat}, InR n i l → l.length + i ≤ max n i := by
  intro l
  induction l with
  | nil => intro i _; simp; omega
  | cons y l ih =>
    intro i h
    obtain ⟨h1, h2, h3⟩ := h
    have := ih h3
    simp only [List.length_cons]
    omega
theorem Least.uniq {Q : List Int → Prop} {n : Nat} {a b : List Int} (h : Least Q n a) (k : Least Q n b) : a = b := (h.least b k.inr k.ok).anti (k.least a h.inr h.ok)
/-- the first one of the shortest -/
theorem few_least {Q : List Int → Prop} {n : Nat} {p : List Int → Bool} (hp : ∀ l, InR n 0 l → (p l = true ↔ Q l)) {m : List Int} (hm : Least Q n m) : (manyL n (n + 1)).find? p = some m := by
  have hmem : ∀ l, InR n 0 l → l ∈ manyL n (n + 1) := fun l hl => mem_manyL.2 ⟨hl, by have := hl.len; omega⟩
  cases hf : (manyL n (n + 1)).find? p with
  | none =>
    have := List.find?_eq_none.1 hf m (hmem m hm.inr)
    exact absurd ((hp m hm.inr).2 hm.ok) this
  | some k =>
    have hk := List.mem_of_find?_eq_some hf
    have hpk := List.find?_some hf
    have hki := (mem_manyL.1 hk).1
    have hl : Least Q n k := ⟨hki, (hp k hki).1 hpk, fun l hl hq => find_first Lx.rfl' (manyL_sorted n (n + 1)) hf l (hmem l hl) ((hp l hl).2 hq)⟩
    rw [hl.uniq hm]
/-! ### the notes of a list -/
theorem refB_bad {s : ShR} (hg : Good s) {l : List Int} (hl : InR s.notes.length 0 l) : refB s (l.map fun j => s.notes.getD j.toNat default) 0 = false ↔ BadL s l := by
  have hok : ∀ x ∈ l.map fun j => s.notes.getD j.toNat default, NoteOK s.pts.length s.iv x := fun x hx => by
    obtain ⟨j, hj, rfl⟩ := List.mem_map.1 hx
    have := hl.mem j hj
    exact hg.notes _ (getD_mem (by omega) _)
  have h := refB_iff hg hok 0
  constructor
  · intro hb y ⟨h1, h2⟩
    rw [h.2 ⟨y, h1, fun x hx => by
      obtain ⟨j, hj, rfl⟩ := List.mem_map.1 hx
      exact h2 j hj⟩] at hb
    cases hb
  · intro hb
    cases hr : refB s (l.map fun j => s.notes.getD j.toNat default) 0 with
    | false => rfl
    | true =>
      obtain ⟨y, h1, h2⟩ := h.1 hr
      exact absurd ⟨h1, fun j hj => h2 _ (List.mem_map.2 ⟨j, hj, rfl⟩)⟩ (hb y)
/-- the numbers below n but those of a list -/
def withoutL (l : List Int) (n : Nat) : List Int := ((List.range n).filter fun (i : Nat) => !decide ((i : Int) ∈ l)).map fun (i : Nat) => (i : Int)
theorem withoutL_yes {l : List Int} {k : Nat} (h : (k : Int) ∈ l) : withoutL l (k + 1) = withoutL l k := by
  unfold withoutL
  rw [List.range_succ, List.filter_append, List.map_append]
  simp [h]
theorem withoutL_no {l : List Int} {k : Nat} (h : ¬ (k : Int) ∈ l) : withoutL l (k + 1) = withoutL l k ++ [(k : Int)] := by
  unfold withoutL
  rw [List.range_succ, List.filter_append, List.map_append]
  simp [h]
theorem withoutL_len (l : List Int) (k : Nat) : (withoutL l k).length ≤ k := by
  unfold withoutL
  rw [List.length_map]
  have := List.length_filter_le (fun i : Nat => !decide ((i : Int) ∈ l)) (List.range k)
  simpa using this
theorem mem_withoutL {l : List Int} {n : Nat} {j : Int} : j ∈ withoutL l n ↔ ∃ i : Nat, i < n ∧ (i : Int) ∉ l ∧ j = (i : Int) := by
  unfold withoutL
  simp only [List.mem_map, List.mem_filter, List.mem_range, Bool.not_eq_true', decide_eq_false_iff_not]
  exact ⟨fun ⟨i, ⟨h1, h2⟩, h3⟩ => ⟨i, h1, h2, h3.symm⟩, fun ⟨i, h1, h2, h3⟩ => ⟨i, ⟨h1, h2⟩, h3.symm⟩⟩
theorem refB_good {s : ShR} (hg : Good s) (l : List Int) : refB s ((withoutL l s.notes.length).map fun j => s.notes.getD j.toNat default) 0 = true ↔ GoodW s l := by
  have hok : ∀ x ∈ (withoutL l s.notes.length).map fun j => s.notes.getD j.toNat default, NoteOK s.pts.length s.iv x := fun x hx => by
    obtain ⟨j, hj, rfl⟩ := List.mem_map.1 hx
    obtain ⟨i, hi, _, rfl⟩ := mem_withoutL.1 hj
    exact hg.notes _ (getD_mem (by omega) _)
  rw [refB_iff hg hok 0]
  constructor
  · rintro ⟨y, h1, h2⟩
    exact ⟨y, h1, fun j hj hn => h2 _ (List.mem_map.2 ⟨(j : Int), mem_withoutL.2 ⟨j, hj, hn, rfl⟩, rfl⟩)⟩
  · rintro ⟨y, h1, h2⟩
    refine ⟨y, h1, fun x hx => ?_⟩
    obtain ⟨j, hj, rfl⟩ := List.mem_map.1 hx
    obtain ⟨i, hi, hn, rfl⟩ := mem_withoutL.1 hj
    exact h2 i hi hn
/-- what the reference asks of a list -/
def askR (s : ShR) (alone fit : Bool) (l : List Int) : Bool := refB s ((if alone = true then l else withoutL l s.notes.length).map fun j => s.notes.getD j.toNat default) 0 == fit
def fewR (s : ShR) (alone fit : Bool) : List Int := ((manyL s.notes.length (s.notes.length + 1)).find? (askR s alone fit)).getD []
theorem inr_all (n i : Nat) : ∀ k, i + k = n → InR n i ((List.range k).map fun j => ((i + j : Nat) : Int)) := by
  intro k
  induction k generalizing i with
  | zero => intro _; trivial
  | succ k ih =>
    intro h
    rw [List.range_succ_eq_map, List.map_cons, List.map_map]
    refine ⟨by omega, by omega, ?_⟩
    have h2 := ih (i + 1) (by omega)
    simp only [Nat.add_zero, Int.toNat_natCast]
    refine cast (congrArg _ ?_) h2
    refine List.map_congr_left fun j _ => ?_
    simp only [Function.comp]
    omega
theorem proof_ref {s : ShR} (hg : Good s) (h : fitsB s = false) : fewR s true false = proofF s := by
  have hbad : BadL s ((List.range s.notes.length).map fun j => ((0 + j : Nat) : Int)) := by
    intro y ⟨h1, h2⟩
    have : fitsB s = true := (fitsB_iff hg).2 ⟨y, h1, fun x hx => by
      obtain ⟨j, hj, rfl⟩ := List.getElem_of_mem hx
      have := h2 (j : Int) (List.mem_map.2 ⟨j, List.mem_range.2 hj, by simp⟩)
      unfold SaysAt at this
      rwa [Int.toNat_natCast, getD_at hj] at this⟩
    rw [h] at this
    cases this
  have hL := search_right hg (inr_all s.notes.length 0 _ (by omega)) hbad
  unfold fewR proofF
  rw [if_neg (by rw [valid_of_good hg]; simp), if_neg (by simp [h])]
  rw [few_least (Q := BadL s) (fun l hl => ?_) hL]
  · rfl
  · unfold askR
    rw [if_pos rfl, beq_iff_eq]
    exact refB_bad hg hl
theorem wrong_ref {s : ShR} (hg : Good s) : fewR s false true = wrongF s := by
  have hgood : GoodW s ((List.range s.notes.length).map fun j => ((0 + j : Nat) : Int)) :=
    ⟨fun _ => 0, (free_sol _).2 fun i _ => by simp, fun j hj hn => absurd (List.mem_map.2 ⟨j, List.mem_range.2 hj, by simp⟩) hn⟩
  have hL := search_left hg (inr_all s.notes.length 0 _ (by omega)) hgood
  unfold fewR wrongF
  rw [if_neg (by rw [valid_of_good hg]; simp)]
  rw [few_least (Q := GoodW s) (fun l hl => ?_) hL]
  · rfl
  · unfold askR
    rw [if_neg (by simp), beq_iff_eq]
    exact refB_good hg l
end Go.Proofs.YtajdgdelhlfniaaGreatDoor
namespace Go.Proofs.YtajdgdelhlfniaaGreatDoor
open Go.RowKit

def listsP (n m i k : Nat) : List (List Int) := (List.range k).flatMap fun j => (listsR n m (i + j + 1)).map fun r => ((i + j : Nat) : Int) :: r
theorem listsP_snoc (n m i k : Nat) : listsP n m i (k + 1) = listsP n m i k ++ (listsR n m (i + k + 1)).map fun r => ((i + k : Nat) : Int) :: r := by
  unfold listsP
  rw [List.range_succ, List.flatMap_append]
  simp
theorem listsR_succ (n m i : Nat) : listsR n (m + 1) i = listsP n m i (n - i) := rfl
theorem listsP_len {n m i : Nat} (h : ∀ i, (listsR n m i).length ≤ 2 ^ (n - i)) : ∀ k, k ≤ n - i → (listsP n m i k).length + 2 ^ (n - i - k) ≤ 2 ^ (n - i) := by
  intro k
  induction k with
  | zero => intro _; simp [listsP]
  | succ k ih =>
    intro hk
    have h1 := ih (by omega)
    have h2 := h (i + k + 1)
    rw [listsP_snoc, List.length_append, List.length_map]
    have e : n - i - k = (n - (i + k + 1)) + 1 := by omega
    have e2 : n - i - (k + 1) = n - (i + k + 1) := by omega
    rw [e, Nat.pow_succ] at h1
    rw [e2]
    omega
theorem listsR_len (n : Nat) : ∀ m i, (listsR n m i).length ≤ 2 ^ (n - i) := by
  intro m
  induction m with
  | zero => intro i; simpa [listsR] using Nat.one_le_two_pow
  | succ m ih =>
    intro i
    rw [listsR_succ]
    exact Nat.le_trans (Nat.le_add_right _ _) (listsP_len (i := i) ih (n - i) (Nat.le_refl _))
theorem pow_le {n i : Nat} (hn : n ≤ 12) : 2 ^ (n - i) ≤ 4096 := Nat.le_trans (Nat.pow_le_pow_right (by omega) (show n - i ≤ 12 by omega)) (by decide)
theorem listsR_small {n m i : Nat} (hn : n ≤ 12) : (listsR n m i).length ≤ 4096 := Nat.le_trans (listsR_len n m i) (pow_le hn)
theorem listsP_small {n m i k : Nat} (hn : n ≤ 12) (hk : k ≤ n - i) : (listsP n m i k).length ≤ 4096 :=
  Nat.le_trans (Nat.le_trans (Nat.le_add_right _ _) (listsP_len (listsR_len n m) (i := i) k hk)) (pow_le hn)
theorem lists_row {n m i : Nat} {l : List Int} (h : l ∈ listsR n m i) : l.length ≤ n := by
  have h1 := (mem_listsR.1 h).1.len
  have h2 := (mem_listsR.1 h).1
  cases l with
  | nil => simp
  | cons x l => obtain ⟨a, b, _⟩ := h2; simp only [List.length_cons] at h1 ⊢; omega

/-- a row more, in a slice of the call's own: what other blocks hold stays -/
theorem append_slh2 {base : Nat} {w : World} {v : Value} {xs : List SlH} (h : Own base 43 w v xs) (x : SlH) (hn : xs.length ≤ 100000) (hbase : base ≤ w.heap.size) :
    ∃ A c w', (Builtin.append_ #[96, 96] 96 #[v, .slice (some ⟨w.heap.size, 0, none⟩) 1 1]).run Tryz.prog (w.alloc (.cells #[x.val] 43)) = .ok (.slice A (xs.length + 1) c) w' ∧ Own base 43 w' (.slice A (xs.length + 1) c) (xs ++ [x]) ∧ Below base w w' ∧ w.heap.size ≤ w'.heap.size ∧
      (∀ k, k < w.heap.size → v.ownBlock ≠ some k → w'.heap[k]? = w.heap[k]?) ∧ (∀ g, (Value.slice A (xs.length + 1) c).ownBlock = some g → v.ownBlock = some g ∨ w.heap.size ≤ g) := by
  have hown := h.alloc (.cells #[x.val] 43)
  obtain ⟨v', w', hrun, ho, hg, hv⟩ := append_gen (E := (inferInstance : Enc SlH SlAt 1)) (P := Tryz.prog) (ty := 96) (bytes := 24) (t := 96) (by kernel_rfl) (by kernel_rfl) (by omega) (by intro y u hu; simp [Enc.enc] at hu; subst hu; rfl) (m := 1) (A := some ⟨w.heap.size, 0, none⟩) (c := 1) (ys := [x]) rfl hown (fun e => by cases e)
    (fun ad e j u hu => by
      cases e
      match j, hu with
      | 0, hu =>
        simp [Enc.enc] at hu
        subst hu
        rw [addr_at]
        exact cellOf (heap_alloc_new w _) 0 rfl
      | j + 1, hu => simp [Enc.enc] at hu) (by simp; unfold maxLen; omega) (by simp; omega) (by simp; omega)
  obtain ⟨A, c, rfl, _⟩ := ho.form
  rw [List.length_append, List.length_singleton] at hrun ho
  have hz : w.heap.size + 1 ≤ w'.heap.size := by simpa using hg.size
  refine ⟨A, c, w', by simpa using hrun, ho, ?_, by omega, fun k hk hne => ?_, fun g hg2 => ?_⟩
  · have h1 := (hown.grown hg).resolve_right (by simp; omega)
    exact ((Below.refl base w).alloc hbase _).trans h1
  · exact (hg.block k (by simp; omega) (fun e => hne e.symm)).trans (Below.heap_alloc w _ k hk)
  · rcases hv with e | e
    · exact .inl (e.symm.trans (by simpa using hg2))
    · refine .inr ?_
      rw [show (Value.slice A (xs ++ [x]).length c).ownBlock = some g by simpa using hg2] at e
      simp at e
      omega
end Go.Proofs.YtajdgdelhlfniaaGreatDoor
namespace Go.Proofs.YtajdgdelhlfniaaGreatDoor
open Go.RowKit

set_option maxRecDepth 100000 in
set_option maxHeartbeats 4000000 in
theorem rwider_ok {B : Nat} {w : World} {v : Value} {s : ShR} {n : Int} (he : errOf s = 0) (hw : IsWider s n) (hs : RdSh B w v s) (hn : Named s) (hB : B ≤ w.heap.size) :
    Calls Tryz.prog 36 #[v] w fun e w' => e = .returned (.tuple #[.int .i64 n, .int .i64 0]) ∧ Below w.heap.size w w' := by
  obtain ⟨vp, vn, rfl, hp, ho⟩ := id hs
  obtain ⟨Ap, cp, rfl, _⟩ := id hp
  obtain ⟨An, cn, rfl, _⟩ := id ho
  have HSR := Lib.hid (fun (X : World) (hb : Below w.heap.size w X) => hs.below (hb.mono hB))
  obtain ⟨W1, hW1, r1, z1, b1⟩ := box_any w #[.int .i64 s.iv, .slice Ap s.pts.length cp, .slice An s.notes.length cn] 25
  have HC : Hid (∀ Z : World, Below W1.heap.size W1 Z → Z.cell? ⟨w.heap.size, 0, none⟩ = some (.int .i64 s.iv) ∧ Z.cell? ⟨w.heap.size, 1, none⟩ = some (.slice Ap s.pts.length cp) ∧ Z.cell? ⟨w.heap.size, 2, none⟩ = some (.slice An s.notes.length cn) ∧ Below w.heap.size w Z) :=
    Lib.hid fun Z h => by
      have j1 := (h.block _ (lt_of_block r1)).trans r1
      exact ⟨cellOf j1 0 rfl, cellOf j1 1 rfl, cellOf j1 2 rfl, b1.trans (h.mono b1.size)⟩
  have HZ := Lib.hid (show w.heap.size ≤ W1.heap.size by omega)
  have hbx : Below W1.heap.size W1 W1 := Below.refl _ _
  obtain ⟨C0, C1, C2, hb⟩ := HC.out _ hbx
  clear hp ho r1 z1 b1
  have HCk := Lib.hid (fun (X : World) (hb : Below w.heap.size w X) => rcheck_any (HSR.out X hb) hn (Nat.le_trans hB hb.size))
  unfold checkV at HCk
  have heo : errOf s = (check s).2.2 := rfl
  rw [← heo] at HCk
  clear heo
  generalize (check s).1 = a1 at HCk
  generalize (check s).2.1 = a2 at HCk
  have hg := good_of_valid he
  have HGd := Lib.hid hg
  have HAl := Lib.hid (fun (X : World) (hb : Below w.heap.size w X) => rall_any (HSR.out X hb) (Nat.le_trans hB hb.size) (by have := hg.nlen; omega))
  have HBk := Lib.hid (fun (X : World) (hb : Below w.heap.size w X) (vi : Value) (mid : Int) (hm : 0 ≤ mid ∧ mid ≤ 18000) (hi : Rd IntAt 1 X.heap.size X vi (numL s.notes.length)) => rbounds_all (wd := mid) (HSR.out X hb) hg (Nat.le_trans hB hb.size) hi (Nat.le_refl _) hm)
  have HWi := Lib.hid hw
  rw [he] at HCk
  clear he hg hs hw
  go_enter Tryz.func36, Tryz.ntmps36
  go_upto_region 1 with (fail)
  rw [← hW1]
  clear hW1
  go_upto_region 2 with (go_at_call 17; (with_reducible refine Calls.mono (HCk.out _ hb) ?_); rintro e X ⟨rfl, h4⟩; replace hbx := hbx.trans (h4.mono hbx.size); clear C0 C1 C2 hb h4; obtain ⟨C0, C1, C2, hb⟩ := HC.out _ hbx)
  have HS0 := Lib.hid (searchW_start HGd.out)
  go_wp2
  clear C0 C1 C2 hb
  go_loopw [7, 8] (fun l h wr => ∃ lo hi : Int, l = .int .i64 lo ∧ h = .int .i64 hi ∧ SearchW s lo hi ∧ Below W1.heap.size W1 wr) (fun l h _ => (intOf h - intOf l).toNat)
  case atStart => exact ⟨0, 18000, rfl, rfl, HS0.out, hbx⟩
  case round =>
    clear hbx
    obtain ⟨lo, hi, rfl, rfl, hsw, hbx⟩ := hrel
    obtain ⟨C0, C1, C2, hb⟩ := HC.out _ hbx
    have l0 := hsw.lo0
    have l1 := hsw.le
    have l2 := hsw.hi9
    have HSw := Lib.hid hsw
    clear hsw
    by_cases hlt : lo < hi
    · have w1 : IntKind.i64.wrap (lo + hi) = lo + hi := IntWalk.i64_in _ (by omega)
      have w2 : (lo + hi).tdiv 2 = (lo + hi) / 2 := Int.tdiv_eq_ediv_of_nonneg (by omega)
      have w3 : IntKind.i64.wrap ((lo + hi) / 2) = (lo + hi) / 2 := IntWalk.i64_in _ (by omega)
      have m1 : lo ≤ (lo + hi) / 2 := by omega
      have m2 : (lo + hi) / 2 < hi := by omega
      go_upto_region 7 with (fail)
      clear w1 w2 w3
      generalize (lo + hi) / 2 = mid at *
      have HMd := Lib.hid (show 0 ≤ mid ∧ mid ≤ 18000 by omega)
      have HBd := Lib.hid (fun (X : World) (hb : Below w.heap.size w X) (vi : Value) (hi : Rd IntAt 1 X.heap.size X vi (numL s.notes.length)) => HBk.out X hb vi mid HMd.out hi)
      have HW := Lib.hid (refB_wide HGd.out mid)
      generalize refB s s.notes mid = f at *
      obtain ⟨wv, rfl⟩ : ∃ wv : World, wv = wr := ⟨_, rfl⟩
      have HWr := Lib.hid hb
      have QC0 := Lib.hid C0
      have QC1 := Lib.hid C1
      have QC2 := Lib.hid C2
      have hF := BnF.keeps w.heap.size s.notes.length (s.pts.length + 1) (fwM (s.pts.length + 1) (refM s s.notes mid)) f (fun kk => ([0, 0, 1, 0, 2, 2, 3, 0, 3, 0] : List Nat).getD kk 0) (fun jj => ([.agg #[.int .i64 s.iv, .slice Ap s.pts.length cp, .slice An s.notes.length cn], .agg #[.int .i64 s.iv, .slice Ap s.pts.length cp, .slice An s.notes.length cn], undef, .int .i64 mid, undef, undef, undef, .bool f, undef, .bool f] : List Value).getD jj undef)
      refine wp_region_ghost (BlI wv (BnF w.heap.size s.notes.length (s.pts.length + 1) (fwM (s.pts.length + 1) (refM s s.notes mid)) f (fun kk => ([0, 0, 1, 0, 2, 2, 3, 0, 3, 0] : List Nat).getD kk 0) (fun jj => ([.agg #[.int .i64 s.iv, .slice Ap s.pts.length cp, .slice An s.notes.length cn], .agg #[.int .i64 s.iv, .slice Ap s.pts.length cp, .slice An s.notes.length cn], undef, .int .i64 mid, undef, undef, undef, .bool f, undef, .bool f] : List Value).getD jj undef))) (by kernel_rfl) (by kernel_rfl) BlI.start ?_ ?_
      · refine ⟨?_, ?_, ?_, ?_, ?_, ?_, ?_, ?_, ?_, ?_, trivial⟩
        all_goals
          intro L vs X b hL hw hcl hI hf
        · have hb := hI.bel
          have e1 := hf.old 1 (by kernel_rfl)
          have qQC0 := (hb.cell (cell_lt QC0.out)).trans QC0.out
          have qQC1 := (hb.cell (cell_lt QC1.out)).trans QC1.out
          have qQC2 := (hb.cell (cell_lt QC2.out)).trans QC2.out
          refine wp_of_run (v := .agg #[.int .i64 s.iv, .slice Ap s.pts.length cp, .slice An s.notes.length cn]) (w' := X) (by unfold execOp; go_simp) ?_
          exact hI.read hF rfl
        · have hb := hI.bel
          have e1 := hf.old 1 (by kernel_rfl)
          have qQC0 := (hb.cell (cell_lt QC0.out)).trans QC0.out
          have qQC1 := (hb.cell (cell_lt QC1.out)).trans QC1.out
          have qQC2 := (hb.cell (cell_lt QC2.out)).trans QC2.out
          refine wp_of_run (v := .agg #[.int .i64 s.iv, .slice Ap s.pts.length cp, .slice An s.notes.length cn]) (w' := X) (by unfold execOp; go_simp) ?_
          exact hI.read hF rfl
        · have hb := hI.bel
          have h1 : L 1 = true := done_of hw 1 (by kernel_rfl)
          have e30 : b.tmps[30]?.getD undef = .agg #[.int .i64 s.iv, .slice Ap s.pts.length cp, .slice An s.notes.length cn] := (hf.new 1 30 rfl h1 (by simp)).trans (hI.fs 1 h1)
          refine wp_of_call (f := 70) (args := #[.agg #[.int .i64 s.iv, .slice Ap s.pts.length cp, .slice An s.notes.length cn]]) (run_call_clo (.func 70) _ _ rfl (c := #[]) rfl renter70 (by simp [eval_tmp e30])) ?_
          refine (HAl.out X (HWr.out.trans (hb.mono HWr.out.size))).mono ?_
          rintro e wz ⟨A, c, rfl, hr, hbz⟩
          exact ⟨_, rfl, hI.step hF hbz ⟨A, c, rfl, hr⟩⟩
        · have hb := hI.bel
          have e9 := hf.old 9 (by kernel_rfl)
          refine wp_of_run (v := .int .i64 mid) (w' := X) (by unfold execOp; go_simp) ?_
          exact hI.read hF rfl
        · have hb := hI.bel
          have h0 : L 0 = true := done_of hw 0 (by kernel_rfl)
          have e29 : b.tmps[29]?.getD undef = .agg #[.int .i64 s.iv, .slice Ap s.pts.length cp, .slice An s.notes.length cn] := (hf.new 0 29 rfl h0 (by simp)).trans (hI.fs 0 h0)
          have h2 : L 2 = true := done_of hw 2 (by kernel_rfl)
          obtain ⟨A2, c2, q2, r2⟩ := hI.fs 2 h2
          have e31 : b.tmps[31]?.getD undef = .slice A2 s.notes.length c2 := (hf.new 2 31 rfl h2 (by simp)).trans q2
          have h3 : L 3 = true := done_of hw 3 (by kernel_rfl)
          have e32 : b.tmps[32]?.getD undef = .int .i64 mid := (hf.new 3 32 rfl h3 (by simp)).trans (hI.fs 3 h3)
          refine wp_of_call (f := 69) (args := #[.agg #[.int .i64 s.iv, .slice Ap s.pts.length cp, .slice An s.notes.length cn], .slice A2 s.notes.length c2, .int .i64 mid]) (run_call_clo (.func 69) _ _ rfl (c := #[]) rfl renter69 (by simp [eval_tmp e29, eval_tmp e31, eval_tmp e32])) ?_
          refine (HBd.out X (HWr.out.trans (hb.mono HWr.out.size)) _ r2).mono ?_
          rintro e wz ⟨g, cg, R, C, rfl, hm, hbz⟩
          exact ⟨_, rfl, hI.step hF hbz ⟨g, cg, R, C, rfl, hm.mono (Nat.le_trans HWr.out.size hb.size)⟩⟩
        · have hb := hI.bel
          have h4 : L 4 = true := done_of hw 4 (by kernel_rfl)
          obtain ⟨g4, cg4, R4, C4, q4, r4⟩ := hI.fs 4 h4
          have e33 : b.tmps[33]?.getD undef = .tuple #[.slice (some ⟨g4, 0, none⟩) (s.pts.length + 1) cg4, .bool f] := (hf.new 4 33 rfl h4 (by simp)).trans q4
          refine wp_of_run (v := .tuple #[.slice (some ⟨g4, 0, none⟩) (s.pts.length + 1) cg4, .bool f]) (w' := X) (by unfold execOp; go_simp) ?_
          exact hI.read hF ⟨g4, cg4, R4, C4, rfl, r4⟩
        · have hb := hI.bel
          have h5 : L 5 = true := done_of hw 5 (by kernel_rfl)
          obtain ⟨g5, cg5, R5, C5, q5, r5⟩ := hI.fs 5 h5
          have e28 : b.tmps[28]?.getD undef = .tuple #[.slice (some ⟨g5, 0, none⟩) (s.pts.length + 1) cg5, .bool f] := (hf.new 5 28 rfl h5 (by simp)).trans q5
          refine wp_of_run (v := .slice (some ⟨g5, 0, none⟩) (s.pts.length + 1) cg5) (w' := X) (by unfold execOp; go_simp) ?_
          exact hI.read hF ⟨g5, cg5, R5, C5, rfl, r5⟩
        · have hb := hI.bel
          have h5 : L 5 = true := done_of hw 5 (by kernel_rfl)
          obtain ⟨g5, cg5, R5, C5, q5, r5⟩ := hI.fs 5 h5
          have e28 : b.tmps[28]?.getD undef = .tuple #[.slice (some ⟨g5, 0, none⟩) (s.pts.length + 1) cg5, .bool f] := (hf.new 5 28 rfl h5 (by simp)).trans q5
          refine wp_of_run (v := .bool f) (w' := X) (by unfold execOp; go_simp) ?_
          exact hI.read hF rfl
        · have hb := hI.bel
          have h6 : L 6 = true := done_of hw 6 (by kernel_rfl)
          obtain ⟨g6, cg6, R6, C6, q6, r6⟩ := hI.fs 6 h6
          have e34 : b.tmps[34]?.getD undef = .slice (some ⟨g6, 0, none⟩) (s.pts.length + 1) cg6 := (hf.new 6 34 rfl h6 (by simp)).trans q6
          refine wp_of_run (v := .slice (some ⟨g6, 0, none⟩) (s.pts.length + 1) cg6) (w' := X) (by unfold execOp; go_simp) ?_
          exact hI.read hF ⟨g6, cg6, R6, C6, rfl, r6⟩
        · have hb := hI.bel
          have h7 : L 7 = true := done_of hw 7 (by kernel_rfl)
          have e35 : b.tmps[35]?.getD undef = .bool f := (hf.new 7 35 rfl h7 (by simp)).trans (hI.fs 7 h7)
          refine wp_of_run (v := .bool f) (w' := X) (by unfold execOp; go_simp) ?_
          exact hI.read hF rfl
      · intro vs X hI
        obtain ⟨g, cg, R, C, e8, hm⟩ := hI.fs 8 rfl
        have e9 : vs 9 = .bool f := hI.fs 9 rfl
        have hbX := hI.bel
        clear hI hF
        simp [fill, slotOf, Act.put]
        simp only [Exit.inBlock, Exit.then]
        rw [e8, e9]
        clear e8 e9
        generalize vs 0 = yy0 at *
        generalize vs 1 = yy1 at *
        generalize vs 2 = yy2 at *
        generalize vs 3 = yy3 at *
        generalize vs 4 = yy4 at *
        generalize vs 5 = yy5 at *
        generalize vs 6 = yy6 at *
        generalize vs 7 = yy7 at *
        generalize vs 8 = yy8 at *
        generalize vs 9 = yy9 at *
        have HMx := Lib.hid hm
        replace hbx := hbx.trans (hbX.mono hbx.size)
        clear hm C0 C1 C2 hb hbX QC0 QC1 QC2 HWr
        obtain ⟨C0, C1, C2, hb⟩ := HC.out _ hbx
        clear HMx HBd
        have w4 : IntKind.i64.wrap (mid + 1) = mid + 1 := IntWalk.i64_in _ (by omega)
        cases f with
        | true =>
          have HSn := Lib.hid (HSw.out.low m1 m2 HW.out.symm)
          go_wp2
          go_roundw
          case rel => exact ⟨lo, mid, rfl, rfl, HSn.out, hbx⟩
          case measure => simp [intOf]; omega
        | false =>
          have HSn := Lib.hid (HSw.out.high HGd.out m1 m2 HW.out.symm)
          go_wp2
          go_roundw
          case rel => exact ⟨mid + 1, hi, rfl, rfl, HSn.out, hbx⟩
          case measure => simp [intOf]; omega
    · have hle : hi = lo := by omega
      have HE := Lib.hid (show n = lo by
        have h := HSw.out
        rw [hle] at h
        exact h.done HGd.out HWi.out)
      clear hle
      go_wp2
      go_ret2
      exact ⟨by rw [HE.out]; rfl, hb⟩

set_option maxRecDepth 100000 in
set_option maxHeartbeats 4000000 in
theorem rwider_err {B : Nat} {w : World} {v : Value} {s : ShR} (he : errOf s ≠ 0) (hs : RdSh B w v s) (hn : Named s) (hB : B ≤ w.heap.size) :
    Calls Tryz.prog 36 #[v] w fun e w' => e = .returned (.tuple #[.int .i64 0, .int .i64 (errOf s)]) ∧ Below w.heap.size w w' := by
  obtain ⟨vp, vn, rfl, hp, ho⟩ := id hs
  obtain ⟨Ap, cp, rfl, _⟩ := id hp
  obtain ⟨An, cn, rfl, _⟩ := id ho
  have HSR := Lib.hid (fun (X : World) (hb : Below w.heap.size w X) => hs.below (hb.mono hB))
  obtain ⟨W1, hW1, r1, z1, b1⟩ := box_any w #[.int .i64 s.iv, .slice Ap s.pts.length cp, .slice An s.notes.length cn] 25
  have HC : Hid (∀ Z : World, Below W1.heap.size W1 Z → Z.cell? ⟨w.heap.size, 0, none⟩ = some (.int .i64 s.iv) ∧ Z.cell? ⟨w.heap.size, 1, none⟩ = some (.slice Ap s.pts.length cp) ∧ Z.cell? ⟨w.heap.size, 2, none⟩ = some (.slice An s.notes.length cn) ∧ Below w.heap.size w Z) :=
    Lib.hid fun Z h => by
      have j1 := (h.block _ (lt_of_block r1)).trans r1
      exact ⟨cellOf j1 0 rfl, cellOf j1 1 rfl, cellOf j1 2 rfl, b1.trans (h.mono b1.size)⟩
  have HZ := Lib.hid (show w.heap.size ≤ W1.heap.size by omega)
  have hbx : Below W1.heap.size W1 W1 := Below.refl _ _
  obtain ⟨C0, C1, C2, hb⟩ := HC.out _ hbx
  clear hp ho r1 z1 b1
  have HCk := Lib.hid (fun (X : World) (hb : Below w.heap.size w X) => rcheck_any (HSR.out X hb) hn (Nat.le_trans hB hb.size))
  unfold checkV at HCk
  have heo : errOf s = (check s).2.2 := rfl
  rw [← heo] at HCk
  clear heo
  generalize (check s).1 = a1 at HCk
  generalize (check s).2.1 = a2 at HCk
  have hne : (errOf s != 0) = true := by simp [he]
  generalize errOf s = er at *
  clear he hs
  go_enter Tryz.func36, Tryz.ntmps36
  go_upto_region 1 with (fail)
  rw [← hW1]
  clear hW1
  go_wp2_with (go_at_call 17; (with_reducible refine Calls.mono (HCk.out _ hb) ?_); rintro e X ⟨rfl, h4⟩; replace hbx := hbx.trans (h4.mono hbx.size); clear C0 C1 C2 hb h4; obtain ⟨C0, C1, C2, hb⟩ := HC.out _ hbx)
  go_ret2
  exact ⟨rfl, hb⟩

set_option maxRecDepth 100000 in
set_option maxHeartbeats 4000000 in
theorem rwithout_any {B : Nat} {w : World} {v : Value} {l : List Int} (n : Nat) (h : Rd IntAt 1 B w v l) (hB : B ≤ w.heap.size) (hn : n ≤ 1000) (hl : l.length ≤ 1000000) :
    Calls Tryz.prog 100 #[.int .i64 n, v] w fun e w' => ∃ A c, e = .returned (.slice A (withoutL l n).length c) ∧ Rd IntAt 1 w'.heap.size w' (.slice A (withoutL l n).length c) (withoutL l n) ∧ Below w.heap.size w w' := by
  have HH : Hid (∀ (Z : World) (_ : Below w.heap.size w Z) (x : Int), Calls Tryz.prog 48 #[v, .int .i64 x] Z fun e w' => e = .returned (.bool (decide (x ∈ l))) ∧ Z = w') := Lib.hid fun Z hZ x => has_any (h.below (hZ.mono hB)) hl x
  obtain ⟨Al, cl, rfl, _⟩ := h
  go_enter Tryz.func100, Tryz.ntmps100
  go_wp2
  go_loopw [5, 6] (fun lv i wr => ∃ (k len : Nat) (A : Option Addr) (c : Nat), k ≤ n ∧ i = .int .i64 k ∧ lv = .slice A len c ∧ (withoutL l k).length = len ∧ Own w.heap.size 3 wr (.slice A len c) (withoutL l k) ∧ Below w.heap.size w wr) (fun _ i _ => n - (intOf i).toNat)
  case atStart => exact ⟨0, 0, none, 0, Nat.zero_le _, rfl, rfl, rfl, Own.nil _ _ _, Below.refl _ _⟩
  case round =>
    obtain ⟨k, len, A, c, hk, rfl, rfl, hln, hown, hbr⟩ := hrel
    have HLn := Lib.hid hln
    have Hown := Lib.hid hown
    have Hbr := Lib.hid hbr
    clear hown hln
    by_cases hlt : k < n
    · have HT := Lib.hid (HH.out wr hbr (k : Int))
      clear hbr
      have HLe := Lib.hid (withoutL_len l k)
      by_cases hm : (k : Int) ∈ l
      · rw [decide_eq_true hm] at HT
        have HY := Lib.hid (withoutL_yes hm)
        clear hm
        go_wp2_with (go_at_call 48; (with_reducible refine Calls.mono HT.out ?_); rintro e X ⟨rfl, hX⟩; subst hX)
        go_roundw
        case rel => exact ⟨k + 1, len, A, c, by omega, by go_num, rfl, by rw [HY.out]; exact HLn.out, by rw [HY.out]; exact Hown.out, Hbr.out⟩
        case measure => simp [intOf]; omega
      · rw [decide_eq_false hm] at HT
        have HY := Lib.hid (withoutL_no hm)
        clear hm
        generalize withoutL l k = q at *
        obtain ⟨A2, c2', w2, hrun, hown2, hb2, _⟩ := append_int Hown.out (k : Int) (by have := HLe.out; omega) Hbr.out.size
        rw [HLn.out] at hrun hown2
        have Hown2 := Lib.hid hown2
        have Hb2 := Lib.hid (Hbr.out.trans hb2)
        clear hown2 hb2
        go_wp2_with (first | (go_at_call 48; (with_reducible refine Calls.mono HT.out ?_); rintro e X ⟨rfl, hX⟩; subst hX) | (at_builtin; refine wpList_append_run rfl _ _ _ rfl rfl rfl hrun ?_))
        go_roundw
        case rel => exact ⟨k + 1, len + 1, A2, c2', by omega, by go_num, rfl, by rw [HY.out, List.length_append, HLn.out]; rfl, by rw [HY.out]; exact Hown2.out, Hb2.out⟩
        case measure => simp [intOf]; omega
    · have hkn : k = n := by omega
      subst hkn
      clear hbr
      go_wp2
      go_ret
      refine ⟨A, c, ?_, ?_, Hbr.out⟩
      · rw [HLn.out]; rfl
      · rw [HLn.out]
        have := Hown.out.rd
        exact this

end Go.Proofs.YtajdgdelhlfniaaGreatDoor
namespace Go.Proofs.YtajdgdelhlfniaaGreatDoor
open Go.RowKit

theorem RowsO.stay {base lo hi : Nat} {w w' : World} {hs : List SlH} {xss : List (List Int)} (h : RowsO base w hs xss) (hb : lo ≤ base) (hw : w.heap.size ≤ hi) (hk : ∀ k, lo ≤ k → k < hi → w'.heap[k]? = w.heap[k]?) : RowsO base w' hs xss :=
  h.keep fun b cs f hbb hh => (hk b (Nat.le_trans hb hbb) (Nat.lt_of_lt_of_le (lt_of_block hh) hw)).trans hh
theorem Own.stay {α : Type} {At : World → Addr → α → Prop} {sz : Nat} [E : Enc α At sz] {base lo hi : Nat} {T : TypeId} {w w' : World} {v : Value} {xs : List α} (h : Own base T w v xs) (hb : lo ≤ base) (hw : w.heap.size ≤ hi) (hk : ∀ k, lo ≤ k → k < hi → w'.heap[k]? = w.heap[k]?) : Own base T w' v xs :=
  h.keepD fun b cs f hbb hh => (hk b (Nat.le_trans hb hbb) (Nat.lt_of_lt_of_le (lt_of_block hh) hw)).trans hh
theorem own_type {α : Type} {At : World → Addr → α → Prop} {sz : Nat} [E : Enc α At sz] {base : Nat} {T : TypeId} {w : World} {v : Value} {xs : List α} (h : Own base T w v xs) {g : Nat} (hg : v.ownBlock = some g) : ∃ cs, w.heap[g]? = some (.cells cs T) := by
  rcases h with ⟨_, ⟨rfl, _⟩ | ⟨g', cap, cur, rfl, hle, hh, _⟩⟩
  · cases hg
  · simp only [Value.ownBlock, Option.some.injEq] at hg
    subst hg
    exact ⟨cur, hh⟩

set_option maxRecDepth 100000 in
set_option maxHeartbeats 4000000 in
theorem lists_any {n : Nat} (hn : n ≤ 12) : ∀ (m i : Nat), i ≤ n → m ≤ 100 → ∀ w : World, Calls Tryz.prog 99 #[.int .i64 i, .int .i64 n, .int .i64 m] w fun e w' => ∃ (A : Option Addr) (c : Nat) (hs : List SlH),
    e = .returned (.slice A (listsR n m i).length c) ∧ Own w.heap.size 43 w' (.slice A (listsR n m i).length c) hs ∧ RowsO w.heap.size w' hs (listsR n m i) ∧ Below w.heap.size w w' := by
  intro m
  induction m with
  | zero =>
    intro i hi _ w
    have HO := Lib.hid (own_lit (α := SlH) (w := w.alloc (.cells #[.slice none 0 0] 43)) (b := w.heap.size) (e := 43) [⟨none, 0, 0⟩] (by simp) (heap_alloc_new w _))
    go_enter Tryz.func99, Tryz.ntmps99
    go_wp2
    go_ret
    refine ⟨_, _, [⟨none, 0, 0⟩], rfl, HO.out, ⟨rfl, fun j x xs h1 h2 => ?_, fun j k x y h1 h2 hne g hg => ?_⟩, (Below.refl _ _).alloc (Nat.le_refl _) _⟩
    · match j, h1, h2 with
      | 0, h1, h2 =>
        simp [listsR] at h1 h2
        subst h1 h2
        exact Own.nil _ _ _
      | j + 1, h1, _ => simp at h1
    · match j, h1 with
      | 0, h1 => simp at h1; subst h1; cases hg
      | j + 1, h1 => simp at h1
  | succ m ih =>
    intro i hi hm w
    obtain ⟨mi, hmi⟩ : ∃ mi : Int, ((m + 1 : Nat) : Int) = mi := ⟨_, rfl⟩
    rw [hmi]
    have hne : (mi == 0) = false := by simp; omega
    have w2 : IntKind.i64.wrap (mi - 1) = (m : Int) := by rw [IntWalk.i64_in _ (by omega)]; omega
    clear hmi
    have HIH := Lib.hid ih
    clear ih
    go_enter Tryz.func99, Tryz.ntmps99
    go_wp2
    go_loopw [7, 8, 9, 10] (fun lv x _ _ wr => ∃ (k len : Nat) (A : Option Addr) (c : Nat) (hs : List SlH), k ≤ n - i ∧ x = .int .i64 ((i + k : Nat) : Int) ∧ lv = .slice A len c ∧ (listsP n m i k).length = len ∧ Own w.heap.size 43 wr (.slice A len c) hs ∧ RowsO w.heap.size wr hs (listsP n m i k) ∧ Below w.heap.size w wr) (fun _ x _ _ _ => n - (intOf x).toNat)
    case atStart => exact ⟨0, 0, none, 0, [], Nat.zero_le _, rfl, rfl, rfl, Own.nil _ _ _, RowsO.nil _ _, Below.refl _ _⟩
    case round =>
      obtain ⟨k, len, A, c, hs, hk, rfl, rfl, hln, hown, hrows, hbr⟩ := hrel
      have HLn := Lib.hid hln
      have Hown := Lib.hid hown
      have Hrows := Lib.hid hrows
      have Hbr := Lib.hid hbr
      have HLe := Lib.hid (listsP_small (m := m) hn hk)
      clear hown hrows hbr hln
      generalize hx : i + k = x at *
      have Hx := Lib.hid hx
      clear hx
      by_cases hlt : x < n
      · have hkn : k < n - i := by have := Hx.out; omega
        have w1 : IntKind.i64.wrap ((x : Int) + 1) = (x : Int) + 1 := IntWalk.i64_in _ (by omega)
        have HC := Lib.hid (show Calls Tryz.prog 99 #[.int .i64 ((x : Int) + 1), .int .i64 n, .int .i64 m] wr _ from HIH.out (x + 1) (by omega) (by omega) wr)
        have HSn := Lib.hid (listsP_snoc n m i k)
        rw [Hx.out] at HSn
        have HRl := Lib.hid (fun (l : List Int) (hl : l ∈ listsR n m (x + 1)) => lists_row hl)
        have HRs := Lib.hid (listsR_small (m := m) (i := x + 1) hn)
        generalize listsR n m (x + 1) = Rs at *
        generalize listsP n m i k = P at *
        obtain ⟨L, hL⟩ : ∃ L, Rs.length = L := ⟨_, rfl⟩
        rw [hL] at HC HRs
        have HL := Lib.hid hL
        clear hL
        go_upto_region 8 with (go_at_call 99; (with_reducible refine Calls.mono HC.out ?_); rintro e w2 ⟨A2, c2, hs2, rfl, ho2, hr2, hb2⟩)
        have HO2 := Lib.hid ho2
        have HR2 := Lib.hid hr2
        have HB2 := Lib.hid hb2
        have hL4 := HRs.out
        have hP4 := HLe.out
        have hlen := HLn.out
        have hlo : ∀ g, (Value.slice A len c).ownBlock = some g → g < wr.heap.size ∨ w2.heap.size ≤ g := fun g hg => .inl (World.ownsRow.lt Hown.out g hg).2
        have HLo := Lib.hid hlo
        have HOw := Lib.hid (Hown.out.below hb2)
        have HRw := Lib.hid (Hrows.out.below hb2)
        have HBw := Lib.hid (Hbr.out.trans (hb2.mono Hbr.out.size))
        have HBs := Lib.hid Hbr.out.size
        clear ho2 hr2 hb2 hlo HC Hown Hrows Hbr HIH
        go_wp2
        obtain ⟨wo, rfl⟩ : ∃ wo : World, wo = wr := ⟨_, rfl⟩
        go_loopw [7, 10] (fun lv q wr => ∃ (p ln : Nat) (A' : Option Addr) (c' : Nat) (hs' : List SlH), p ≤ L ∧ q = .int .i64 p ∧ lv = .slice A' ln c' ∧ ln = len + p ∧ Own w.heap.size 43 wr (.slice A' ln c') hs' ∧ RowsO w.heap.size wr hs' (P ++ (Rs.take p).map fun r => (x : Int) :: r) ∧ Below w.heap.size w wr ∧ (∀ k, wo.heap.size ≤ k → k < w2.heap.size → wr.heap[k]? = w2.heap[k]?) ∧ w2.heap.size ≤ wr.heap.size ∧ (∀ g, (Value.slice A' ln c').ownBlock = some g → g < wo.heap.size ∨ w2.heap.size ≤ g)) (fun _ q _ => L - (intOf q).toNat)
        case atStart => exact ⟨0, len, A, c, hs, Nat.zero_le _, rfl, rfl, rfl, HOw.out, by simpa using HRw.out, HBw.out, fun _ _ _ => rfl, Nat.le_refl _, HLo.out⟩
        case round =>
          obtain ⟨p, ln, A', c', hs', hp, rfl, rfl, hln, hown, hrows, hbr, hmid, hsz, hlo⟩ := hrel
          have hlh : hs'.length = ln := by rw [hrows.len, List.length_append, List.length_map, List.length_take, HL.out]; omega
          have HLn2 := Lib.hid hln
          have hln4 : ln ≤ 8192 := by omega
          clear hln
          by_cases hpl : p < L
          · have hpr : p < Rs.length := by rw [HL.out]; exact hpl
            obtain ⟨row, hrow⟩ : ∃ row, Rs[p]? = some row := ⟨_, List.getElem?_eq_getElem hpr⟩
            have hrl := HRl.out row (List.mem_of_getElem? hrow)
            obtain ⟨ad, ⟨ya, yn, yc⟩, hA2, _, hc, hyn, hrd⟩ := (HR2.out.stay (Nat.le_refl _) (Nat.le_refl _) hmid).read ((HO2.out.stay (Nat.le_refl _) (Nat.le_refl _) hmid).rd) hrow
            subst hA2
            simp only at hyn
            subst hyn
            replace hrd : Rd IntAt 1 wr.heap.size wr (.slice ya row.length yc) row := hrd
            have E0 : Own wr.heap.size 3 (wr.alloc (.cells #[.int .i64 x] 3)) (.slice (some ⟨wr.heap.size, 0, none⟩) 1 1) [(x : Int)] := own_lit (α := Int) [(x : Int)] (by simp) (heap_alloc_new wr _)
            have hbE : Below wr.heap.size wr (wr.alloc (.cells #[.int .i64 x] 3)) := (Below.refl _ _).alloc (Nat.le_refl _) _
            obtain ⟨A3, c3, w3', hrun1, hown1, hb1, hz1⟩ := append_ints E0 (hrd.alloc (Nat.le_refl _) _) (by simp; omega) (by simp)
            have hc1 := (hbE.cell (cell_lt hc)).trans hc
            rw [List.length_singleton] at hrun1 hown1
            obtain ⟨nl, hnl⟩ : ∃ nl, 1 + row.length = nl := ⟨_, rfl⟩
            rw [hnl] at hrun1 hown1
            have hb01 : Below wr.heap.size wr w3' := hbE.trans hb1
            have hown3 := hown.below hb01
            obtain ⟨A4, c4, w4, hrun2, ho4, hb4, hz4, hk4, hg4⟩ := append_slh2 hown3 ⟨A3, nl, c3⟩ (by rw [hlh]; omega) (Nat.le_trans hbr.size hz1)
            rw [hlh] at hrun2 ho4 hg4
            have hkeep3 : ∀ (b : Nat) (cs : Array Value) (f : Nat × Nat), wr.heap[b]? = some (.cells cs 3 f) → w4.heap[b]? = some (.cells cs 3 f) := fun b cs f hh => by
              have h3 := (hb01.block b (lt_of_block hh)).trans hh
              refine (hk4 b (lt_of_block h3) (fun e => ?_)).trans h3
              obtain ⟨cs', hcs'⟩ := own_type hown3 e
              rw [h3] at hcs'
              cases hcs'
            have HRows := Lib.hid (show RowsO w.heap.size w4 (hs' ++ [⟨A3, nl, c3⟩]) (P ++ (Rs.take (p + 1)).map fun r => (x : Int) :: r) by
              have h := RowsO.snoc (B := wr.heap.size) hrows (fun b cs f _ hh => hkeep3 b cs f hh) hbr.size (Nat.le_refl _) (x := ⟨A3, nl, c3⟩) (xs := [(x : Int)] ++ row) (hown1.keepD fun b cs f hb hh => by
                refine (hk4 b (lt_of_block hh) (fun e => ?_)).trans hh
                obtain ⟨cs', hcs'⟩ := own_type hown3 e
                rw [hh] at hcs'
                cases hcs')
              rw [List.take_add_one, hrow, List.map_append, ← List.append_assoc]
              exact h)
            have HOwn := Lib.hid ho4
            have HBr := Lib.hid (hbr.trans ((hb01.mono hbr.size).trans hb4))
            have HMd := Lib.hid (show ∀ k, wo.heap.size ≤ k → k < w2.heap.size → w4.heap[k]? = w2.heap[k]? from fun k h1 h2 => by
              have h3 : k < wr.heap.size := by omega
              refine (hk4 k (Nat.lt_of_lt_of_le h3 hb01.size) (fun e => ?_)).trans ((hb01.block k h3).trans (hmid k h1 h2))
              rcases hlo k e with h | h <;> omega)
            have HSz := Lib.hid (show w2.heap.size ≤ w4.heap.size by have := hb01.size; omega)
            have HLo2 := Lib.hid (show ∀ g, (Value.slice A4 (ln + 1) c4).ownBlock = some g → g < wo.heap.size ∨ w2.heap.size ≤ g from fun g hg => by
              rcases hg4 g hg with h | h
              · exact hlo g h
              · have := hb01.size; exact .inr (by omega))
            have hsv : SlH.val ⟨A3, nl, c3⟩ = .slice A3 nl c3 := rfl
            rw [hsv] at hrun2
            have hcv : SlH.val ⟨ya, row.length, yc⟩ = .slice ya row.length yc := rfl
            rw [hcv] at hc hc1
            clear hown hrows hbr hmid hsz hlo hlh E0 hbE hown1 hb1 hz1 hb01 hown3 ho4 hb4 hz4 hk4 hg4 hkeep3 hsv hcv hrd hnl
            go_wp2_with (first | (at_builtin; refine wpList_append_run rfl (.tmp 34) (.tmp 38) 43 rfl rfl rfl hrun1 ?_) | (at_builtin; refine wpList_append_run rfl (.tmp 32) (.tmp 40) 96 rfl rfl rfl hrun2 ?_))
            go_roundw
            case rel => exact ⟨p + 1, ln + 1, A4, c4, _, by omega, by go_num, rfl, by have := HLn2.out; omega, HOwn.out, HRows.out, HBr.out, HMd.out, HSz.out, HLo2.out⟩
            case measure => simp [intOf]; omega
          · have hpe : p = L := by omega
            subst hpe
            have HOwn := Lib.hid hown
            have HRows := Lib.hid hrows
            have HBr := Lib.hid hbr
            clear hown hrows hbr hmid hsz hlo hlh
            go_wp2
            go_roundw
            case rel =>
              refine ⟨k + 1, ln, A', c', hs', by omega, by have := Hx.out; congr 1; omega, rfl, ?_, HOwn.out, ?_, HBr.out⟩
              · rw [HSn.out, List.length_append, List.length_map, HL.out, hlen, HLn2.out]
              · rw [HSn.out]
                have h := HRows.out
                rw [← HL.out, List.take_length] at h
                exact h
            case measure => have := Hx.out; simp [intOf]; omega
      · have hke : k = n - i := by have := Hx.out; omega
        have HR := Lib.hid (show listsR n (m + 1) i = listsP n m i k by rw [hke]; rfl)
        clear hke
        go_wp2
        go_ret
        refine ⟨A, c, hs, ?_, ?_, ?_, Hbr.out⟩
        · rw [HR.out, HLn.out]; rfl
        · rw [HR.out, HLn.out]; exact Hown.out
        · rw [HR.out]; exact Hrows.out
end Go.Proofs.YtajdgdelhlfniaaGreatDoor
namespace Go.Proofs.YtajdgdelhlfniaaGreatDoor
open Go.RowKit

theorem renter100 : ∀ args w, (callFunc 100 args).run Tryz.prog w = .ok (.enter 100 args) w := enters_of Tryz.func100 (by kernel_rfl) rfl
theorem few_found {s : ShR} {a f : Bool} {m q : Nat} {l : List Int} (hm : m ≤ s.notes.length) (h0 : ∀ l ∈ manyL s.notes.length m, askR s a f l = false) (h1 : ∀ l' ∈ (listsR s.notes.length m 0).take q, askR s a f l' = false) (h2 : (listsR s.notes.length m 0)[q]? = some l) (h3 : askR s a f l = true) : fewR s a f = l := by
  have e1 : manyL s.notes.length (s.notes.length + 1) = manyL s.notes.length m ++ (List.range (s.notes.length + 1 - m)).flatMap fun j => listsR s.notes.length (m + j) 0 := by
    unfold manyL
    rw [show s.notes.length + 1 = m + (s.notes.length + 1 - m) by omega, List.range_add, List.flatMap_append]
    congr 1
    rw [List.flatMap_map]
    congr 1
    rw [show m + (s.notes.length + 1 - m) - m = s.notes.length + 1 - m by omega]
  obtain ⟨k, hk⟩ : ∃ k, s.notes.length + 1 - m = k + 1 := ⟨s.notes.length - m, by omega⟩
  have e2 : listsR s.notes.length m 0 = (listsR s.notes.length m 0).take q ++ l :: (listsR s.notes.length m 0).drop (q + 1) := by
    obtain ⟨hq, e⟩ := List.getElem?_eq_some_iff.1 h2
    rw [← e, ← List.drop_eq_getElem_cons hq, List.take_append_drop]
  unfold fewR
  rw [e1, hk, List.range_succ_eq_map, List.flatMap_cons, Nat.add_zero, e2, List.find?_append, List.find?_eq_none.2 (fun l hl => by rw [h0 l hl]; simp), Option.none_or, List.append_assoc, List.find?_append,
    List.find?_eq_none.2 (fun l hl => by rw [h1 l hl]; simp), Option.none_or, List.cons_append, List.find?_cons, h3]
  rfl

set_option maxRecDepth 100000 in
set_option maxHeartbeats 4000000 in
theorem rfewest_true {B : Nat} {w : World} {v : Value} {s : ShR} (hs : RdSh B w v s) (hg : Good s) (hB : B ≤ w.heap.size) :
    Calls Tryz.prog 75 #[v, .bool true, .bool false] w fun e w' => ∃ A c, e = .returned (.slice A (fewR s true false).length c) ∧ Rd IntAt 1 w'.heap.size w' (.slice A (fewR s true false).length c) (fewR s true false) ∧ Below w.heap.size w w' := by
  obtain ⟨vp, vn, rfl, hp, ho⟩ := id hs
  obtain ⟨Ap, cp, rfl, _⟩ := id hp
  obtain ⟨An, cn, rfl, _⟩ := id ho
  have HSR := Lib.hid (fun (X : World) (hb : Below w.heap.size w X) => hs.below (hb.mono hB))
  obtain ⟨W1, hW1, r1, z1, b1⟩ := box_any w #[.int .i64 s.iv, .slice Ap s.pts.length cp, .slice An s.notes.length cn] 25
  have HC : Hid (∀ Z : World, Below W1.heap.size W1 Z → Z.cell? ⟨w.heap.size, 0, none⟩ = some (.int .i64 s.iv) ∧ Z.cell? ⟨w.heap.size, 1, none⟩ = some (.slice Ap s.pts.length cp) ∧ Z.cell? ⟨w.heap.size, 2, none⟩ = some (.slice An s.notes.length cn) ∧ Below w.heap.size w Z) :=
    Lib.hid fun Z h => by
      have j1 := (h.block _ (lt_of_block r1)).trans r1
      exact ⟨cellOf j1 0 rfl, cellOf j1 1 rfl, cellOf j1 2 rfl, b1.trans (h.mono b1.size)⟩
  have HZ := Lib.hid (show w.heap.size ≤ W1.heap.size by omega)
  have hbx : Below W1.heap.size W1 W1 := Below.refl _ _
  obtain ⟨C0, C1, C2, hb⟩ := HC.out _ hbx
  clear hp ho r1 z1 b1
  have HGd := Lib.hid hg
  have hnl := hg.nlen
  clear hs hg
  go_enter Tryz.func75, Tryz.ntmps75
  go_upto_region 1 with (fail)
  rw [← hW1]
  clear hW1
  go_wp2
  clear C0 C1 C2 hb
  go_loopw [7, 8, 9, 10, 11, 12] (fun m _ _ _ _ _ wr => ∃ k : Nat, k ≤ s.notes.length + 1 ∧ m = .int .i64 k ∧ (∀ l ∈ manyL s.notes.length k, askR s true false l = false) ∧ Below W1.heap.size W1 wr) (fun m _ _ _ _ _ _ => s.notes.length + 1 - (intOf m).toNat)
  case atStart => exact ⟨0, Nat.zero_le _, rfl, fun l hl => by simp [manyL] at hl, hbx⟩
  case round =>
    clear hbx
    obtain ⟨m, hm, rfl, hno, hbx⟩ := hrel
    obtain ⟨C0, C1, C2, hb⟩ := HC.out _ hbx
    have HNo := Lib.hid hno
    clear hno
    by_cases hml : m ≤ s.notes.length
    · have HLs := Lib.hid (show ∀ Z, Calls Tryz.prog 99 #[.int .i64 0, .int .i64 s.notes.length, .int .i64 m] Z _ from fun Z => lists_any (n := s.notes.length) (by omega) m 0 (Nat.zero_le _) (by omega) Z)
      have HSn := Lib.hid (manyL_snoc s.notes.length m)
      have HIn := Lib.hid (show ∀ l, l ∈ listsR s.notes.length m 0 → InR s.notes.length 0 l from fun l hl => (mem_listsR.1 hl).1)
      have HFd := Lib.hid (show ∀ (q : Nat) (l : List Int), (∀ l' ∈ (listsR s.notes.length m 0).take q, askR s true false l' = false) → (listsR s.notes.length m 0)[q]? = some l → askR s true false l = true → fewR s true false = l from fun q l h1 h2 h3 => few_found hml HNo.out h1 h2 h3)
      have HLL := Lib.hid (listsR_small (m := m) (i := 0) (show s.notes.length ≤ 12 from hnl))
      generalize listsR s.notes.length m 0 = Rs at *
      obtain ⟨L, hL⟩ : ∃ L, Rs.length = L := ⟨_, rfl⟩
      rw [hL] at HLs HLL
      have HL := Lib.hid hL
      clear hL
      go_upto_region 5 with (go_at_call 99; (with_reducible refine Calls.mono (HLs.out _) ?_); rintro e w2 ⟨A2, c2, hs2, rfl, ho2, hr2, h4⟩; replace hbx := hbx.trans (h4.mono hbx.size); clear C0 C1 C2 hb h4; obtain ⟨C0, C1, C2, hb⟩ := HC.out _ hbx)
      have HO2 := Lib.hid ho2
      have HR2 := Lib.hid hr2
      have hL4 := HLL.out
      clear ho2 hr2
      go_wp2
      clear C0 C1 C2 hb
      have Hbx := Lib.hid hbx
      clear hbx
      go_loopw [9, 10, 11, 12] (fun i _ _ _ wr => ∃ q : Nat, q ≤ L ∧ i = .int .i64 q ∧ (∀ l ∈ Rs.take q, askR s true false l = false) ∧ Below w2.heap.size w2 wr) (fun i _ _ _ _ => L - (intOf i).toNat)
      case atStart => exact ⟨0, Nat.zero_le _, rfl, fun l hl => by simp at hl, Below.refl _ _⟩
      case round =>
        obtain ⟨q, hq0, rfl, hno2, hq⟩ := hrel
        have HNo2 := Lib.hid hno2
        have hbx := Hbx.out.trans (hq.mono Hbx.out.size)
        obtain ⟨C0, C1, C2, hb⟩ := HC.out _ hbx
        clear hno2
        by_cases hql : q < L
        · obtain ⟨l, hl⟩ : ∃ l, Rs[q]? = some l := ⟨_, List.getElem?_eq_getElem (by rw [HL.out]; exact hql)⟩
          have hlI := HIn.out l (List.mem_of_getElem? hl)
          have hll : l.length ≤ 12 := by have := hlI.len; omega
          obtain ⟨ad, ⟨ya, yn, yc⟩, hA2, _, hc, hyn, hrd⟩ := (HR2.out.below hq).read ((HO2.out.below hq).rd) hl
          subst hA2
          simp only at hyn
          subst hyn
          replace hrd : Rd IntAt 1 wr.heap.size wr (.slice ya l.length yc) l := hrd
          replace hc : wr.cell? (ad.add q) = some (.slice ya l.length yc) := hc
          have HFl := Lib.hid (fun h => HFd.out q l HNo2.out hl h)
          have HNn := Lib.hid (show askR s true false l = false → ∀ l' ∈ Rs.take (q + 1), askR s true false l' = false from fun h l' hl' => by
            rw [List.take_add_one, hl] at hl'
            rcases List.mem_append.1 hl' with h1 | h1
            · exact HNo2.out l' h1
            · simp at h1; subst h1; exact h)
          have HlI := Lib.hid hlI
          clear hl hlI
          have HBd := Lib.hid (fun (h : Below w.heap.size w wr) => rbounds_any (wd := 0) (ix := l) (HSR.out wr h) HGd.out (Nat.le_trans hB h.size) hrd (Nat.le_refl _) (fun j hj => by have := HlI.out.mem j hj; omega) (by omega))
          have HAk := Lib.hid (show askR s true false l = (refB s (lvN s l) 0 == false) from rfl)
          generalize refB s (lvN s l) 0 = fb at *
          go_upto_region 12 with (go_at_call 69; (with_reducible refine Calls.mono (HBd.out hb) ?_); rintro e X ⟨g, cg, R, C, rfl, _, h4⟩; replace hc := (h4.cell (cell_lt hc)).trans hc; replace hrd := (hrd.below h4).mono h4.size; replace hbx := hbx.trans (h4.mono hbx.size); replace hq := hq.trans (h4.mono hq.size); clear C0 C1 C2 hb h4; obtain ⟨C0, C1, C2, hb⟩ := HC.out _ hbx)
          cases fb with
          | false =>
            have HFq := Lib.hid (HFl.out HAk.out)
            go_wp2
            go_ret
            refine ⟨ya, yc, ?_, ?_, hb⟩
            · rw [HFq.out]; rfl
            · rw [HFq.out]; exact hrd
          | true =>
            have HNq := Lib.hid (HNn.out HAk.out)
            clear hc hrd
            go_wp2
            go_roundw
            case rel => exact ⟨q + 1, by omega, by go_num, HNq.out, hq⟩
            case measure => simp [intOf]; omega
        · have hqe : q = L := by omega
          have HA := Lib.hid (show ∀ l ∈ manyL s.notes.length (m + 1), askR s true false l = false from fun l hl => by
            rw [HSn.out] at hl
            rcases List.mem_append.1 hl with h | h
            · exact HNo.out l h
            · refine HNo2.out l ?_
              rw [hqe, ← HL.out, List.take_length]
              exact h)
          clear hqe
          go_wp2
          go_roundw
          case rel => exact ⟨m + 1, by omega, by go_num, HA.out, hbx⟩
          case measure => simp [intOf]; omega
    · have hme : m = s.notes.length + 1 := by omega
      have HE := Lib.hid (show fewR s true false = [] by
        unfold fewR
        rw [List.find?_eq_none.2 (fun l hl => by rw [HNo.out l (by rw [hme]; exact hl)]; simp)]
        rfl)
      clear hme
      go_wp2
      go_ret
      exact ⟨none, 0, by rw [HE.out]; rfl, by rw [HE.out]; exact Rd.nil _ _, hb⟩

set_option maxRecDepth 100000 in
set_option maxHeartbeats 4000000 in
theorem rfewest_false {B : Nat} {w : World} {v : Value} {s : ShR} (hs : RdSh B w v s) (hg : Good s) (hB : B ≤ w.heap.size) :
    Calls Tryz.prog 75 #[v, .bool false, .bool true] w fun e w' => ∃ A c, e = .returned (.slice A (fewR s false true).length c) ∧ Rd IntAt 1 w'.heap.size w' (.slice A (fewR s false true).length c) (fewR s false true) ∧ Below w.heap.size w w' := by
  obtain ⟨vp, vn, rfl, hp, ho⟩ := id hs
  obtain ⟨Ap, cp, rfl, _⟩ := id hp
  obtain ⟨An, cn, rfl, _⟩ := id ho
  have HSR := Lib.hid (fun (X : World) (hb : Below w.heap.size w X) => hs.below (hb.mono hB))
  obtain ⟨W1, hW1, r1, z1, b1⟩ := box_any w #[.int .i64 s.iv, .slice Ap s.pts.length cp, .slice An s.notes.length cn] 25
  have HC : Hid (∀ Z : World, Below W1.heap.size W1 Z → Z.cell? ⟨w.heap.size, 0, none⟩ = some (.int .i64 s.iv) ∧ Z.cell? ⟨w.heap.size, 1, none⟩ = some (.slice Ap s.pts.length cp) ∧ Z.cell? ⟨w.heap.size, 2, none⟩ = some (.slice An s.notes.length cn) ∧ Below w.heap.size w Z) :=
    Lib.hid fun Z h => by
      have j1 := (h.block _ (lt_of_block r1)).trans r1
      exact ⟨cellOf j1 0 rfl, cellOf j1 1 rfl, cellOf j1 2 rfl, b1.trans (h.mono b1.size)⟩
  have HZ := Lib.hid (show w.heap.size ≤ W1.heap.size by omega)
  have hbx : Below W1.heap.size W1 W1 := Below.refl _ _
  obtain ⟨C0, C1, C2, hb⟩ := HC.out _ hbx
  clear hp ho r1 z1 b1
  have HGd := Lib.hid hg
  have hnl := hg.nlen
  clear hs hg
  go_enter Tryz.func75, Tryz.ntmps75
  go_upto_region 1 with (fail)
  rw [← hW1]
  clear hW1
  go_wp2
  clear C0 C1 C2 hb
  go_loopw [7, 8, 9, 10, 11, 12] (fun m _ _ _ _ _ wr => ∃ k : Nat, k ≤ s.notes.length + 1 ∧ m = .int .i64 k ∧ (∀ l ∈ manyL s.notes.length k, askR s false true l = false) ∧ Below W1.heap.size W1 wr) (fun m _ _ _ _ _ _ => s.notes.length + 1 - (intOf m).toNat)
  case atStart => exact ⟨0, Nat.zero_le _, rfl, fun l hl => by simp [manyL] at hl, hbx⟩
  case round =>
    clear hbx
    obtain ⟨m, hm, rfl, hno, hbx⟩ := hrel
    obtain ⟨C0, C1, C2, hb⟩ := HC.out _ hbx
    have HNo := Lib.hid hno
    clear hno
    by_cases hml : m ≤ s.notes.length
    · have HLs := Lib.hid (show ∀ Z, Calls Tryz.prog 99 #[.int .i64 0, .int .i64 s.notes.length, .int .i64 m] Z _ from fun Z => lists_any (n := s.notes.length) (by omega) m 0 (Nat.zero_le _) (by omega) Z)
      have HSn := Lib.hid (manyL_snoc s.notes.length m)
      have HIn := Lib.hid (show ∀ l, l ∈ listsR s.notes.length m 0 → InR s.notes.length 0 l from fun l hl => (mem_listsR.1 hl).1)
      have HFd := Lib.hid (show ∀ (q : Nat) (l : List Int), (∀ l' ∈ (listsR s.notes.length m 0).take q, askR s false true l' = false) → (listsR s.notes.length m 0)[q]? = some l → askR s false true l = true → fewR s false true = l from fun q l h1 h2 h3 => few_found hml HNo.out h1 h2 h3)
      have HLL := Lib.hid (listsR_small (m := m) (i := 0) (show s.notes.length ≤ 12 from hnl))
      generalize listsR s.notes.length m 0 = Rs at *
      obtain ⟨L, hL⟩ : ∃ L, Rs.length = L := ⟨_, rfl⟩
      rw [hL] at HLs HLL
      have HL := Lib.hid hL
      clear hL
      go_upto_region 5 with (go_at_call 99; (with_reducible refine Calls.mono (HLs.out _) ?_); rintro e w2 ⟨A2, c2, hs2, rfl, ho2, hr2, h4⟩; replace hbx := hbx.trans (h4.mono hbx.size); clear C0 C1 C2 hb h4; obtain ⟨C0, C1, C2, hb⟩ := HC.out _ hbx)
      have HO2 := Lib.hid ho2
      have HR2 := Lib.hid hr2
      have hL4 := HLL.out
      clear ho2 hr2
      go_wp2
      clear C0 C1 C2 hb
      have Hbx := Lib.hid hbx
      clear hbx
      go_loopw [9, 10, 11, 12] (fun i _ _ _ wr => ∃ q : Nat, q ≤ L ∧ i = .int .i64 q ∧ (∀ l ∈ Rs.take q, askR s false true l = false) ∧ Below w2.heap.size w2 wr) (fun i _ _ _ _ => L - (intOf i).toNat)
      case atStart => exact ⟨0, Nat.zero_le _, rfl, fun l hl => by simp at hl, Below.refl _ _⟩
      case round =>
        obtain ⟨q, hq0, rfl, hno2, hq⟩ := hrel
        have HNo2 := Lib.hid hno2
        have hbx := Hbx.out.trans (hq.mono Hbx.out.size)
        obtain ⟨C0, C1, C2, hb⟩ := HC.out _ hbx
        clear hno2
        by_cases hql : q < L
        · obtain ⟨l, hl⟩ : ∃ l, Rs[q]? = some l := ⟨_, List.getElem?_eq_getElem (by rw [HL.out]; exact hql)⟩
          have hlI := HIn.out l (List.mem_of_getElem? hl)
          have hll : l.length ≤ 12 := by have := hlI.len; omega
          obtain ⟨ad, ⟨ya, yn, yc⟩, hA2, _, hc, hyn, hrd⟩ := (HR2.out.below hq).read ((HO2.out.below hq).rd) hl
          subst hA2
          simp only at hyn
          subst hyn
          replace hrd : Rd IntAt 1 wr.heap.size wr (.slice ya l.length yc) l := hrd
          replace hc : wr.cell? (ad.add q) = some (.slice ya l.length yc) := hc
          have HFl := Lib.hid (fun h => HFd.out q l HNo2.out hl h)
          have HNn := Lib.hid (show askR s false true l = false → ∀ l' ∈ Rs.take (q + 1), askR s false true l' = false from fun h l' hl' => by
            rw [List.take_add_one, hl] at hl'
            rcases List.mem_append.1 hl' with h1 | h1
            · exact HNo2.out l' h1
            · simp at h1; subst h1; exact h)
          have HlI := Lib.hid hlI
          clear hl hlI
          go_upto_region 10 with (fail)
          obtain ⟨wv, rfl⟩ : ∃ wv : World, wv = wr := ⟨_, rfl⟩
          have QC2 := Lib.hid C2
          have QC := Lib.hid hc
          have HRd := Lib.hid hrd
          have HWt := Lib.hid (show ∀ Z, Below wv.heap.size wv Z → _ from fun Z hZ => rwithout_any s.notes.length ((HRd.out.below hZ).mono (Nat.le_refl _)) hZ.size (by omega) (by omega))
          have hF := FI.keeps (fun k => if k = 7 ∨ k = 8 then some (withoutL l s.notes.length) else none) (fun jj => ([.pointer (some ⟨w.heap.size, 2, none⟩), .slice An s.notes.length cn, .int .i64 s.notes.length, .slice (some ad) L c2, .int .i64 q, .pointer (some (ad.add q)), .slice ya l.length yc, undef, undef] : List Value).getD jj undef)
          refine wp_region_ghost (BlI wv (FI (fun k => if k = 7 ∨ k = 8 then some (withoutL l s.notes.length) else none) (fun jj => ([.pointer (some ⟨w.heap.size, 2, none⟩), .slice An s.notes.length cn, .int .i64 s.notes.length, .slice (some ad) L c2, .int .i64 q, .pointer (some (ad.add q)), .slice ya l.length yc, undef, undef] : List Value).getD jj undef))) (by kernel_rfl) (by kernel_rfl) BlI.start ?_ ?_
          · refine ⟨?_, ?_, ?_, ?_, ?_, ?_, ?_, ?_, ?_, trivial⟩
            all_goals
              intro L' vs X b hL hw hcl hI hf
            · have hb := hI.bel
              have e3 := hf.old 3 (by kernel_rfl)
              refine wp_of_run (v := .pointer (some ⟨w.heap.size, 2, none⟩)) (w' := X) (by unfold execOp; go_simp) ?_
              exact hI.read hF ⟨fun l' h => (by cases h), fun _ => rfl⟩
            · have hb := hI.bel
              have h0 : L' 0 = true := done_of hw 0 (by kernel_rfl)
              have e37 : b.tmps[37]?.getD undef = .pointer (some ⟨w.heap.size, 2, none⟩) := (hf.new 0 37 rfl h0 (by simp)).trans ((hI.fs 0 h0).2 rfl)
              have qQC2 := (hb.cell (cell_lt QC2.out)).trans QC2.out
              refine wp_of_run (v := .slice An s.notes.length cn) (w' := X) (by unfold execOp; go_simp) ?_
              exact hI.read hF ⟨fun l' h => (by cases h), fun _ => rfl⟩
            · have hb := hI.bel
              have h1 : L' 1 = true := done_of hw 1 (by kernel_rfl)
              have e38 : b.tmps[38]?.getD undef = .slice An s.notes.length cn := (hf.new 1 38 rfl h1 (by simp)).trans ((hI.fs 1 h1).2 rfl)
              refine wp_of_run (v := .int .i64 s.notes.length) (w' := X) (by unfold execOp; go_simp) ?_
              exact hI.read hF ⟨fun l' h => (by cases h), fun _ => rfl⟩
            · have hb := hI.bel
              have e8 := hf.old 8 (by kernel_rfl)
              refine wp_of_run (v := .slice (some ad) L c2) (w' := X) (by unfold execOp; go_simp) ?_
              exact hI.read hF ⟨fun l' h => (by cases h), fun _ => rfl⟩
            · have hb := hI.bel
              have e9 := hf.old 9 (by kernel_rfl)
              refine wp_of_run (v := .int .i64 q) (w' := X) (by unfold execOp; go_simp) ?_
              exact hI.read hF ⟨fun l' h => (by cases h), fun _ => rfl⟩
            · have hb := hI.bel
              have h3 : L' 3 = true := done_of hw 3 (by kernel_rfl)
              have e40 : b.tmps[40]?.getD undef = .slice (some ad) L c2 := (hf.new 3 40 rfl h3 (by simp)).trans ((hI.fs 3 h3).2 rfl)
              have h4 : L' 4 = true := done_of hw 4 (by kernel_rfl)
              have e41 : b.tmps[41]?.getD undef = .int .i64 q := (hf.new 4 41 rfl h4 (by simp)).trans ((hI.fs 4 h4).2 rfl)
              refine wp_of_run (v := .pointer (some (ad.add q))) (w' := X) (by unfold execOp; go_simp) ?_
              exact hI.read hF ⟨fun l' h => (by cases h), fun _ => rfl⟩
            · have hb := hI.bel
              have h5 : L' 5 = true := done_of hw 5 (by kernel_rfl)
              have e42 : b.tmps[42]?.getD undef = .pointer (some (ad.add q)) := (hf.new 5 42 rfl h5 (by simp)).trans ((hI.fs 5 h5).2 rfl)
              have qQC := (hb.cell (cell_lt QC.out)).trans QC.out
              refine wp_of_run (v := .slice ya l.length yc) (w' := X) (by unfold execOp; go_simp) ?_
              exact hI.read hF ⟨fun l' h => (by cases h), fun _ => rfl⟩
            · have hb := hI.bel
              have h2 : L' 2 = true := done_of hw 2 (by kernel_rfl)
              have e39 : b.tmps[39]?.getD undef = .int .i64 s.notes.length := (hf.new 2 39 rfl h2 (by simp)).trans ((hI.fs 2 h2).2 rfl)
              have h6 : L' 6 = true := done_of hw 6 (by kernel_rfl)
              have e43 : b.tmps[43]?.getD undef = .slice ya l.length yc := (hf.new 6 43 rfl h6 (by simp)).trans ((hI.fs 6 h6).2 rfl)
              refine wp_of_call (f := 100) (args := #[.int .i64 s.notes.length, .slice ya l.length yc]) (run_call_clo (.func 100) _ _ rfl (c := #[]) rfl renter100 (by simp [eval_tmp e39, eval_tmp e43])) ?_
              refine (HWt.out X hb).mono ?_
              rintro e wz ⟨A, c, rfl, hr, hbz⟩
              exact ⟨_, rfl, hI.step hF hbz ⟨fun l' h => (by cases h; exact hr), fun h => (by cases h)⟩⟩
            · have hb := hI.bel
              have h7 : L' 7 = true := done_of hw 7 (by kernel_rfl)
              have r7 := (hI.fs 7 h7).1 _ rfl
              obtain ⟨A7, c7, q7, _⟩ := id r7
              have e44 : b.tmps[44]?.getD undef = .slice A7 (withoutL l s.notes.length).length c7 := (hf.new 7 44 rfl h7 (by simp)).trans q7
              rw [q7] at r7
              refine wp_of_run (v := .slice A7 (withoutL l s.notes.length).length c7) (w' := X) (by unfold execOp; go_simp) ?_
              exact hI.read hF ⟨fun l' h => (by cases h; exact r7), fun h => (by cases h)⟩
          · intro vs X hI
            have r8 := (hI.fs 8 rfl).1 _ rfl
            obtain ⟨A8, c8, e8, _⟩ := id r8
            rw [e8] at r8
            have h4 := hI.bel
            clear hI hF
            simp [fill, slotOf, Act.put]
            simp only [Exit.inBlock, Exit.then]
            rw [e8]
            clear e8
            generalize vs 0 = yy0 at *
            generalize vs 1 = yy1 at *
            generalize vs 2 = yy2 at *
            generalize vs 3 = yy3 at *
            generalize vs 4 = yy4 at *
            generalize vs 5 = yy5 at *
            generalize vs 6 = yy6 at *
            generalize vs 7 = yy7 at *
            generalize vs 8 = yy8 at *
            replace hc := (h4.cell (cell_lt hc)).trans hc
            replace hrd := (hrd.below h4).mono h4.size
            replace hbx := hbx.trans (h4.mono hbx.size)
            replace hq := hq.trans (h4.mono hq.size)
            clear C0 C1 C2 hb h4
            obtain ⟨C0, C1, C2, hb⟩ := HC.out _ hbx
            clear QC2 QC HRd HWt
            obtain ⟨wr, rfl⟩ : ∃ wr : World, wr = X := ⟨_, rfl⟩
            have HBd := Lib.hid (fun (h : Below w.heap.size w wr) => rbounds_any (wd := 0) (ix := withoutL l s.notes.length) (HSR.out wr h) HGd.out (Nat.le_trans hB h.size) r8 (Nat.le_refl _) (fun j hj => by obtain ⟨i, h1, _, rfl⟩ := mem_withoutL.1 hj; omega) (by omega))
            have HAk := Lib.hid (show askR s false true l = (refB s (lvN s (withoutL l s.notes.length)) 0 == true) from rfl)
            generalize refB s (lvN s (withoutL l s.notes.length)) 0 = fb at *
            clear r8
            go_upto_region 12 with (go_at_call 69; (with_reducible refine Calls.mono (HBd.out hb) ?_); rintro e X ⟨g, cg, R, C, rfl, _, h4⟩; replace hc := (h4.cell (cell_lt hc)).trans hc; replace hrd := (hrd.below h4).mono h4.size; replace hbx := hbx.trans (h4.mono hbx.size); replace hq := hq.trans (h4.mono hq.size); clear C0 C1 C2 hb h4; obtain ⟨C0, C1, C2, hb⟩ := HC.out _ hbx)
            cases fb with
            | true =>
              have HFq := Lib.hid (HFl.out HAk.out)
              go_wp2
              go_ret
              refine ⟨ya, yc, ?_, ?_, hb⟩
              · rw [HFq.out]; rfl
              · rw [HFq.out]; exact hrd
            | false =>
              have HNq := Lib.hid (HNn.out HAk.out)
              clear hc hrd
              go_wp2
              go_roundw
              case rel => exact ⟨q + 1, by omega, by go_num, HNq.out, hq⟩
              case measure => simp [intOf]; omega
        · have hqe : q = L := by omega
          have HA := Lib.hid (show ∀ l ∈ manyL s.notes.length (m + 1), askR s false true l = false from fun l hl => by
            rw [HSn.out] at hl
            rcases List.mem_append.1 hl with h | h
            · exact HNo.out l h
            · refine HNo2.out l ?_
              rw [hqe, ← HL.out, List.take_length]
              exact h)
          clear hqe
          go_wp2
          go_roundw
          case rel => exact ⟨m + 1, by omega, by go_num, HA.out, hbx⟩
          case measure => simp [intOf]; omega
    · have hme : m = s.notes.length + 1 := by omega
      have HE := Lib.hid (show fewR s false true = [] by
        unfold fewR
        rw [List.find?_eq_none.2 (fun l hl => by rw [HNo.out l (by rw [hme]; exact hl)]; simp)]
        rfl)
      clear hme
      go_wp2
      go_ret
      exact ⟨none, 0, by rw [HE.out]; rfl, by rw [HE.out]; exact Rd.nil _ _, hb⟩

set_option maxRecDepth 100000 in
set_option maxHeartbeats 4000000 in
theorem rproof_any {B : Nat} {w : World} {v : Value} {s : ShR} (hs : RdSh B w v s) (hn : Named s) (hB : B ≤ w.heap.size) :
    Calls Tryz.prog 32 #[v] w fun e w' => ∃ A c, e = .returned (.tuple #[.slice A (proofF s).length c, .int .i64 (proofE s)]) ∧ Rd IntAt 1 w'.heap.size w' (.slice A (proofF s).length c) (proofF s) ∧ Below w.heap.size w w' := by
  obtain ⟨vp, vn, rfl, hp, ho⟩ := id hs
  obtain ⟨Ap, cp, rfl, _⟩ := id hp
  obtain ⟨An, cn, rfl, _⟩ := id ho
  have HSR := Lib.hid (fun (X : World) (hb : Below w.heap.size w X) => hs.below (hb.mono hB))
  obtain ⟨W1, hW1, r1, z1, b1⟩ := box_any w #[.int .i64 s.iv, .slice Ap s.pts.length cp, .slice An s.notes.length cn] 25
  have HC : Hid (∀ Z : World, Below W1.heap.size W1 Z → Z.cell? ⟨w.heap.size, 0, none⟩ = some (.int .i64 s.iv) ∧ Z.cell? ⟨w.heap.size, 1, none⟩ = some (.slice Ap s.pts.length cp) ∧ Z.cell? ⟨w.heap.size, 2, none⟩ = some (.slice An s.notes.length cn) ∧ Below w.heap.size w Z) :=
    Lib.hid fun Z h => by
      have j1 := (h.block _ (lt_of_block r1)).trans r1
      exact ⟨cellOf j1 0 rfl, cellOf j1 1 rfl, cellOf j1 2 rfl, b1.trans (h.mono b1.size)⟩
  have HZ := Lib.hid (show w.heap.size ≤ W1.heap.size by omega)
  have hbx : Below W1.heap.size W1 W1 := Below.refl _ _
  obtain ⟨C0, C1, C2, hb⟩ := HC.out _ hbx
  clear hp ho r1 z1 b1
  have HFi := Lib.hid (fun (X : World) (hb : Below w.heap.size w X) => rfits_any (HSR.out X hb) hn (Nat.le_trans hB hb.size))
  by_cases he : errOf s = 0
  · have hg := good_of_valid he
    have HGd := Lib.hid hg
    rw [he] at HFi
    cases hf : fitsB s with
    | true =>
      have hE : proofE s = 4 := by unfold proofE; rw [if_neg (by simp [he]), if_pos hf]
      have hP : proofF s = [] := by unfold proofF; rw [if_neg (by simp [he]), if_pos hf]
      rw [hE, hP]
      rw [hf] at HFi
      clear he hf hE hP hg hs
      go_enter Tryz.func32, Tryz.ntmps32
      go_upto_region 1 with (fail)
      rw [← hW1]
      clear hW1
      go_wp2_with (go_at_call 22; (with_reducible refine Calls.mono (HFi.out _ hb) ?_); rintro e X ⟨rfl, h4⟩; replace hbx := hbx.trans (h4.mono hbx.size); clear C0 C1 C2 hb h4; obtain ⟨C0, C1, C2, hb⟩ := HC.out _ hbx)
      go_ret2
      exact ⟨none, 0, rfl, Rd.nil _ _, hb⟩
    | false =>
      have hE : proofE s = 0 := by unfold proofE; rw [if_neg (by simp [he]), if_neg (by simp [hf])]
      have hP := proof_ref hg hf
      have HFw := Lib.hid (fun (X : World) (hb : Below w.heap.size w X) => rfewest_true (HSR.out X hb) HGd.out (Nat.le_trans hB hb.size))
      rw [hE]
      rw [hP] at HFw
      rw [hf] at HFi
      generalize proofF s = pl at *
      clear he hf hE hP hg hs
      go_enter Tryz.func32, Tryz.ntmps32
      go_upto_region 1 with (fail)
      rw [← hW1]
      clear hW1
      go_wp2_with (first | (go_at_call 22; (with_reducible refine Calls.mono (HFi.out _ hb) ?_); rintro e X ⟨rfl, h4⟩; replace hbx := hbx.trans (h4.mono hbx.size); clear C0 C1 C2 hb h4; obtain ⟨C0, C1, C2, hb⟩ := HC.out _ hbx) | (go_at_call 75; (with_reducible refine Calls.mono (HFw.out _ hb) ?_); rintro e X ⟨A, c, rfl, hrd, h4⟩; replace hbx := hbx.trans (h4.mono hbx.size); clear C0 C1 C2 hb h4; obtain ⟨C0, C1, C2, hb⟩ := HC.out _ hbx))
      go_ret2
      exact ⟨A, c, rfl, hrd, hb⟩
  · have hE : proofE s = errOf s := by unfold proofE; rw [if_pos he]
    have hP : proofF s = [] := by unfold proofF; rw [if_pos he]
    have hf : fitsB s = false := by unfold fitsB; rw [openE_err he]; exact decide_eq_false he
    have h1 : (errOf s == 0) = false := by simp [he]
    have h2 : (errOf s != 0) = true := by simp [he]
    rw [hE, hP]
    rw [hf] at HFi
    generalize errOf s = er at *
    clear he hf hE hP hs
    go_enter Tryz.func32, Tryz.ntmps32
    go_upto_region 1 with (fail)
    rw [← hW1]
    clear hW1
    go_wp2_with (go_at_call 22; (with_reducible refine Calls.mono (HFi.out _ hb) ?_); rintro e X ⟨rfl, h4⟩; replace hbx := hbx.trans (h4.mono hbx.size); clear C0 C1 C2 hb h4; obtain ⟨C0, C1, C2, hb⟩ := HC.out _ hbx)
    go_ret2
    exact ⟨none, 0, rfl, Rd.nil _ _, hb⟩

set_option maxRecDepth 100000 in
set_option maxHeartbeats 4000000 in
theorem rwrong_any {B : Nat} {w : World} {v : Value} {s : ShR} (hs : RdSh B w v s) (hn : Named s) (hB : B ≤ w.heap.size) :
    Calls Tryz.prog 34 #[v] w fun e w' => ∃ A c, e = .returned (.tuple #[.slice A (wrongF s).length c, .int .i64 (errOf s)]) ∧ Rd IntAt 1 w'.heap.size w' (.slice A (wrongF s).length c) (wrongF s) ∧ Below w.heap.size w w' := by
  obtain ⟨vp, vn, rfl, hp, ho⟩ := id hs
  obtain ⟨Ap, cp, rfl, _⟩ := id hp
  obtain ⟨An, cn, rfl, _⟩ := id ho
  have HSR := Lib.hid (fun (X : World) (hb : Below w.heap.size w X) => hs.below (hb.mono hB))
  obtain ⟨W1, hW1, r1, z1, b1⟩ := box_any w #[.int .i64 s.iv, .slice Ap s.pts.length cp, .slice An s.notes.length cn] 25
  have HC : Hid (∀ Z : World, Below W1.heap.size W1 Z → Z.cell? ⟨w.heap.size, 0, none⟩ = some (.int .i64 s.iv) ∧ Z.cell? ⟨w.heap.size, 1, none⟩ = some (.slice Ap s.pts.length cp) ∧ Z.cell? ⟨w.heap.size, 2, none⟩ = some (.slice An s.notes.length cn) ∧ Below w.heap.size w Z) :=
    Lib.hid fun Z h => by
      have j1 := (h.block _ (lt_of_block r1)).trans r1
      exact ⟨cellOf j1 0 rfl, cellOf j1 1 rfl, cellOf j1 2 rfl, b1.trans (h.mono b1.size)⟩
  have HZ := Lib.hid (show w.heap.size ≤ W1.heap.size by omega)
  have hbx : Below W1.heap.size W1 W1 := Below.refl _ _
  obtain ⟨C0, C1, C2, hb⟩ := HC.out _ hbx
  clear hp ho r1 z1 b1
  have HCk := Lib.hid (fun (X : World) (hb : Below w.heap.size w X) => rcheck_any (HSR.out X hb) hn (Nat.le_trans hB hb.size))
  unfold checkV at HCk
  have heo : errOf s = (check s).2.2 := rfl
  rw [← heo] at HCk
  clear heo
  generalize (check s).1 = a1 at HCk
  generalize (check s).2.1 = a2 at HCk
  by_cases he : errOf s = 0
  · have hg := good_of_valid he
    have HGd := Lib.hid hg
    have hP := wrong_ref hg
    have HFw := Lib.hid (fun (X : World) (hb : Below w.heap.size w X) => rfewest_false (HSR.out X hb) HGd.out (Nat.le_trans hB hb.size))
    rw [he] at HCk ⊢
    rw [hP] at HFw
    generalize wrongF s = pl at *
    clear he hP hg hs
    go_enter Tryz.func34, Tryz.ntmps34
    go_upto_region 1 with (fail)
    rw [← hW1]
    clear hW1
    go_wp2_with (first | (go_at_call 17; (with_reducible refine Calls.mono (HCk.out _ hb) ?_); rintro e X ⟨rfl, h4⟩; replace hbx := hbx.trans (h4.mono hbx.size); clear C0 C1 C2 hb h4; obtain ⟨C0, C1, C2, hb⟩ := HC.out _ hbx) | (go_at_call 75; (with_reducible refine Calls.mono (HFw.out _ hb) ?_); rintro e X ⟨A, c, rfl, hrd, h4⟩; replace hbx := hbx.trans (h4.mono hbx.size); clear C0 C1 C2 hb h4; obtain ⟨C0, C1, C2, hb⟩ := HC.out _ hbx))
    go_ret2
    exact ⟨A, c, rfl, hrd, hb⟩
  · have hP : wrongF s = [] := by unfold wrongF; rw [if_pos he]
    have h2 : (errOf s != 0) = true := by simp [he]
    rw [hP]
    generalize errOf s = er at *
    clear he hP hs
    go_enter Tryz.func34, Tryz.ntmps34
    go_upto_region 1 with (fail)
    rw [← hW1]
    clear hW1
    go_wp2_with (go_at_call 17; (with_reducible refine Calls.mono (HCk.out _ hb) ?_); rintro e X ⟨rfl, h4⟩; replace hbx := hbx.trans (h4.mono hbx.size); clear C0 C1 C2 hb h4; obtain ⟨C0, C1, C2, hb⟩ := HC.out _ hbx)
    go_ret2
    exact ⟨none, 0, rfl, Rd.nil _ _, hb⟩

end Go.Proofs.YtajdgdelhlfniaaGreatDoor
