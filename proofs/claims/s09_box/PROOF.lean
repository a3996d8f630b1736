import PyProof.Rows.All
import Wide.All
import OpenK.AllK
import Wide.FinOn
import PyProof.EqAt
import PyProof.EqKinds
import PyProof.TupleCall
import Open.SpecLaws
import KE.OsGo
import HandS.ForSpec
import HandS.Walk
import PySem.Challenge.RW_paintsheets_s09_box
set_option Elab.async false
set_option linter.all false
set_option maxRecDepth 100000
set_option maxHeartbeats 4000000
namespace Pm
/-! ### numbers and bytes -/
def Byt (l : List Int) : Prop := ∀ z, z ∈ l → 0 ≤ z ∧ z ≤ 255
def u8 (z : Int) : UInt8 := UInt8.ofNat z.toNat
def un (c : UInt8) : Int := (c.toNat : Int)
theorem un_u8 {z : Int} (h : 0 ≤ z ∧ z ≤ 255) : un (u8 z) = z := by
  unfold un u8
  rw [UInt8.toNat_ofNat']
  have : z.toNat % 2 ^ 8 = z.toNat := Nat.mod_eq_of_lt (by omega)
  rw [this]
  omega
theorem u8_zero {z : Int} (h : 0 ≤ z ∧ z ≤ 255) : u8 z = 0 ↔ z = 0 := by
  constructor
  · intro e
    have q := un_u8 h
    rw [e] at q
    exact q.symm
  · intro e
    subst e
    rfl
theorem u8_toNat {z : Int} (h : 0 ≤ z ∧ z ≤ 255) : (u8 z).toNat = z.toNat := by
  have q := un_u8 h
  unfold un at q
  omega
theorem u8_inj {z y : Int} (h : 0 ≤ z ∧ z ≤ 255) (h' : 0 ≤ y ∧ y ≤ 255) : u8 z = u8 y ↔ z = y := by
  constructor
  · intro e
    rw [← un_u8 h, e, un_u8 h']
  · intro e
    rw [e]
theorem text_eq (l : List Int) : Neutral.text l = l.map u8 := rfl
theorem text_len (l : List Int) : (Neutral.text l).length = l.length := by rw [text_eq, List.length_map]
theorem un_text : ∀ {l : List Int}, Byt l → (Neutral.text l).map un = l
  | [], _ => rfl
  | z :: r, h => by
    show un (u8 z) :: (Neutral.text r).map un = z :: r
    rw [un_u8 (h z (List.mem_cons_self ..)), un_text fun y hy => h y (List.mem_cons_of_mem _ hy)]
theorem Byt.get {l : List Int} (h : Byt l) {i : Nat} {z : Int} (e : l[i]? = some z) : 0 ≤ z ∧ z ≤ 255 := h z (List.mem_of_getElem? e)
theorem Byt.getD {l : List Int} (h : Byt l) (i : Nat) : 0 ≤ l.getD i 0 ∧ l.getD i 0 ≤ 255 := by
  rw [List.getD_eq_getElem?_getD]
  cases e : l[i]? with
  | none => exact ⟨Int.le_refl 0, (by decide : (0 : Int) ≤ 255)⟩
  | some z => exact h.get e
theorem text_getD {l : List Int} (i : Nat) : (Neutral.text l).getD i 0 = u8 (l.getD i 0) := by
  rw [text_eq, List.getD_eq_getElem?_getD, List.getD_eq_getElem?_getD, List.getElem?_map]
  cases l[i]? <;> rfl
theorem arr_getD {α : Type} (l : List α) (i : Nat) (d : α) : l.toArray.getD i d = l.getD i d := by
  rw [Array.getD_eq_getD_getElem?, List.getD_eq_getElem?_getD]
  simp
theorem shown_bytes (b : CeSheet.Bytes) : Neutral.shown (.bytes b) = (b.length : Int) :: b.map un := rfl
/-! ### the questions -/
def side (n : Int) : Bool := decide (1 ≤ n) && decide (n ≤ 256)
def pts (w h : Int) (l : List Int) : Bool := side w && (side h && decide ((l.length : Int) = w * h))
theorem side_iff {n : Int} : side n = true ↔ 1 ≤ n ∧ n ≤ 256 := by
  unfold side
  rw [Bool.and_eq_true, decide_eq_true_iff, decide_eq_true_iff]
theorem pts_iff {w h : Int} {l : List Int} : pts w h l = true ↔ (1 ≤ w ∧ w ≤ 256) ∧ (1 ≤ h ∧ h ≤ 256) ∧ (l.length : Int) = w * h := by
  unfold pts
  rw [Bool.and_eq_true, Bool.and_eq_true, side_iff, side_iff, decide_eq_true_iff]
theorem size_iff {w h : Nat} : CeSheet.sizeOk w h = true ↔ (1 ≤ w ∧ w ≤ 256) ∧ (1 ≤ h ∧ h ≤ 256) := by
  unfold CeSheet.sizeOk CeSheet.SIDE
  simp only [Bool.and_eq_true, decide_eq_true_iff]
  omega
theorem mul_nat {w h : Int} (hw : 0 ≤ w) (hh : 0 ≤ h) : ((w.toNat * h.toNat : Nat) : Int) = w * h := by
  rw [Int.natCast_mul, Int.toNat_of_nonneg hw, Int.toNat_of_nonneg hh]
theorem pts_iff_spec {w h : Int} {l : List Int} : CeSheetSpec.pointsOk (Neutral.text l) w.toNat h.toNat = true ↔ pts w h l = true := by
  rw [pts_iff]
  unfold CeSheetSpec.pointsOk
  rw [Bool.and_eq_true, size_iff, text_len, beq_iff_eq]
  constructor
  · rintro ⟨⟨h1, h2⟩, h3⟩
    have hw : 0 ≤ w := by omega
    have hh : 0 ≤ h := by omega
    have := mul_nat hw hh
    refine ⟨by omega, by omega, ?_⟩
    rw [← this, h3]
  · rintro ⟨h1, h2, h3⟩
    have hw : 0 ≤ w := by omega
    have hh : 0 ≤ h := by omega
    have := mul_nat hw hh
    refine ⟨⟨by omega, by omega⟩, ?_⟩
    omega
theorem pts_spec {w h : Int} {l : List Int} : CeSheetSpec.pointsOk (Neutral.text l) w.toNat h.toNat = pts w h l := by
  cases e : pts w h l with
  | true => exact pts_iff_spec.mpr e
  | false =>
    cases e2 : CeSheetSpec.pointsOk (Neutral.text l) w.toNat h.toNat with
    | false => rfl
    | true =>
      rw [pts_iff_spec.mp e2] at e
      cases e
/-! ### over -/
def overL (up low : List Int) : List Int := List.zipWith (fun a b => if a = 0 then b else a) up low
theorem over_un : ∀ {up low : List Int}, Byt up → Byt low → (CeSheet.over (Neutral.text up) (Neutral.text low)).map un = overL up low
  | [], _, _, _ => rfl
  | _ :: _, [], _, _ => rfl
  | a :: r, b :: s, h1, h2 => by
    show un (CeSheet.overPaint (u8 a) (u8 b)) :: (CeSheet.over (Neutral.text r) (Neutral.text s)).map un = (if a = 0 then b else a) :: overL r s
    rw [over_un (fun y hy => h1 y (List.mem_cons_of_mem _ hy)) fun y hy => h2 y (List.mem_cons_of_mem _ hy)]
    have ha := h1 a (List.mem_cons_self ..)
    have hb := h2 b (List.mem_cons_self ..)
    unfold CeSheet.overPaint
    by_cases c : a = 0
    · rw [if_pos c, if_pos ((u8_zero ha).mpr c), un_u8 hb]
    · rw [if_neg c, if_neg (fun e => c ((u8_zero ha).mp e)), un_u8 ha]
def over (w h : Int) (up low : List Int) : List Int := if (pts w h up && pts w h low) = true then ((overL up low).length : Int) :: overL up low else [-1]
theorem over_is {w h : Int} {up low : List Int} (h1 : Byt up) (h2 : Byt low) : PyWqasbp.over w h up low = over w h up low := by
  show Neutral.shown (if CeSheetSpec.pointsOk (Neutral.text up) w.toNat h.toNat = true ∧ CeSheetSpec.pointsOk (Neutral.text low) w.toNat h.toNat = true then .bytes (CeSheet.over (Neutral.text up) (Neutral.text low)) else CeSheetSpec.no 1) = _
  unfold over
  rw [pts_spec, pts_spec]
  by_cases c : (pts w h up && pts w h low) = true
  · rw [if_pos c, if_pos (Bool.and_eq_true_iff.mp c), shown_bytes, over_un h1 h2]
    have e := congrArg List.length (over_un h1 h2)
    rw [List.length_map] at e
    rw [e]
  · rw [if_neg c, if_neg (fun q => c (Bool.and_eq_true_iff.mpr q))]
    rfl
/-! ### repaint -/
def repaintL (table a : List Int) : List Int := a.map fun p => if p = 0 then 0 else table.getD p.toNat 0
theorem repaint_un {table : List Int} (ht : Byt table) : ∀ {a : List Int}, Byt a → (CeSheet.repainted (Neutral.text table) (Neutral.text a)).map un = repaintL table a
  | [], _ => rfl
  | p :: r, h => by
    show un (if u8 p = 0 then 0 else (Neutral.text table).toArray.getD (u8 p).toNat 0) :: (CeSheet.repainted (Neutral.text table) (Neutral.text r)).map un = (if p = 0 then 0 else table.getD p.toNat 0) :: repaintL table r
    rw [repaint_un ht fun y hy => h y (List.mem_cons_of_mem _ hy)]
    have hp := h p (List.mem_cons_self ..)
    by_cases c : p = 0
    · rw [if_pos c, if_pos ((u8_zero hp).mpr c)]
      rfl
    · rw [if_neg c, if_neg (fun e => c ((u8_zero hp).mp e)), arr_getD, text_getD, u8_toNat hp, un_u8 (ht.getD _)]
def repaint (w h : Int) (a table : List Int) : List Int := if (pts w h a && decide (table.length = 256)) = true then ((repaintL table a).length : Int) :: repaintL table a else [-1]
theorem repaint_is {w h : Int} {a table : List Int} (h1 : Byt a) (h2 : Byt table) : PyWqasbp.repaint w h a table = repaint w h a table := by
  show Neutral.shown (if CeSheetSpec.pointsOk (Neutral.text a) w.toNat h.toNat = true ∧ (Neutral.text table).length = 256 then .bytes (CeSheet.repainted (Neutral.text table) (Neutral.text a)) else CeSheetSpec.no 1) = _
  unfold repaint
  rw [pts_spec, text_len]
  by_cases c : (pts w h a && decide (table.length = 256)) = true
  · have c' := Bool.and_eq_true_iff.mp c
    rw [if_pos c, if_pos ⟨c'.1, of_decide_eq_true c'.2⟩, shown_bytes, repaint_un h2 h1]
    have e := congrArg List.length (repaint_un h2 h1)
    rw [List.length_map] at e
    rw [e]
  · rw [if_neg c, if_neg (fun q => c (Bool.and_eq_true_iff.mpr ⟨q.1, decide_eq_true q.2⟩))]
    rfl
/-! ### count -/
theorem count_un {p : Int} (hp : 0 ≤ p) : ∀ {a : List Int}, Byt a → CeSheet.countOf (Neutral.text a) p.toNat = a.count p
  | [], _ => rfl
  | z :: r, h => by
    have ih := count_un hp (a := r) fun y hy => h y (List.mem_cons_of_mem _ hy)
    have hz := h z (List.mem_cons_self ..)
    unfold CeSheet.countOf at ih ⊢
    rw [text_eq] at ih ⊢
    rw [List.map_cons, List.countP_cons, ih, List.count_cons]
    have e : ((u8 z).toNat == p.toNat) = (z == p) := by
      rw [u8_toNat hz]
      by_cases c : z = p
      · subst c
        simp
      · have : ¬ z.toNat = p.toNat := by omega
        rw [beq_false_of_ne c, beq_false_of_ne this]
    rw [e]
def count (w h p : Int) (a : List Int) : List Int := if (pts w h a && decide (p ≤ 255)) = true then [((a.count p : Nat) : Int)] else [-1]
theorem count_is {w h p : Int} {a : List Int} (hp : 0 ≤ p) (h1 : Byt a) : PyWqasbp.count w h p a = count w h p a := by
  show Neutral.shown (if CeSheetSpec.pointsOk (Neutral.text a) w.toNat h.toNat = true ∧ p.toNat ≤ 255 then .nums [CeSheet.countOf (Neutral.text a) p.toNat] else CeSheetSpec.no 1) = _
  unfold count
  rw [pts_spec, count_un hp h1]
  by_cases c : (pts w h a && decide (p ≤ 255)) = true
  · have c' := Bool.and_eq_true_iff.mp c
    have c2 := of_decide_eq_true c'.2
    rw [if_pos c, if_pos ⟨c'.1, by omega⟩]
    rfl
  · rw [if_neg c, if_neg (fun q => c (Bool.and_eq_true_iff.mpr ⟨q.1, decide_eq_true (by omega)⟩))]
    rfl
end Pm
namespace Pm
/-! ### differ -/
/-- the first place at which two lists differ -/
def unlike : List Int → List Int → Nat → Option Nat
  | x :: r, y :: s, i => if x = y then unlike r s (i + 1) else some i
  | _, _, _ => none
theorem unlike_cons (x y : Int) (r s : List Int) (i : Nat) : unlike (x :: r) (y :: s) i = if x = y then unlike r s (i + 1) else some i := by rw [unlike]
theorem unlike_from : ∀ (a b : List Int) (i : Nat), unlike a b i = (unlike a b 0).map (· + i)
  | [], _, i => by simp [unlike]
  | _ :: _, [], i => by simp [unlike]
  | x :: r, y :: s, i => by
    unfold unlike
    by_cases c : x = y
    · rw [if_pos c, if_pos c, unlike_from r s (i + 1), unlike_from r s (0 + 1), Option.map_map]
      congr 1
      funext k
      show k + (i + 1) = k + (0 + 1) + i
      omega
    · rw [if_neg c, if_neg c]
      simp
theorem unlike_spec : ∀ {a b : List Int}, Byt a → Byt b → CeSheet.firstDiffer (Neutral.text a) (Neutral.text b) = unlike a b 0
  | [], b, _, _ => by
    unfold unlike
    rfl
  | _ :: _, [], _, _ => by
    unfold unlike
    rfl
  | x :: r, y :: s, h1, h2 => by
    have ih := unlike_spec (a := r) (b := s) (fun z hz => h1 z (List.mem_cons_of_mem _ hz)) fun z hz => h2 z (List.mem_cons_of_mem _ hz)
    have hx := h1 x (List.mem_cons_self ..)
    have hy := h2 y (List.mem_cons_self ..)
    unfold CeSheet.firstDiffer at ih ⊢
    show ((u8 x, u8 y) :: (Neutral.text r).zip (Neutral.text s)).findIdx? (fun x => x.1 != x.2) = _
    rw [List.findIdx?_cons, ih]
    rw [unlike_cons]
    by_cases c : x = y
    · have e : (u8 x != u8 y) = false := by
        rw [(u8_inj hx hy).mpr c]
        simp
      rw [if_pos c, unlike_from r s (0 + 1)]
      simp only [e]
      rfl
    · have e : (u8 x != u8 y) = true := by
        rw [bne_iff_ne]
        exact fun q => c ((u8_inj hx hy).mp q)
      rw [if_neg c]
      simp only [e]
      rfl
def differ (w h : Int) (a b : List Int) : List Int := if (pts w h a && pts w h b) = true then (match unlike a b 0 with
  | some i => [((i : Nat) : Int)]
  | none => [-3]) else [-1]
theorem differ_is {w h : Int} {a b : List Int} (h1 : Byt a) (h2 : Byt b) : PyWqasbp.differ w h a b = differ w h a b := by
  show Neutral.shown (if CeSheetSpec.pointsOk (Neutral.text a) w.toNat h.toNat = true ∧ CeSheetSpec.pointsOk (Neutral.text b) w.toNat h.toNat = true then (match CeSheet.firstDiffer (Neutral.text a) (Neutral.text b) with
    | some i => .nums [i]
    | none => CeSheetSpec.no 3) else CeSheetSpec.no 1) = _
  unfold differ
  rw [pts_spec, pts_spec, unlike_spec h1 h2]
  by_cases c : (pts w h a && pts w h b) = true
  · rw [if_pos c, if_pos (Bool.and_eq_true_iff.mp c)]
    cases unlike a b 0 <;> rfl
  · rw [if_neg c, if_neg (fun q => c (Bool.and_eq_true_iff.mpr q))]
    rfl
/-- what the loop knows: alike so far -/
theorem unlike_at : ∀ {a b : List Int} {i : Nat} {x y : Int}, (∀ j, j < i → a[j]? = b[j]?) → a[i]? = some x → b[i]? = some y → x ≠ y → unlike a b 0 = some i
  | [], _, _, _, _, _, h, _, _ => by simp at h
  | _ :: _, [], _, _, _, _, _, h, _ => by simp at h
  | p :: r, q :: s, 0, x, y, _, h1, h2, hn => by
    have e1 : p = x := Option.some.inj h1
    have e2 : q = y := Option.some.inj h2
    unfold unlike
    rw [if_neg (by rw [e1, e2]; exact hn)]
  | p :: r, q :: s, i + 1, x, y, ha, h1, h2, hn => by
    have e : p = q := Option.some.inj (ha 0 (by omega))
    unfold unlike
    rw [if_pos e, unlike_from, unlike_at (a := r) (b := s) (i := i) (fun j hj => ha (j + 1) (by omega)) h1 h2 hn]
    rfl
theorem unlike_none : ∀ {a b : List Int}, (∀ j : Nat, j < a.length → a[j]? = b[j]?) → unlike a b 0 = none
  | [], _, _ => by simp [unlike]
  | _ :: _, [], _ => by simp [unlike]
  | p :: r, q :: s, ha => by
    have e : p = q := Option.some.inj (ha 0 (by simp))
    unfold unlike
    rw [if_pos e, unlike_from, unlike_none (a := r) (b := s) fun j hj => ha (j + 1) (by simpa using hj)]
    rfl
/-! ### films -/
def Nn (l : List Int) : Prop := ∀ z, z ∈ l → 0 ≤ z
def film (w h : Int) (l : List Int) : Bool := side w && (side h && (decide ((l.length : Int) = 3 * w * h) && l.all fun n => decide (n ≤ 65535)))
theorem film_iff {w h : Int} {l : List Int} : film w h l = true ↔ (1 ≤ w ∧ w ≤ 256) ∧ (1 ≤ h ∧ h ≤ 256) ∧ (l.length : Int) = 3 * w * h ∧ ∀ z, z ∈ l → z ≤ 65535 := by
  unfold film
  simp only [Bool.and_eq_true, side_iff, decide_eq_true_iff, List.all_eq_true]
theorem nats_all : ∀ {l : List Int}, Nn l → ((Neutral.nats l).all fun n => decide (n ≤ CeSheet.FULL)) = l.all fun n => decide (n ≤ 65535)
  | [], _ => rfl
  | z :: r, h => by
    show (decide (z.toNat ≤ CeSheet.FULL) && (Neutral.nats r).all fun n => decide (n ≤ CeSheet.FULL)) = (decide (z ≤ 65535) && r.all fun n => decide (n ≤ 65535))
    rw [nats_all fun y hy => h y (List.mem_cons_of_mem _ hy)]
    have hz := h z (List.mem_cons_self ..)
    have e : decide (z.toNat ≤ CeSheet.FULL) = decide (z ≤ 65535) := by
      unfold CeSheet.FULL
      by_cases c : z ≤ 65535
      · rw [decide_eq_true c, decide_eq_true (by omega)]
      · rw [decide_eq_false c, decide_eq_false (by omega)]
    rw [e]
theorem film_iff_spec {w h : Int} {l : List Int} (hl : Nn l) : CeSheetSpec.filmOk (Neutral.nats l) w.toNat h.toNat = true ↔ film w h l = true := by
  unfold CeSheetSpec.filmOk film
  have el : (Neutral.nats l).length = l.length := by
    show (l.map Int.toNat).length = l.length
    rw [List.length_map]
  rw [nats_all hl, el]
  simp only [Bool.and_eq_true, size_iff, side_iff, beq_iff_eq, decide_eq_true_iff]
  constructor
  · rintro ⟨⟨h1, h2⟩, h3, h4⟩
    have hw : 0 ≤ w := by omega
    have hh : 0 ≤ h := by omega
    have := mul_nat hw hh
    refine ⟨by omega, by omega, ?_, h4⟩
    rw [Int.mul_assoc, ← this, h3, Int.natCast_mul]
    rfl
  · rintro ⟨h1, h2, h3, h4⟩
    have hw : 0 ≤ w := by omega
    have hh : 0 ≤ h := by omega
    have := mul_nat hw hh
    refine ⟨⟨by omega, by omega⟩, ?_, h4⟩
    rw [Int.mul_assoc] at h3
    omega
theorem film_spec {w h : Int} {l : List Int} (hl : Nn l) : CeSheetSpec.filmOk (Neutral.nats l) w.toNat h.toNat = film w h l := by
  cases e : film w h l with
  | true => exact (film_iff_spec hl).mpr e
  | false =>
    cases e2 : CeSheetSpec.filmOk (Neutral.nats l) w.toNat h.toNat with
    | false => rfl
    | true =>
      rw [(film_iff_spec hl).mp e2] at e
      cases e
/-! ### develop -/
def dev (n : Int) : Int := if (n + 32) / 64 < 255 then (n + 32) / 64 else 255
def developL (f : List Int) : List Int := f.map dev
theorem develop_un : ∀ {f : List Int}, Nn f → (CeSheet.developed (Neutral.nats f)).map un = developL f
  | [], _ => rfl
  | n :: r, h => by
    show un (UInt8.ofNat (min 255 ((n.toNat + 32) / 64))) :: (CeSheet.developed (Neutral.nats r)).map un = dev n :: developL r
    rw [develop_un fun y hy => h y (List.mem_cons_of_mem _ hy)]
    have hn := h n (List.mem_cons_self ..)
    have e : un (UInt8.ofNat (min 255 ((n.toNat + 32) / 64))) = dev n := by
      unfold un dev
      rw [UInt8.toNat_ofNat']
      have z : min 255 ((n.toNat + 32) / 64) % 2 ^ 8 = min 255 ((n.toNat + 32) / 64) := Nat.mod_eq_of_lt (by omega)
      rw [z]
      by_cases c : (n + 32) / 64 < 255
      · rw [if_pos c]
        omega
      · rw [if_neg c]
        omega
    rw [e]
def develop (w h : Int) (f : List Int) : List Int := if film w h f = true then ((developL f).length : Int) :: developL f else [-1]
theorem develop_is {w h : Int} {f : List Int} (h1 : Nn f) : PyWqasbp.develop w h f = develop w h f := by
  show Neutral.shown (if CeSheetSpec.filmOk (Neutral.nats f) w.toNat h.toNat = true then .bytes (CeSheet.developed (Neutral.nats f)) else CeSheetSpec.no 1) = _
  unfold develop
  rw [film_spec h1]
  by_cases c : film w h f = true
  · rw [if_pos c, if_pos c, shown_bytes, develop_un h1]
    have e := congrArg List.length (develop_un h1)
    rw [List.length_map] at e
    rw [e]
  · rw [if_neg c, if_neg c]
    rfl
/-! ### rows of rows -/
theorem grid {α : Type} (n : Nat) (g : Nat → Nat → α) : ∀ m : Nat, (List.range (m * n)).map (fun i => g (i / n) (i % n)) = (List.range m).flatMap fun c => (List.range n).map (g c)
  | 0 => by simp
  | m + 1 => by
    rw [Nat.succ_mul, List.range_add, List.map_append, grid n g m, List.range_succ, List.flatMap_append]
    congr 1
    rw [List.map_map, List.flatMap_singleton]
    refine List.map_congr_left fun x hx => ?_
    have hx' : x < n := List.mem_range.mp hx
    show g ((m * n + x) / n) ((m * n + x) % n) = g m x
    rw [Nat.mul_comm m n, Nat.mul_add_div (by omega), Nat.mul_add_mod, Nat.div_eq_of_lt hx', Nat.mod_eq_of_lt hx', Nat.add_zero]
/-! ### expose -/
def lightAt (model : List Int) (paint : Int) (c : Nat) : Int := model.getD (3 * paint + (c : Int)).toNat 0
def grow (n e l : Int) : Int := if n + e * l < 65535 then n + e * l else 65535
def exposeRow (film a model : List Int) (e : Int) (c : Nat) : List Int := (List.range a.length).map fun i => grow (film.getD (c * a.length + i) 0) e (lightAt model (a.getD i 0) c)
def exposeL (film a model : List Int) (e : Int) : List Int := (List.range 3).flatMap fun c => exposeRow film a model e c
theorem nats_getD (l : List Int) (i : Nat) : (Neutral.nats l).getD i 0 = (l.getD i 0).toNat := by
  show (l.map Int.toNat).getD i 0 = _
  rw [List.getD_eq_getElem?_getD, List.getD_eq_getElem?_getD, List.getElem?_map]
  cases l[i]? <;> rfl
theorem Nn.getD {l : List Int} (h : Nn l) (i : Nat) : 0 ≤ l.getD i 0 := by
  rw [List.getD_eq_getElem?_getD]
  cases e : l[i]? with
  | none => exact Int.le_refl 0
  | some z => exact h z (List.mem_of_getElem? e)
theorem expose_un {film a model : List Int} {e : Int} (he : 0 ≤ e) (hf : Nn film) (ha : Byt a) (hm : Byt model) :
    (CeSheet.exposed (Neutral.text model) (Neutral.text a) e.toNat (Neutral.nats film)).map (fun (n : Nat) => (n : Int)) = exposeL film a model e := by
  unfold CeSheet.exposed exposeL
  rw [text_len]
  have g := grid a.length (fun c i => grow (film.getD (c * a.length + i) 0) e (lightAt model (a.getD i 0) c)) 3
  show ((List.range (3 * a.length)).map _).map _ = _
  unfold exposeRow
  rw [← g, List.map_map]
  refine List.map_congr_left fun i hi => ?_
  have hi' : i < 3 * a.length := List.mem_range.mp hi
  have dm : i / a.length * a.length + i % a.length = i := by
    have := Nat.div_add_mod i a.length
    rw [Nat.mul_comm] at this
    exact this
  show ((CeSheet.grown ((Neutral.nats film).toArray.getD i 0) e.toNat ((Neutral.text model).toArray.getD (3 * ((Neutral.text a).toArray.getD (i % a.length) 0).toNat + i / a.length) 0).toNat : Nat) : Int) = _
  rw [arr_getD, arr_getD, arr_getD, nats_getD, text_getD, text_getD, u8_toNat (ha.getD _), u8_toNat (hm.getD _)]
  show _ = grow (film.getD (i / a.length * a.length + i % a.length) 0) e (lightAt model (a.getD (i % a.length) 0) (i / a.length))
  rw [dm]
  unfold lightAt
  have hp := ha.getD (i % a.length)
  generalize a.getD (i % a.length) 0 = p at hp
  generalize i / a.length = k
  have ep : (3 * p + (k : Int)).toNat = 3 * p.toNat + k := by omega
  rw [ep]
  have hl := hm.getD (3 * p.toNat + k)
  have hn := hf.getD i
  generalize model.getD (3 * p.toNat + k) 0 = l at hl
  generalize film.getD i 0 = n at hn
  unfold CeSheet.grown CeSheet.FULL grow
  have em : ((e.toNat * l.toNat : Nat) : Int) = e * l := mul_nat he hl.1
  generalize e.toNat * l.toNat = q at em
  rw [← em]
  by_cases c : n + (q : Int) < 65535
  · rw [if_pos c]
    omega
  · rw [if_neg c]
    omega
def expose (w h e : Int) (fl a model : List Int) : List Int := if (pts w h a && (film w h fl && (decide (model.length = 768) && decide (e ≤ 64)))) = true then exposeL fl a model e else [-1]
theorem expose_is {w h e : Int} {fl a model : List Int} (he : 0 ≤ e) (hf : Nn fl) (ha : Byt a) (hm : Byt model) : PyWqasbp.expose w h e fl a model = expose w h e fl a model := by
  show Neutral.shown (if CeSheetSpec.filmOk (Neutral.nats fl) w.toNat h.toNat = true ∧ CeSheetSpec.pointsOk (Neutral.text a) w.toNat h.toNat = true ∧ (Neutral.text model).length = 768 ∧ e.toNat ≤ 64 then
    .nums (CeSheet.exposed (Neutral.text model) (Neutral.text a) e.toNat (Neutral.nats fl)) else CeSheetSpec.no 1) = _
  unfold expose
  rw [pts_spec, film_spec hf, text_len]
  simp only [Bool.and_eq_true, decide_eq_true_iff]
  by_cases c : pts w h a = true ∧ film w h fl = true ∧ model.length = 768 ∧ e ≤ 64
  · rw [if_pos c, if_pos ⟨c.2.1, c.1, c.2.2.1, by omega⟩]
    exact expose_un he hf ha hm
  · rw [if_neg c, if_neg (fun q => c ⟨q.2.1, q.1, q.2.2.1, by omega⟩)]
    rfl
/-! ### move -/
def paintAt (w h : Int) (a : List Int) (x y : Int) : Int := if x < 0 ∨ x ≥ w ∨ y < 0 ∨ y ≥ h then 0 else a.getD (y * w + x).toNat 0
def moveRow (w h dx dy : Int) (a : List Int) (y : Nat) : List Int := (List.range w.toNat).map fun (x : Nat) => paintAt w h a ((x : Int) - dx) ((y : Int) - dy)
def moveL (w h dx dy : Int) (a : List Int) : List Int := (List.range h.toNat).flatMap fun y => moveRow w h dx dy a y
theorem move_un {w h dx dy : Int} {a : List Int} (hw : 0 ≤ w) (hh : 0 ≤ h) (ha : Byt a) : (CeSheet.Sheet.moved ⟨w.toNat, h.toNat, Neutral.text a⟩ dx dy).map un = moveL w h dx dy a := by
  unfold CeSheet.Sheet.moved moveL
  have g := grid w.toNat (fun (y x : Nat) => paintAt w h a ((x : Int) - dx) ((y : Int) - dy)) h.toNat
  unfold moveRow
  rw [← g, Nat.mul_comm h.toNat w.toNat]
  show ((List.range (w.toNat * h.toNat)).map _).map un = _
  rw [List.map_map]
  refine List.map_congr_left fun i hi => ?_
  show un (if 0 ≤ ((i % w.toNat : Nat) : Int) - dx ∧ ((i % w.toNat : Nat) : Int) - dx < (w.toNat : Int) ∧ 0 ≤ ((i / w.toNat : Nat) : Int) - dy ∧ ((i / w.toNat : Nat) : Int) - dy < (h.toNat : Int) then
    (Neutral.text a).toArray.getD ((((i / w.toNat : Nat) : Int) - dy).toNat * w.toNat + (((i % w.toNat : Nat) : Int) - dx).toNat) 0 else 0) = paintAt w h a (((i % w.toNat : Nat) : Int) - dx) (((i / w.toNat : Nat) : Int) - dy)
  generalize ((i % w.toNat : Nat) : Int) - dx = x
  generalize ((i / w.toNat : Nat) : Int) - dy = y
  unfold paintAt
  rw [Int.toNat_of_nonneg hw, Int.toNat_of_nonneg hh]
  by_cases c : x < 0 ∨ x ≥ w ∨ y < 0 ∨ y ≥ h
  · rw [if_pos c, if_neg (by omega)]
    rfl
  · rw [if_neg c, if_pos (by omega), arr_getD, text_getD, un_u8 (ha.getD _)]
    have e := mul_nat (w := y) (h := w) (by omega) hw
    congr 1
    omega
def move (w h dx dy : Int) (a : List Int) : List Int := if pts w h a = true then ((moveL w h dx dy a).length : Int) :: moveL w h dx dy a else [-1]
theorem move_is {w h dx dy : Int} {a : List Int} (h1 : Byt a) : PyWqasbp.move w h dx dy a = move w h dx dy a := by
  show Neutral.shown (if CeSheetSpec.pointsOk (Neutral.text a) w.toNat h.toNat = true then .bytes (CeSheet.Sheet.moved ⟨w.toNat, h.toNat, Neutral.text a⟩ dx dy) else CeSheetSpec.no 1) = _
  unfold move
  rw [pts_spec]
  by_cases c : pts w h a = true
  · have q := pts_iff.mp c
    have m := move_un (dx := dx) (dy := dy) (w := w) (h := h) (by omega) (by omega) h1
    rw [if_pos c, if_pos c, shown_bytes, m]
    have e := congrArg List.length m
    rw [List.length_map] at e
    rw [e]
  · rw [if_neg c, if_neg c]
    rfl
end Pm
namespace Pm
/-! ### box -/
def placesL (w : Int) (a : List Int) : List (Int × Int) := (a.zipIdx.filter fun (x : Int × Nat) => decide (x.1 ≠ 0)).map fun (x : Int × Nat) => (((x.2 : Nat) : Int) % w, ((x.2 : Nat) : Int) / w)
theorem places_more {w : Int} {a : List Int} {i : Nat} {z : Int} (h : a[i]? = some z) : placesL w (a.take (i + 1)) = placesL w (a.take i) ++ (if z ≠ 0 then [((i : Int) % w, (i : Int) / w)] else []) := by
  have hi : i < a.length := by
    have := List.getElem?_eq_some_iff.mp h
    exact this.1
  have e : a.take (i + 1) = a.take i ++ [z] := by
    rw [List.take_add_one, h]
    rfl
  have el : (a.take i).length = i := by rw [List.length_take]; omega
  unfold placesL
  rw [e, List.zipIdx_append, List.filter_append, List.map_append, el]
  congr 1
  by_cases c : z ≠ 0
  · rw [if_pos c]
    simp [List.zipIdx, List.filter, c]
  · rw [if_neg c]
    simp [List.zipIdx, List.filter, c]
theorem places_len (w : Int) (a : List Int) : (placesL w a).length ≤ a.length := by
  unfold placesL
  rw [List.length_map]
  refine Nat.le_trans (List.length_filter_le _ _) ?_
  rw [List.length_zipIdx]
  exact Nat.le_refl _
theorem painted_go : ∀ (a : List Int) (k : Nat), Byt a → ((Neutral.text a).zipIdx k).filter (fun (x : UInt8 × Nat) => x.1 != 0) = ((a.zipIdx k).filter fun (x : Int × Nat) => decide (x.1 ≠ 0)).map fun (x : Int × Nat) => (u8 x.1, x.2)
  | [], _, _ => rfl
  | z :: r, k, h => by
    have ih := painted_go r (k + 1) fun y hy => h y (List.mem_cons_of_mem _ hy)
    have hz := h z (List.mem_cons_self ..)
    show ((u8 z, k) :: (Neutral.text r).zipIdx (k + 1)).filter _ = (((z, k) :: r.zipIdx (k + 1)).filter _).map _
    rw [List.filter_cons, List.filter_cons, ih]
    by_cases c : z = 0
    · have e1 : ((u8 z, k).1 != 0) = false := by
        show (u8 z != 0) = false
        rw [(u8_zero hz).mpr c]
        rfl
      have e2 : decide ((z, k).1 ≠ 0) = false := decide_eq_false (fun q => q c)
      rw [e1, e2]
      rfl
    · have e1 : ((u8 z, k).1 != 0) = true := by
        rw [bne_iff_ne]
        exact fun q => c ((u8_zero hz).mp q)
      have e2 : decide ((z, k).1 ≠ 0) = true := decide_eq_true c
      rw [e1, e2]
      rfl
theorem painted_spec {w h : Nat} {a : List Int} (ha : Byt a) : (CeSheet.Sheet.painted ⟨w, h, Neutral.text a⟩).map (fun (q : Nat × Nat) => ((q.1 : Int), (q.2 : Int))) = placesL (w : Int) a := by
  unfold CeSheet.Sheet.painted placesL
  show ((((Neutral.text a).zipIdx 0).filter _).map _).map _ = _
  rw [painted_go a 0 ha, List.map_map, List.map_map]
  exact List.map_congr_left fun x _ => rfl
theorem fold_parts : ∀ (r : List (Nat × Nat)) (b : Nat × Nat × Nat × Nat), r.foldl (fun (b : Nat × Nat × Nat × Nat) (q : Nat × Nat) => (min b.1 q.1, min b.2.1 q.2, max b.2.2.1 q.1, max b.2.2.2 q.2)) b =
    (r.foldl (fun m q => min m q.1) b.1, r.foldl (fun m q => min m q.2) b.2.1, r.foldl (fun m q => max m q.1) b.2.2.1, r.foldl (fun m q => max m q.2) b.2.2.2)
  | [], _ => rfl
  | q :: r, b => by
    rw [List.foldl_cons, fold_parts r]
    rfl
theorem fmin {f : Nat × Nat → Nat} : ∀ (r : List (Nat × Nat)) (m : Nat), (r.foldl (fun m q => min m (f q)) m ≤ m ∧ ∀ q, q ∈ r → r.foldl (fun m q => min m (f q)) m ≤ f q) ∧ (r.foldl (fun m q => min m (f q)) m = m ∨ ∃ q, q ∈ r ∧ r.foldl (fun m q => min m (f q)) m = f q)
  | [], m => ⟨⟨Nat.le_refl _, fun _ h => absurd h (by simp)⟩, .inl rfl⟩
  | x :: r, m => by
    rw [List.foldl_cons]
    obtain ⟨⟨h1, h2⟩, h3⟩ := fmin (f := f) r (min m (f x))
    generalize r.foldl (fun m q => min m (f q)) (min m (f x)) = v at h1 h2 h3
    refine ⟨⟨by omega, fun q hq => ?_⟩, ?_⟩
    · rcases List.mem_cons.mp hq with e | e
      · subst e
        omega
      · exact h2 q e
    · rcases h3 with e | ⟨q, hq, e⟩
      · by_cases c : m ≤ f x
        · exact .inl (by omega)
        · exact .inr ⟨x, List.mem_cons_self .., by omega⟩
      · exact .inr ⟨q, List.mem_cons_of_mem _ hq, e⟩
theorem fmax {f : Nat × Nat → Nat} : ∀ (r : List (Nat × Nat)) (m : Nat), (m ≤ r.foldl (fun m q => max m (f q)) m ∧ ∀ q, q ∈ r → f q ≤ r.foldl (fun m q => max m (f q)) m) ∧ (r.foldl (fun m q => max m (f q)) m = m ∨ ∃ q, q ∈ r ∧ r.foldl (fun m q => max m (f q)) m = f q)
  | [], m => ⟨⟨Nat.le_refl _, fun _ h => absurd h (by simp)⟩, .inl rfl⟩
  | x :: r, m => by
    rw [List.foldl_cons]
    obtain ⟨⟨h1, h2⟩, h3⟩ := fmax (f := f) r (max m (f x))
    generalize r.foldl (fun m q => max m (f q)) (max m (f x)) = v at h1 h2 h3
    refine ⟨⟨by omega, fun q hq => ?_⟩, ?_⟩
    · rcases List.mem_cons.mp hq with e | e
      · subst e
        omega
      · exact h2 q e
    · rcases h3 with e | ⟨q, hq, e⟩
      · by_cases c : f x ≤ m
        · exact .inl (by omega)
        · exact .inr ⟨x, List.mem_cons_self .., by omega⟩
      · exact .inr ⟨q, List.mem_cons_of_mem _ hq, e⟩
/-- the least of a list is the one that is in it and not above any -/
theorem least_is {f : Nat × Nat → Nat} {p : Nat × Nat} {r : List (Nat × Nat)} {m : Int} (h1 : m ∈ (p :: r).map fun q => ((f q : Nat) : Int)) (h2 : ∀ y, y ∈ ((p :: r).map fun q => ((f q : Nat) : Int)) → m ≤ y) :
    m = ((r.foldl (fun m q => min m (f q)) (f p) : Nat) : Int) := by
  obtain ⟨⟨a1, a2⟩, a3⟩ := fmin (f := f) r (f p)
  obtain ⟨q, hq, e⟩ := List.mem_map.mp h1
  have le1 : r.foldl (fun m q => min m (f q)) (f p) ≤ f q := by
    rcases List.mem_cons.mp hq with z | z
    · rw [z]
      exact a1
    · exact a2 q z
  have le2 : m ≤ ((r.foldl (fun m q => min m (f q)) (f p) : Nat) : Int) := by
    rcases a3 with z | ⟨y, hy, z⟩
    · rw [z]
      exact h2 _ (List.mem_map.mpr ⟨p, List.mem_cons_self .., rfl⟩)
    · rw [z]
      exact h2 _ (List.mem_map.mpr ⟨y, List.mem_cons_of_mem _ hy, rfl⟩)
  omega
theorem most_is {f : Nat × Nat → Nat} {p : Nat × Nat} {r : List (Nat × Nat)} {m : Int} (h1 : m ∈ (p :: r).map fun q => ((f q : Nat) : Int)) (h2 : ∀ y, y ∈ ((p :: r).map fun q => ((f q : Nat) : Int)) → y ≤ m) :
    m = ((r.foldl (fun m q => max m (f q)) (f p) : Nat) : Int) := by
  obtain ⟨⟨a1, a2⟩, a3⟩ := fmax (f := f) r (f p)
  obtain ⟨q, hq, e⟩ := List.mem_map.mp h1
  have le1 : f q ≤ r.foldl (fun m q => max m (f q)) (f p) := by
    rcases List.mem_cons.mp hq with z | z
    · rw [z]
      exact a1
    · exact a2 q z
  have le2 : ((r.foldl (fun m q => max m (f q)) (f p) : Nat) : Int) ≤ m := by
    rcases a3 with z | ⟨y, hy, z⟩
    · rw [z]
      exact h2 _ (List.mem_map.mpr ⟨p, List.mem_cons_self .., rfl⟩)
    · rw [z]
      exact h2 _ (List.mem_map.mpr ⟨y, List.mem_cons_of_mem _ hy, rfl⟩)
  omega
theorem box_show (w h : Int) (a : List Int) : PyWqasbp.box w h a = Neutral.shown (if CeSheetSpec.pointsOk (Neutral.text a) w.toNat h.toNat = true then (match CeSheet.Sheet.box ⟨w.toNat, h.toNat, Neutral.text a⟩ with
    | some x => .nums [x.1, x.2.1, x.2.2.1, x.2.2.2]
    | none => CeSheetSpec.no 3) else CeSheetSpec.no 1) := rfl
theorem box_bad {w h : Int} {a : List Int} (c : pts w h a = false) : PyWqasbp.box w h a = [-1] := by
  rw [box_show, pts_spec, c, if_neg Bool.false_ne_true]
  rfl
theorem box_none {w h : Int} {a : List Int} (h1 : Byt a) (c : pts w h a = true) (e : placesL w a = []) : PyWqasbp.box w h a = [-3] := by
  have q := pts_iff.mp c
  have hp := painted_spec (w := w.toNat) (h := h.toNat) h1
  rw [Int.toNat_of_nonneg (by omega), e] at hp
  rw [box_show, pts_spec, c, if_pos rfl]
  unfold CeSheet.Sheet.box
  rw [List.map_eq_nil_iff.mp hp]
  rfl
theorem box_some {w h : Int} {a : List Int} (h1 : Byt a) (c : pts w h a = true) (e : placesL w a ≠ []) {m1 m2 m3 m4 : Int}
    (a1 : m1 ∈ (placesL w a).map Prod.fst) (b1 : ∀ y, y ∈ (placesL w a).map Prod.fst → m1 ≤ y) (a2 : m2 ∈ (placesL w a).map Prod.snd) (b2 : ∀ y, y ∈ (placesL w a).map Prod.snd → m2 ≤ y)
    (a3 : m3 ∈ (placesL w a).map Prod.fst) (b3 : ∀ y, y ∈ (placesL w a).map Prod.fst → y ≤ m3) (a4 : m4 ∈ (placesL w a).map Prod.snd) (b4 : ∀ y, y ∈ (placesL w a).map Prod.snd → y ≤ m4) : PyWqasbp.box w h a = [m1, m2, m3, m4] := by
  have q := pts_iff.mp c
  have hp := painted_spec (w := w.toNat) (h := h.toNat) h1
  rw [Int.toNat_of_nonneg (by omega)] at hp
  rw [box_show, pts_spec, c, if_pos rfl]
  unfold CeSheet.Sheet.box
  cases hs : CeSheet.Sheet.painted ⟨w.toNat, h.toNat, Neutral.text a⟩ with
  | nil =>
    rw [hs] at hp
    exact absurd hp.symm e
  | cons p r =>
    rw [hs] at hp
    have ex : (placesL w a).map Prod.fst = (p :: r).map fun q => ((q.1 : Nat) : Int) := by
      rw [← hp, List.map_map]
      exact List.map_congr_left fun _ _ => rfl
    have ey : (placesL w a).map Prod.snd = (p :: r).map fun q => ((q.2 : Nat) : Int) := by
      rw [← hp, List.map_map]
      exact List.map_congr_left fun _ _ => rfl
    rw [ex] at a1 b1 a3 b3
    rw [ey] at a2 b2 a4 b4
    rw [least_is (f := Prod.fst) a1 b1, least_is (f := Prod.snd) a2 b2, most_is (f := Prod.fst) a3 b3, most_is (f := Prod.snd) a4 b4]
    show Neutral.shown (.nums [(r.foldl _ (p.1, p.2, p.1, p.2)).1, _, _, _]) = _
    rw [fold_parts]
    rfl
/-! ### keep -/
theorem u8_un (c : UInt8) : u8 (un c) = c := by
  unfold u8 un
  simp
/-- one paint more -/
def runStep : List (Int × Int) → Int → List (Int × Int)
  | [], p => [(1, p)]
  | [x], p => if x.2 = p then [(x.1 + 1, p)] else [x, (1, p)]
  | x :: y :: t, p => x :: runStep (y :: t) p
def runCons (q : Int) : List (Int × Int) → List (Int × Int)
  | x :: t => if q = x.2 then (x.1 + 1, x.2) :: t else (1, q) :: x :: t
  | [] => [(1, q)]
def runsI : List Int → List (Int × Int)
  | [] => []
  | q :: r => runCons q (runsI r)
theorem runStep_end : ∀ (L : List (Int × Int)) (m q p : Int), runStep (L ++ [(m, q)]) p = if q = p then L ++ [(m + 1, p)] else L ++ [(m, q), (1, p)]
  | [], m, q, p => by
    show (if q = p then [(m + 1, p)] else [(m, q), (1, p)]) = _
    rfl
  | [x], m, q, p => by
    show x :: (if q = p then [(m + 1, p)] else [(m, q), (1, p)]) = _
    by_cases c : q = p
    · rw [if_pos c, if_pos c]
      rfl
    · rw [if_neg c, if_neg c]
      rfl
  | x :: y :: t, m, q, p => by
    have ih := runStep_end (y :: t) m q p
    show x :: runStep (y :: (t ++ [(m, q)])) p = _
    rw [show y :: (t ++ [(m, q)]) = (y :: t) ++ [(m, q)] from rfl, ih]
    by_cases c : q = p
    · rw [if_pos c, if_pos c]
      rfl
    · rw [if_neg c, if_neg c]
      rfl
theorem runCons_step (q p : Int) : ∀ L : List (Int × Int), runCons q (runStep L p) = runStep (runCons q L) p
  | [] => by
    show (if q = p then [(1 + 1, p)] else [(1, q), (1, p)]) = (if q = p then [(1 + 1, p)] else [(1, q), (1, p)])
    rfl
  | [x] => by
    show runCons q (if x.2 = p then [(x.1 + 1, p)] else [x, (1, p)]) = runStep (if q = x.2 then [(x.1 + 1, x.2)] else [(1, q), x]) p
    by_cases c1 : x.2 = p
    · rw [if_pos c1]
      show (if q = p then [(x.1 + 1 + 1, p)] else [(1, q), (x.1 + 1, p)]) = _
      by_cases c2 : q = x.2
      · rw [if_pos c2, if_pos (c2.trans c1)]
        show _ = (if x.2 = p then [(x.1 + 1 + 1, p)] else [(x.1 + 1, x.2), (1, p)])
        rw [if_pos c1]
      · rw [if_neg c2, if_neg (fun z => c2 (z.trans c1.symm))]
        show _ = (1, q) :: (if x.2 = p then [(x.1 + 1, p)] else [x, (1, p)])
        rw [if_pos c1]
    · rw [if_neg c1]
      show (if q = x.2 then (x.1 + 1, x.2) :: [(1, p)] else (1, q) :: x :: [(1, p)]) = _
      by_cases c2 : q = x.2
      · rw [if_pos c2, if_pos c2]
        show _ = (if x.2 = p then [(x.1 + 1 + 1, p)] else [(x.1 + 1, x.2), (1, p)])
        rw [if_neg c1]
      · rw [if_neg c2, if_neg c2]
        show _ = (1, q) :: (if x.2 = p then [(x.1 + 1, p)] else [x, (1, p)])
        rw [if_neg c1]
  | x :: y :: t => by
    show runCons q (x :: runStep (y :: t) p) = runStep (if q = x.2 then (x.1 + 1, x.2) :: y :: t else (1, q) :: x :: y :: t) p
    show (if q = x.2 then (x.1 + 1, x.2) :: runStep (y :: t) p else (1, q) :: x :: runStep (y :: t) p) = _
    by_cases c2 : q = x.2
    · rw [if_pos c2, if_pos c2]
      rfl
    · rw [if_neg c2, if_neg c2]
      rfl
theorem runsI_end : ∀ (l : List Int) (p : Int), runsI (l ++ [p]) = runStep (runsI l) p
  | [], _ => rfl
  | q :: r, p => by
    show runCons q (runsI (r ++ [p])) = runStep (runCons q (runsI r)) p
    rw [runsI_end r p, runCons_step]
theorem runs_more {l : List Int} {i : Nat} {p : Int} (h : l[i]? = some p) : runsI (l.take (i + 1)) = runStep (runsI (l.take i)) p := by
  rw [List.take_add_one, h]
  exact runsI_end _ _
/-- how many points, and paints -/
theorem runsI_ok : ∀ {l : List Int}, Byt l → (∀ x, x ∈ runsI l → 1 ≤ x.1 ∧ x.1 ≤ (l.length : Int) ∧ 0 ≤ x.2 ∧ x.2 ≤ 255)
  | [], _, x, h => absurd h (by simp [runsI])
  | q :: r, hb, x, h => by
    have ih := runsI_ok (l := r) fun y hy => hb y (List.mem_cons_of_mem _ hy)
    have hq := hb q (List.mem_cons_self ..)
    have h' : x ∈ runCons q (runsI r) := h
    have el : ((q :: r).length : Int) = (r.length : Int) + 1 := by simp
    rw [el]
    cases hr : runsI r with
    | nil =>
      rw [hr] at h'
      have e : x = (1, q) := by simpa [runCons] using h'
      subst e
      exact ⟨Int.le_refl 1, by omega, hq.1, hq.2⟩
    | cons y t =>
      rw [hr] at h' ih
      have h2 : x ∈ (if q = y.2 then (y.1 + 1, y.2) :: t else (1, q) :: y :: t) := h'
      have hy := ih y (List.mem_cons_self ..)
      by_cases c : q = y.2
      · rw [if_pos c] at h2
        rcases List.mem_cons.mp h2 with e | e
        · subst e
          exact ⟨by show 1 ≤ y.1 + 1; omega, by show y.1 + 1 ≤ _; omega, hy.2.2⟩
        · have := ih x (List.mem_cons_of_mem _ e)
          exact ⟨this.1, by omega, this.2.2⟩
      · rw [if_neg c] at h2
        rcases List.mem_cons.mp h2 with e | e
        · subst e
          exact ⟨Int.le_refl 1, by show (1 : Int) ≤ _; omega, hq.1, hq.2⟩
        · have := ih x e
          exact ⟨this.1, by omega, this.2.2⟩
theorem runsI_len : ∀ l : List Int, (runsI l).length ≤ l.length
  | [] => Nat.le_refl _
  | q :: r => by
    have ih := runsI_len r
    show (runCons q (runsI r)).length ≤ r.length + 1
    cases hr : runsI r with
    | nil => simp [runCons]
    | cons y t =>
      rw [hr] at ih
      show (if q = y.2 then (y.1 + 1, y.2) :: t else (1, q) :: y :: t).length ≤ r.length + 1
      by_cases c : q = y.2
      · rw [if_pos c]
        simp only [List.length_cons] at ih ⊢
        omega
      · rw [if_neg c]
        simp only [List.length_cons] at ih ⊢
        omega
theorem runs_spec : ∀ {l : List Int}, Byt l → (CeSheet.runsOf (Neutral.text l)).map (fun (x : Nat × UInt8) => ((x.1 : Int), un x.2)) = runsI l
  | [], _ => rfl
  | q :: r, h => by
    have ih := runs_spec (l := r) fun y hy => h y (List.mem_cons_of_mem _ hy)
    have hq := h q (List.mem_cons_self ..)
    have hr := runsI_ok (l := r) fun y hy => h y (List.mem_cons_of_mem _ hy)
    show (match CeSheet.runsOf (Neutral.text r) with
      | x :: l => if u8 q = x.2 then (x.1 + 1, x.2) :: l else (1, u8 q) :: x :: l
      | [] => [(1, u8 q)]).map _ = runCons q (runsI r)
    cases hs : CeSheet.runsOf (Neutral.text r) with
    | nil =>
      rw [hs] at ih
      rw [← ih]
      show [(((1 : Nat) : Int), un (u8 q))] = [(1, q)]
      rw [un_u8 hq]
      rfl
    | cons x l =>
      rw [hs] at ih
      rw [← ih]
      show (if u8 q = x.2 then (x.1 + 1, x.2) :: l else (1, u8 q) :: x :: l).map (fun (x : Nat × UInt8) => ((x.1 : Int), un x.2)) =
        (if q = un x.2 then (((x.1 : Nat) : Int) + 1, un x.2) :: l.map (fun (x : Nat × UInt8) => ((x.1 : Int), un x.2)) else (1, q) :: ((x.1 : Int), un x.2) :: l.map (fun (x : Nat × UInt8) => ((x.1 : Int), un x.2)))
      by_cases c : u8 q = x.2
      · have c' : q = un x.2 := by rw [← c, un_u8 hq]
        rw [if_pos c, if_pos c']
        rfl
      · have c' : ¬ q = un x.2 := fun z => c (by rw [z, u8_un])
        rw [if_neg c, if_neg c']
        show (((1 : Nat) : Int), un (u8 q)) :: _ = _
        rw [un_u8 hq]
        rfl
def rowB (l : List Int) : List Int := (runsI l).flatMap fun (x : Int × Int) => [x.1 - 1, x.2]
theorem low_un (n : Nat) (h : n ≤ 256) : (CeSheet.low2 n).map un = [(n : Int) % 256, (n : Int) / 256] := by
  unfold CeSheet.low2
  show [un (UInt8.ofNat (n % 256)), un (UInt8.ofNat (n / 256 % 256))] = _
  unfold un
  rw [UInt8.toNat_ofNat', UInt8.toNat_ofNat']
  have e1 : n % 256 % 2 ^ 8 = n % 256 := Nat.mod_eq_of_lt (by omega)
  have e2 : n / 256 % 256 % 2 ^ 8 = n / 256 := by omega
  rw [e1, e2]
  rfl
theorem rowB_spec {l : List Int} (h : Byt l) (hl : l.length ≤ 256) : (CeSheet.rowBytes (Neutral.text l)).map un = rowB l := by
  have hr := runs_spec h
  have ho := runsI_ok h
  unfold CeSheet.rowBytes rowB
  rw [← hr] at ho ⊢
  generalize CeSheet.runsOf (Neutral.text l) = R at ho
  clear hr
  induction R with
  | nil => rfl
  | cons x t ih =>
    have hx := ho (((x.1 : Nat) : Int), un x.2) (List.mem_cons_self ..)
    have e := ih fun y hy => ho y (List.mem_cons_of_mem _ hy)
    rw [List.flatMap_cons, List.map_append, e]
    show [un (UInt8.ofNat (x.1 - 1)), un x.2] ++ _ = [((x.1 : Nat) : Int) - 1, un x.2] ++ _
    have e2 : un (UInt8.ofNat (x.1 - 1)) = ((x.1 : Nat) : Int) - 1 := by
      unfold un
      rw [UInt8.toNat_ofNat']
      have h1 : (1 : Int) ≤ (x.1 : Int) := hx.1
      have h2 : (x.1 : Int) ≤ (l.length : Int) := hx.2.1
      have z : (x.1 - 1) % 2 ^ 8 = x.1 - 1 := Nat.mod_eq_of_lt (by omega)
      rw [z]
      omega
    rw [e2]
    rfl
def rowAt (w : Nat) (a : List Int) (y : Nat) : List Int := (a.drop (y * w)).take w
theorem rows_spec (w : Nat) : ∀ (k : Nat) (l : List Int), CeSheet.rowsOf w k (Neutral.text l) = (List.range k).map fun y => Neutral.text (rowAt w l y)
  | 0, _ => rfl
  | k + 1, l => by
    show (Neutral.text l).take w :: CeSheet.rowsOf w k ((Neutral.text l).drop w) = _
    have e1 : (Neutral.text l).drop w = Neutral.text (l.drop w) := by
      rw [text_eq, text_eq, List.map_drop]
    rw [e1, rows_spec w k, List.range_succ_eq_map, List.map_cons, List.map_map]
    congr 1
    · rw [text_eq, text_eq, ← List.map_take]
      unfold rowAt
      rw [Nat.zero_mul, List.drop_zero]
    · refine List.map_congr_left fun y _ => ?_
      show Neutral.text (rowAt w (l.drop w) y) = Neutral.text (rowAt w l (y + 1))
      unfold rowAt
      rw [List.drop_drop, Nat.add_mul, Nat.one_mul, Nat.add_comm w (y * w)]
def keepL (w h : Int) (a : List Int) : List Int := [67, 69, 76, 49] ++ [w % 256, w / 256] ++ [h % 256, h / 256] ++ (List.range h.toNat).flatMap fun y => rowB (rowAt w.toNat a y)
theorem Byt.rowAt {a : List Int} (h : Byt a) (w y : Nat) : Byt (rowAt w a y) := fun z hz => h z (List.mem_of_mem_drop (List.mem_of_mem_take hz))
theorem keep_un {w h : Int} {a : List Int} (hw : 1 ≤ w ∧ w ≤ 256) (hh : 1 ≤ h ∧ h ≤ 256) (ha : Byt a) : (CeSheet.Sheet.bytes ⟨w.toNat, h.toNat, Neutral.text a⟩).map un = keepL w h a := by
  unfold CeSheet.Sheet.bytes keepL
  show (CeSheet.MARK ++ (CeSheet.low2 w.toNat ++ (CeSheet.low2 h.toNat ++ (CeSheet.rowsOf w.toNat h.toNat (Neutral.text a)).flatMap CeSheet.rowBytes))).map un = _
  rw [List.map_append, List.map_append, List.map_append, low_un _ (by omega), low_un _ (by omega), rows_spec, Int.toNat_of_nonneg (by omega), Int.toNat_of_nonneg (by omega), List.append_assoc, List.append_assoc]
  congr 3
  rw [List.map_flatMap, List.flatMap_map]
  refine congrArg (fun f => List.flatMap f (List.range h.toNat)) (funext fun y => ?_)
  refine rowB_spec (ha.rowAt _ _) ?_
  unfold Pm.rowAt
  rw [List.length_take]
  omega
def keep (w h : Int) (a : List Int) : List Int := if pts w h a = true then ((keepL w h a).length : Int) :: keepL w h a else [-1]
theorem keep_is {w h : Int} {a : List Int} (h1 : Byt a) : PyWqasbp.keep w h a = keep w h a := by
  show Neutral.shown (if CeSheetSpec.pointsOk (Neutral.text a) w.toNat h.toNat = true then .bytes (CeSheet.Sheet.bytes ⟨w.toNat, h.toNat, Neutral.text a⟩) else CeSheetSpec.no 1) = _
  unfold keep
  rw [pts_spec]
  by_cases c : pts w h a = true
  · have q := pts_iff.mp c
    have m := keep_un q.1 q.2.1 h1
    rw [if_pos c, if_pos c, shown_bytes, m]
    have e := congrArg List.length m
    rw [List.length_map] at e
    rw [e]
  · rw [if_neg c, if_neg c]
    rfl
end Pm
namespace Wk
open PySem PySem.Spec PyProof.Rows L2
/-! ### the text: the i-th statement of the top -/
def topS (i : Nat) : Stmt := PySem.Challenge.pw_paintsheets_s09_box.main.body.getD i (.Pass ⟨0, 0, 0, 0⟩)
abbrev sSide : Stmt := topS 5
theorem scSide : FnScope ["number"] ["number"] (defScope sSide) := ⟨rfl, rfl, rfl, by decide +kernel, rfl, by decide +kernel, by decide +kernel⟩
/-! ### small words -/
theorem same_upd {H : Hp} {p : Addr} {o : HO} (h : H p = none) : Same H (upd H p o) := fun b x e => by
  rw [upd_ne (ne_of_none e h)]
  exact e
theorem line_le {n m : Nat} (h : n ≤ m) (hm : m ≤ 16777216 := by decide) : n ≤ sizeLine := by
  rw [sizeLine_eq]
  omega
theorem line_lt {n m : Nat} (h : n ≤ m) (hm : m < 16777216 := by decide) : n < sizeLine := by
  rw [sizeLine_eq]
  omega
theorem int_at {ns : List Int} {i : Nat} {y : V} (h : (ns.map V.int)[i]? = some y) : ∃ z, ns[i]? = some z ∧ y = .int z := by
  rw [List.getElem?_map] at h
  cases e : ns[i]? with
  | none =>
    rw [e] at h
    cases h
  | some z =>
    rw [e] at h
    exact ⟨z, rfl, (Option.some.inj h).symm⟩
theorem at_int {ns : List Int} {i : Nat} {z : Int} (h : ns[i]? = some z) : (ns.map V.int)[i]? = some (.int z) := by
  rw [List.getElem?_map, h]
  rfl
theorem take_more {α : Type} {l : List α} {i : Nat} {x : α} (h : l[i]? = some x) : l.take (i + 1) = l.take i ++ [x] := by
  rw [List.take_add_one, h]
  rfl
theorem some_eq {l : List Int} {i : Nat} {z : Int} (h : l[i]? = some z) : l.getD i 0 = z := by
  rw [List.getD_eq_getElem?_getD, h]
  rfl
theorem eq_int {i j : Int} : decide (V.int i = V.int j) = decide (i = j) := by
  by_cases c : i = j
  · subst c
    simp
  · rw [decide_eq_false c, decide_eq_false (fun q => c (V.int.inj q))]
section
variable {P : Program} {w : World} {K : PySem.W.Frag} {mg : Str → Option Value} {base : Heap}
/-! ### is_side -/
def spSide : Sp := fun vs H Q _ => ∃ n : Int, vs = [.int n] ∧ Q (.bl (Pm.side n)) H
theorem ok_side {f : Addr} {fd : FuncData} {t : Tok} (F : Fun K "is_side" "is_side" sSide f fd) (mM : mg "MOST_SIDE" = some (.int 256 t)) : FnOk P w K mg base CX0 1 f fd ["number"] spSide := by
  refine F.ok scSide (fun vs H Q E h => ?_) (fun cdv A outer s H vs Q E hr h => ?_)
  · obtain ⟨n, rfl, _⟩ := h
    rfl
  · obtain ⟨n, rfl, q⟩ := h
    refine ⟨_, pss_one (ps_ret (pe_and (pe_cmpR op_le pe_int (pv 0) (nomark _)) (pe_one (pe_cmpR op_le (pv 0) (pe_glob (v := .int 256) (by rfl) mM ⟨_, rfl⟩) (nomark _))))), ?_⟩
    refine ⟨_, rfl, _, _, rfl, rfl, _, rfl, ite2 (fun c => ?_) (fun c => ?_)⟩
    · refine ⟨_, rfl, _, _, rfl, rfl, ?_⟩
      have e : Pm.side n = decide (n ≤ 256) := by
        unfold Pm.side
        rw [c, Bool.true_and]
      rw [e] at q
      exact q
    · have e : Pm.side n = false := by
        unfold Pm.side
        rw [Bool.eq_false_iff.mpr c, Bool.false_and]
      rw [e] at q
      exact q
end
end Wk
namespace Wk
open PySem PySem.Spec PyProof.Rows L2
abbrev sPts : Stmt := topS 9
theorem scPts : FnScope ["w", "h", "row"] ["w", "h", "row"] (defScope sPts) := ⟨rfl, rfl, rfl, by decide +kernel, rfl, by decide +kernel, by decide +kernel⟩
section
variable {P : Program} {w : World} {K : PySem.W.Frag} {mg : Str → Option Value} {base : Heap}
/-! ### are_points -/
def spPts (K : PySem.W.Frag) : Sp := fun vs H Q _ => ∃ (w h : Int) (a : Addr) (l : List Int), vs = [.int w, .int h, .ref a] ∧ SqL K H a (l.map V.int) ∧ Q (.bl (Pm.pts w h l)) H
theorem ok_pts {f fI : Addr} {fd fdI : FuncData} (F : Fun K "are_points" "are_points" sPts f fd) (GI : FnOk P w K mg base CX0 1 fI fdI ["number"] spSide) (gI : mg "is_side" = some (.ref fI)) (kI : PySem.W.keepIn K (.ref fI) = true) (bI : Binds K fdI ["number"] []) (mL : mg "len" = none) :
    FnOk P w K mg base CX0 2 f fd ["w", "h", "row"] (spPts K) := by
  refine F.ok scPts (fun vs H Q E h => ?_) (fun cdv A outer s H vs Q E hr h => ?_)
  · obtain ⟨w, h, a, l, rfl, _⟩ := h
    rfl
  · obtain ⟨w, h, a, l, rfl, hS, q⟩ := h
    refine ⟨_, pss_one (ps_ret (pe_and (pe_call GI hr (by rfl) gI kI bI .nil pass0 (pa_cons (pv 0) pa_nil)) (pe_and (pe_call GI hr (by rfl) gI kI bI .nil pass0 (pa_cons (pv 1) pa_nil))
      (pe_one (pe_cmpR op_eq (pe_callB call_len_seq (by rfl) mL PySem.boot_len (pa_cons (pv 2) pa_nil)) (pe_op op_mul (pv 0) (pv 1)) (nomark _)))))), ?_⟩
    have e0 : Pm.pts w h l = (Pm.side w && (Pm.side h && decide ((l.length : Int) = w * h))) := rfl
    refine ⟨_, rfl, w, rfl, _, rfl, ite2 (fun c1 => ?_) (fun c1 => ?_)⟩
    · rw [c1, Bool.true_and] at e0
      refine ⟨_, rfl, h, rfl, _, rfl, ite2 (fun c2 => ?_) (fun c2 => ?_)⟩
      · rw [c2, Bool.true_and] at e0
        have b1 := Pm.side_iff.mp c1
        refine ⟨_, rfl, a, _, rfl, .inl hS, _, rfl, _, rfl, w, h, rfl, rfl, .inl ⟨by omega, by omega⟩, rfl, ?_⟩
        rw [eq_int, List.length_map, ← e0]
        exact q
      · rw [Bool.eq_false_iff.mpr c2, Bool.false_and] at e0
        rw [e0] at q
        exact q
    · rw [Bool.eq_false_iff.mpr c1, Bool.false_and] at e0
      rw [e0] at q
      exact q
end
end Wk
namespace Wk
open PySem PySem.Spec PyProof.Rows L2
theorem getD_at {l : List Int} {i : Nat} (h : i < l.length) : l[i]? = some (l.getD i 0) := by
  rw [List.getD_eq_getElem?_getD, List.getElem?_eq_getElem h]
  rfl
theorem step_take {l : List Int} {i : Nat} {y : Int} (h : l[i]? = some y) : (l.take i).map V.int ++ [V.int y] = (l.take (i + 1)).map V.int := by
  rw [take_more h, List.map_append]
  rfl
theorem step_takeB {l : List Bool} {i : Nat} {y : Bool} (h : l[i]? = some y) : (l.take i).map V.bl ++ [V.bl y] = (l.take (i + 1)).map V.bl := by
  rw [take_more h, List.map_append]
  rfl
/-- a list D made behind H grows: what was tracked in H stands -/
theorem same_grow {H H' : Hp} {D : Addr} {o : HO} (s : Same H H') (n : H D = none) : Same H (upd H' D o) := fun b x e => by
  rw [upd_ne (ne_of_none e n)]
  exact s b x e
theorem take_len {l : List Int} {i m : Nat} (h : l.length ≤ m) : ((l.take i).map V.int).length ≤ m := by
  rw [List.length_map, List.length_take]
  omega
theorem lt_len {l : List Int} {i : Nat} {z : Int} (h : l[i]? = some z) : i < l.length := (List.getElem?_eq_some_iff.mp h).1
theorem yes_of {σ : L2.St} {H : Hp} {A B : Hp → Prop} (h : A H) : tYes σ H (fun b H3 => if b = true then A H3 else B H3) := by
  show (if true = true then A H else B H)
  rw [if_pos rfl]
  exact h
end Wk
namespace Wk
open PySem PySem.Spec PyProof.Rows L2
/-! ### lists of pairs -/
def PairAt (H : Hp) (v : V) (p : Int × Int) : Prop := ∃ T, v = .ref T ∧ H T = some (.tup [.int p.1, .int p.2])
inductive Prs (H : Hp) : List V → List (Int × Int) → Prop
  | nil : Prs H [] []
  | cons {v : V} {vs : List V} {p : Int × Int} {ps : List (Int × Int)} : PairAt H v p → Prs H vs ps → Prs H (v :: vs) (p :: ps)
theorem Prs.same {H H' : Hp} (s : Same H H') : ∀ {vs : List V} {ps : List (Int × Int)}, Prs H vs ps → Prs H' vs ps
  | _, _, .nil => .nil
  | _, _, .cons h t => by
    obtain ⟨T, e, q⟩ := h
    exact .cons ⟨T, e, s _ _ q⟩ (Prs.same s t)
/-- tuples stand where they stood -/
theorem Prs.keep {H H' : Hp} (s : ∀ {T : Addr} {ys : List V}, H T = some (.tup ys) → H' T = some (.tup ys)) : ∀ {vs : List V} {ps : List (Int × Int)}, Prs H vs ps → Prs H' vs ps
  | _, _, .nil => .nil
  | _, _, .cons h t => by
    obtain ⟨T, e, q⟩ := h
    exact .cons ⟨T, e, s q⟩ (Prs.keep s t)
theorem Prs.len {H : Hp} : ∀ {vs : List V} {ps : List (Int × Int)}, Prs H vs ps → vs.length = ps.length
  | _, _, .nil => rfl
  | _, _, .cons _ t => congrArg (· + 1) (Prs.len t)
theorem Prs.add {H : Hp} {v : V} {p : Int × Int} (h : PairAt H v p) : ∀ {vs : List V} {ps : List (Int × Int)}, Prs H vs ps → Prs H (vs ++ [v]) (ps ++ [p])
  | _, _, .nil => .cons h .nil
  | _, _, .cons q t => .cons q (Prs.add h t)
theorem Prs.get {H : Hp} : ∀ {vs : List V} {ps : List (Int × Int)} {i : Nat} {v : V}, Prs H vs ps → vs[i]? = some v → ∃ p, ps[i]? = some p ∧ PairAt H v p
  | _, _, _, _, .nil, e => by simp at e
  | _, _, 0, v, .cons (p := p) h _, e => by
    have e' := Option.some.inj e
    subst e'
    exact ⟨p, rfl, h⟩
  | _, _, i + 1, v, .cons _ t, e => Prs.get (i := i) t e
def pdOf (p : Int × Int) : PyData := .tuple [.int p.1, .int p.2]
theorem Prs.dp {K : PySem.W.Frag} {H : Hp} : ∀ {vs : List V} {ps : List (Int × Int)}, Prs H vs ps → DpAll K H vs (ps.map pdOf)
  | _, _, .nil => .nil
  | _, _, .cons h t => by
    obtain ⟨T, rfl, q⟩ := h
    exact .cons (.tup (SqT.of q) (.cons (.int _) (.cons (.int _) .nil))) (Prs.dp t)
theorem pd_lay : ∀ ps : List (Int × Int), PyData.canLayAll0 (ps.map pdOf) = true
  | [] => rfl
  | p :: r => by
    show (PyData.canLay0 (pdOf p) && PyData.canLayAll0 (r.map pdOf)) = true
    rw [pd_lay r]
    rfl
theorem pd_depth : ∀ ps : List (Int × Int), PyData.depthAll (ps.map pdOf) ≤ 8
  | [] => by simp [PyData.depthAll]
  | p :: r => by
    have := pd_depth r
    simp only [List.map_cons, PyData.depthAll, pdOf, PyData.depth]
    omega
theorem pd_shaped (ps : List (Int × Int)) : SeqAt.shaped (.list (ps.map pdOf)) = true := by
  have h1 := pd_depth ps
  have h2 : PyData.depth (.list (ps.map pdOf)) ≤ 64 := by
    simp only [PyData.depth]
    omega
  show (PyData.canLay0 (.list (ps.map pdOf)) && decide (PyData.depth (.list (ps.map pdOf)) ≤ 64)) = true
  rw [Bool.and_eq_true]
  exact ⟨by simp only [PyData.canLay0]; exact pd_lay ps, decide_eq_true h2⟩
theorem pd_eqv (ps : List (Int × Int)) : PyData.eqv (.list (ps.map pdOf)) (.list []) = decide (ps = []) := by
  cases ps with
  | nil => decide +kernel
  | cons p r =>
    rw [decide_eq_false (by simp)]
    first | rfl | simp [PyData.eqv, PyData.eqvAll]
theorem Prs.last {H : Hp} {p : Int × Int} : ∀ {ps : List (Int × Int)} {vs : List V}, Prs H vs (ps ++ [p]) → ∃ ys v, vs = ys ++ [v] ∧ Prs H ys ps ∧ PairAt H v p
  | [], _, .cons h .nil => ⟨[], _, rfl, .nil, h⟩
  | _ :: r, _, .cons h t => by
    obtain ⟨ys, v, e, a, b⟩ := Prs.last (ps := r) t
    exact ⟨_ :: ys, v, by rw [e]; rfl, .cons h a, b⟩
end Wk
namespace Wk
open PySem PySem.Spec PyProof.Rows L2
abbrev sPp : Stmt := topS 2
theorem scPp : FnScope ["wide", "points", "number", "paint"] ["wide", "points"] (defScope sPp) := ⟨rfl, rfl, rfl, by decide +kernel, rfl, by decide +kernel, by decide +kernel⟩
abbrev sAns : Stmt := topS 10
theorem scAns : FnScope ["w", "h", "a", "places", "across", "down", "x", "y"] ["w", "h", "a"] (defScope sAns) := ⟨rfl, rfl, rfl, by decide +kernel, rfl, by decide +kernel, by decide +kernel⟩
section
variable {P : Program} {w : World} {K : PySem.W.Frag} {mg : Str → Option Value} {base : Heap}
/-! ### painted_places -/
def spPp (K : PySem.W.Frag) : Sp := fun vs H Q _ => ∃ (w : Int) (a : Addr) (l : List Int), vs = [.int w, .ref a] ∧ SqL K H a (l.map V.int) ∧ l.length ≤ 100000 ∧ 1 ≤ w ∧ w ≤ 256 ∧
  ∀ (H' : Hp) (p : Addr) (xs : List V), Same H H' → H' p = some (.lst xs) → Prs H' xs (Pm.placesL w l) → Q (.ref p) H'
theorem ok_pp {f : Addr} {fd : FuncData} {t : Tok} (F : Fun K "painted_places" "painted_places" sPp f fd) (mC : mg "CLEAR" = some (.int 0 t)) (mE : mg "enumerate" = none) : FnOk P w K mg base CX0 1 f fd ["wide", "points"] (spPp K) := by
  refine F.ok scPp (fun vs H Q E h => ?_) (fun cdv A outer s H vs Q E hr h => ?_)
  · obtain ⟨w, a, l, rfl, _⟩ := h
    rfl
  · obtain ⟨w, a, l, rfl, hA, hl, hw0, hw, q⟩ := h
    refine ⟨_, pss_one (ps_ret (pe_lc (own := [("number", 2), ("paint", 3)]) (g := gTup K 2 (gCons (gName 2) (gCons (gName 3) gNil))) (by rfl) scPp.nd (pi_enum (by rfl) mE (pa_cons (pv 1) pa_nil))
      (blkOk_by (own := [("number", 2), ("paint", 3)]) (N := ["wide", "points", "number", "paint"]) (sc := defScope sPp) (by decide +kernel))
      (fun _ _ _ _ _ => by exact pg_tup rfl (by exact pgs_cons (by exact pg_name (i := 2) scPp.nd rfl (Or.inl rfl)) (by exact pgs_cons (by exact pg_name (i := 3) scPp.nd rfl (Or.inl rfl)) pgs_nil)))
      (fun _ _ _ _ _ => pts_one (pt_cmpR op_ne (pv 3) (pe_glob (v := .int 0) (by rfl) mC ⟨_, rfl⟩) (nomark _)))
      (fun _ _ _ _ _ => pe_tup (pa_cons (pe_op op_mod (pv 2) (pv 0)) (pa_cons (pe_op op_fdiv (pv 2) (pv 0)) pa_nil))))), ?_⟩
    refine ⟨_, rfl, a, _, rfl, hA, fun D nD => lc_it (walk_enum (K := K) (a := a) (xs := l.map V.int))
      (fun i H' => Same H H' ∧ ∃ xs, H' D = some (.lst xs) ∧ xs.length ≤ i ∧ Prs H' xs (Pm.placesL w (l.take i))) ⟨same_upd nD, [], upd_same, Nat.le_refl _, .nil⟩ (fun i H' _ hh => hh.1.seq hA) ?_ ?_⟩
    · rintro i x H1 H2 hi ⟨sm, xs, hD, hx, hp⟩ ⟨T, x1, x2, rfl, nT, rfl, g1, g2⟩
      have g1' : x1 = .int (i : Nat) := (Option.some.inj g1).symm
      subst g1'
      obtain ⟨z, h2, rfl⟩ := int_at g2
      have hi' := lt_len h2
      have st := Pm.places_more (w := w) h2
      have hD2 : (upd H1 T (.tup [.int (i : Nat), .int z])) D = some (.lst xs) := (upd_ne (ne_of_none hD nT)).trans hD
      have sm2 : Same H (upd H1 T (.tup [.int (i : Nat), .int z])) := sm.trans (same_upd nT)
      refine ⟨T, _, rfl, SqT.of upd_same, rfl, _, _, rfl, _, _, rfl, rfl, rfl, _, rfl, rfl, _, rfl, ite2 (fun c => ?_) (fun c => ?_)⟩
      · rw [eq_int, Bool.not_eq_true', decide_eq_false_iff_not] at c
        rw [if_pos c] at st
        refine ⟨_, rfl, _, rfl, _, _, rfl, rfl, by omega, _, rfl, _, rfl, _, _, rfl, rfl, ⟨by omega, by omega⟩, line_le (m := 2) (by simp), fun p np => ?_⟩
        have nDp : D ≠ p := ne_of_none hD2 np
        refine ⟨xs, (upd_ne nDp).trans hD2, line_lt (m := 100000) (by omega), same_grow (sm2.trans (same_upd np)) nD, _, upd_same, ?_, ?_⟩
        · rw [List.length_append, List.length_singleton]
          omega
        · rw [st]
          have big : Same H1 (upd (upd H1 T (.tup [.int (i : Nat), .int z])) p (.tup [.int ((i : Nat) % w), .int ((i : Nat) / w)])) := (same_upd nT).trans (same_upd np)
          have pr := Prs.add (H := upd (upd H1 T (.tup [.int (i : Nat), .int z])) p (.tup [.int ((i : Nat) % w), .int ((i : Nat) / w)])) (v := .ref p) (p := ((i : Int) % w, (i : Int) / w)) ⟨p, rfl, upd_same⟩ (hp.same big)
          refine Prs.keep (fun {U ys} hU => ?_) pr
          refine (upd_ne fun e => ?_).trans hU
          rw [e, upd_ne nDp, hD2] at hU
          cases hU
      · rw [eq_int, Bool.not_eq_true', Bool.not_eq_false, decide_eq_true_iff] at c
        rw [if_neg (fun n => n c), List.append_nil] at st
        exact ⟨sm2, xs, hD2, by omega, by rw [st]; exact hp.same (same_upd nT)⟩
    · rintro H1 ⟨sm, xs, hD, hx, hp⟩
      rw [List.length_map, List.take_length] at hp
      exact q H1 D xs sm hD hp
def spAns (K : PySem.W.Frag) : Sp := fun vs H Q _ => ∃ (w h : Int) (a : Addr) (l : List Int), vs = [.int w, .int h, .ref a] ∧ SqL K H a (l.map V.int) ∧ l.length ≤ 100000 ∧ Pm.Byt l ∧
  ∀ (H' : Hp) (q : Addr), H' q = some (.lst ((PyWqasbp.box w h l).map V.int)) → Q (.ref q) H'
theorem ok_ans {f fP fL : Addr} {fd fdP fdL : FuncData} {t1 t2 : Tok} (F : Fun K "box" "box" sAns f fd) (GP : FnOk P w K mg base CX0 2 fP fdP ["w", "h", "row"] (spPts K)) (gP : mg "are_points" = some (.ref fP)) (kP : PySem.W.keepIn K (.ref fP) = true) (bP : Binds K fdP ["w", "h", "row"] [])
    (GL : FnOk P w K mg base CX0 1 fL fdL ["wide", "points"] (spPp K)) (gL : mg "painted_places" = some (.ref fL)) (kL : PySem.W.keepIn K (.ref fL) = true) (bL : Binds K fdL ["wide", "points"] [])
    (mB : mg "BAD" = some (.int (-1) t1)) (mN : mg "NONE_SUCH" = some (.int (-3) t2)) (mMin : mg "min" = none) (mMax : mg "max" = none) : FnOk P w K mg base CX0 3 f fd ["w", "h", "a"] (spAns K) := by
  refine F.ok scAns (fun vs H Q E h => ?_) (fun cdv A outer s H vs Q E hr h => ?_)
  · obtain ⟨w, h, a, l, rfl, _⟩ := h
    rfl
  · obtain ⟨w, h, a, l, rfl, hA, hl, hby, q⟩ := h
    have hr1 : Room 1 _ := hr.mono (by decide)
    refine ⟨_, pss_cons (ps_if (pt_not (pt_val (pe_call GP hr (by rfl) gP kP bP .nil pass0 (pa_cons (pv 0) (pa_cons (pv 1) (pa_cons (pv 2) pa_nil))))))
        (pss_one (ps_ret (pe_lst (pa_cons (pe_glob (v := .int (-1)) (by rfl) mB ⟨_, rfl⟩) pa_nil)))) pss_nil)
      (pss_cons (ps_set (i := 3) scAns.nd rfl (.inl rfl) (pe_call GL hr1 (by rfl) gL kL bL .nil pass0 (pa_cons (pv 0) (pa_cons (pv 2) pa_nil))))
      (pss_cons (ps_if (pt_cmpR (op_eqD hr.units) (pv 3) (pe_lst pa_nil) (nomark _)) (pss_one (ps_ret (pe_lst (pa_cons (pe_glob (v := .int (-3)) (by rfl) mN ⟨_, rfl⟩) pa_nil)))) pss_nil)
      (pss_cons (ps_setLc (i := 4) (own := [("x", 6), ("y", 7)]) (g := gTup K 2 (gCons (gName 6) (gCons (gName 7) gNil))) (by rfl) scAns.nd rfl rfl (sw_true rfl rfl rfl (by decide +kernel)) (pi_list (pv 3))
        (blkOk_by (own := [("x", 6), ("y", 7)]) (N := ["w", "h", "a", "places", "across", "down", "x", "y"]) (sc := defScope sAns) (by decide +kernel))
        (fun _ _ _ _ _ => by exact pg_tup rfl (by exact pgs_cons (by exact pg_name (i := 6) scAns.nd rfl (Or.inl rfl)) (by exact pgs_cons (by exact pg_name (i := 7) scAns.nd rfl (Or.inl rfl)) pgs_nil)))
        (fun _ _ _ _ _ => pts_nil) (fun _ _ _ _ _ => pv 6))
      (pss_cons (ps_setLc (i := 5) (own := [("x", 6), ("y", 7)]) (g := gTup K 2 (gCons (gName 6) (gCons (gName 7) gNil))) (by rfl) scAns.nd rfl rfl (sw_true rfl rfl rfl (by decide +kernel)) (pi_list (pv 3))
        (blkOk_by (own := [("x", 6), ("y", 7)]) (N := ["w", "h", "a", "places", "across", "down", "x", "y"]) (sc := defScope sAns) (by decide +kernel))
        (fun _ _ _ _ _ => by exact pg_tup rfl (by exact pgs_cons (by exact pg_name (i := 6) scAns.nd rfl (Or.inl rfl)) (by exact pgs_cons (by exact pg_name (i := 7) scAns.nd rfl (Or.inl rfl)) pgs_nil)))
        (fun _ _ _ _ _ => pts_nil) (fun _ _ _ _ _ => pv 7))
      (pss_one (ps_ret (pe_lst (pa_cons (pe_callB (cr_min rfl) (by rfl) mMin (by decide +kernel) (pa_cons (pv 4) pa_nil)) (pa_cons (pe_callB (cr_min rfl) (by rfl) mMin (by decide +kernel) (pa_cons (pv 5) pa_nil))
        (pa_cons (pe_callB (cr_max rfl) (by rfl) mMax (by decide +kernel) (pa_cons (pv 4) pa_nil)) (pa_cons (pe_callB (cr_max rfl) (by rfl) mMax (by decide +kernel) (pa_cons (pv 5) pa_nil)) pa_nil))))))))))), ?_⟩
    refine ⟨_, rfl, _, rfl, _, rfl, w, h, a, l, rfl, hA, _, rfl, ite2 (fun c1 => ?_) (fun c1 => ?_)⟩
    · rw [Bool.not_eq_true'] at c1
      exact ⟨line_le (m := 1) (by simp), fun r nr => q _ r (by rw [upd_same, Pm.box_bad c1]; rfl)⟩
    · rw [Bool.not_eq_true', Bool.not_eq_false] at c1
      have p1 := Pm.pts_iff.mp c1
      refine ⟨_, rfl, _, rfl, w, a, l, rfl, hA, hl, p1.1.1, p1.1.2, fun H1 p xs sm hp pr => ?_⟩
      have prl := pr.len
      refine ⟨_, rfl, Nat.zero_le _, fun o no => ⟨.list ((Pm.placesL w l).map pdOf), .list [], ?_, ?_, pd_shaped _, by decide +kernel, _, rfl, ite2 (fun c2 => ?_) (fun c2 => ?_)⟩⟩
      · exact .lst (SqL.of ((upd_ne (ne_of_none hp no)).trans hp)) (Prs.dp (pr.same (same_upd no)))
      · exact .lst (SqL.of upd_same) .nil
      · rw [pd_eqv, decide_eq_true_iff] at c2
        exact ⟨line_le (m := 1) (by simp), fun r nr => q _ r (by rw [upd_same, Pm.box_none hby c1 c2]; rfl)⟩
      · rw [pd_eqv, decide_eq_true_iff] at c2
        have hp2 : (upd H1 o (.lst [])) p = some (.lst xs) := (upd_ne (ne_of_none hp no)).trans hp
        have pr2 : Prs (upd H1 o (.lst [])) xs (Pm.placesL w l) := pr.same (same_upd no)
        generalize upd H1 o (.lst []) = H2 at hp2 pr2
        have lenP : xs.length ≤ 100000 := by
          rw [prl]
          exact Nat.le_trans (Pm.places_len w l) hl
        refine ⟨_, rfl, p, rfl, ⟨_, SqL.of hp2⟩, fun D nD => lc_it (walk_list (K := K) (a := p) (xs := xs))
          (fun i H' => Same H2 H' ∧ H' D = some (.lst ((((Pm.placesL w l).map Prod.fst).take i).map V.int))) ⟨same_upd nD, upd_same⟩ (fun i H' _ hh => SqL.of (hh.1 _ _ hp2)) ?_ ?_⟩
        · rintro i x H3 H4 hi ⟨sm3, hD⟩ ⟨rfl, hx⟩
          obtain ⟨pq, e1, T, rfl, hT⟩ := (pr2.same sm3).get hx
          have st : ((Pm.placesL w l).map Prod.fst)[i]? = some pq.1 := by
            rw [List.getElem?_map, e1]
            rfl
          exact ⟨T, _, rfl, SqT.of hT, rfl, _, _, rfl, _, _, rfl, rfl, rfl, yes_of ⟨_, rfl, _, hD, line_lt (take_len (by rw [List.length_map, ← prl]; exact lenP)), same_grow sm3 nD, by rw [upd_same, step_take st]⟩⟩
        · rintro H3 ⟨sm3, hD⟩
          rw [List.take_of_length_le (by rw [List.length_map, prl]; exact Nat.le_refl _)] at hD
          have hp3 := sm3 _ _ hp2
          have pr3 := pr2.same sm3
          refine ⟨_, rfl, p, rfl, ⟨_, SqL.of hp3⟩, fun D2 nD2 => lc_it (walk_list (K := K) (a := p) (xs := xs))
            (fun i H' => Same H3 H' ∧ H' D2 = some (.lst ((((Pm.placesL w l).map Prod.snd).take i).map V.int))) ⟨same_upd nD2, upd_same⟩ (fun i H' _ hh => SqL.of (hh.1 _ _ hp3)) ?_ ?_⟩
          · rintro i x H4 H5 hi ⟨sm4, hD4⟩ ⟨rfl, hx⟩
            obtain ⟨pq, e1, T, rfl, hT⟩ := (pr3.same sm4).get hx
            have st : ((Pm.placesL w l).map Prod.snd)[i]? = some pq.2 := by
              rw [List.getElem?_map, e1]
              rfl
            exact ⟨T, _, rfl, SqT.of hT, rfl, _, _, rfl, _, _, rfl, rfl, rfl, yes_of ⟨_, rfl, _, hD4, line_lt (take_len (by rw [List.length_map, ← prl]; exact lenP)), same_grow sm4 nD2, by rw [upd_same, step_take st]⟩⟩
          · rintro H4 ⟨sm4, hD4⟩
            rw [List.take_of_length_le (by rw [List.length_map, prl]; exact Nat.le_refl _)] at hD4
            have hD5 := sm4 _ _ hD
            have pos : 0 < (Pm.placesL w l).length := by
              cases hh : Pm.placesL w l with
              | nil => exact absurd hh c2
              | cons _ _ => simp
            have posx : 0 < ((Pm.placesL w l).map Prod.fst).length := by
              rw [List.length_map]
              exact pos
            have posy : 0 < ((Pm.placesL w l).map Prod.snd).length := by
              rw [List.length_map]
              exact pos
            refine ⟨_, rfl, D, _, rfl, SqL.of hD5, posx, fun m1 a1 b1 => ⟨_, rfl, D2, _, rfl, SqL.of hD4, posy, fun m2 a2 b2 => ⟨_, rfl, D, _, rfl, SqL.of hD5, posx, fun m3 a3 b3 => ⟨_, rfl, D2, _, rfl, SqL.of hD4, posy, fun m4 a4 b4 => ⟨line_le (m := 4) (by simp), fun r nr => q _ r ?_⟩⟩⟩⟩⟩
            rw [upd_same, Pm.box_some hby c1 c2 a1 b1 a2 b2 a3 b3 a4 b4]
            rfl
end
end Wk
namespace Wk
open PySem PySem.Spec PyProof.Rows L2
theorem all_mk {P : Program} {w : World} {K : PySem.W.Frag} {h : Heap} {mg : Str → Option Value} {fa f1 f2 f3 f4 : Addr} (X : K.In h) (G : h.Ns mainGlobals mg) (hfa : mg "box" = some (.ref fa))
    {od1 an1 od2 an2 od3 an3 od4 an4 : Option Addr} {sl1 sl2 sl3 sl4 : Array (Option Value)} {oc1 kV1 dc1 pm1 cd1 ct1 oc2 kV2 dc2 pm2 cd2 ct2 oc3 kV3 dc3 pm3 cd3 ct3 oc4 kV4 dc4 pm4 cd4 ct4 : Value} {t0 t1 t2 t3 : Tok}
    (a1 : PySem.W.nsIn K mainGlobals "painted_places" = some (some (.ref f1))) (l1 : K.lookup f1 = some ⟨oc1, od1, .func (PySem.W.fnOf "painted_places" "painted_places" (defArgs sPp) (defBody sPp) (defScope sPp) .none kV1 dc1 pm1 an1 cd1 ct1), sl1⟩) (c1 : PySem.W.codeIn K cd1 "painted_places" = true) (k1 : PySem.W.keepIn K (.ref f1) = true)
    (a2 : PySem.W.nsIn K mainGlobals "is_side" = some (some (.ref f2))) (l2 : K.lookup f2 = some ⟨oc2, od2, .func (PySem.W.fnOf "is_side" "is_side" (defArgs sSide) (defBody sSide) (defScope sSide) .none kV2 dc2 pm2 an2 cd2 ct2), sl2⟩) (c2 : PySem.W.codeIn K cd2 "is_side" = true) (k2 : PySem.W.keepIn K (.ref f2) = true)
    (a3 : PySem.W.nsIn K mainGlobals "are_points" = some (some (.ref f3))) (l3 : K.lookup f3 = some ⟨oc3, od3, .func (PySem.W.fnOf "are_points" "are_points" (defArgs sPts) (defBody sPts) (defScope sPts) .none kV3 dc3 pm3 an3 cd3 ct3), sl3⟩) (c3 : PySem.W.codeIn K cd3 "are_points" = true) (k3 : PySem.W.keepIn K (.ref f3) = true)
    (a4 : PySem.W.nsIn K mainGlobals "box" = some (some (.ref f4))) (l4 : K.lookup f4 = some ⟨oc4, od4, .func (PySem.W.fnOf "box" "box" (defArgs sAns) (defBody sAns) (defScope sAns) .none kV4 dc4 pm4 an4 cd4 ct4), sl4⟩) (c4 : PySem.W.codeIn K cd4 "box" = true) (k4 : PySem.W.keepIn K (.ref f4) = true)
    (u0 : PySem.W.nsIn K mainGlobals "CLEAR" = some (some (.int 0 t0)))
    (u1 : PySem.W.nsIn K mainGlobals "MOST_SIDE" = some (some (.int 256 t1)))
    (u2 : PySem.W.nsIn K mainGlobals "BAD" = some (some (.int (-1) t2)))
    (u3 : PySem.W.nsIn K mainGlobals "NONE_SUCH" = some (some (.int (-3) t3)))
    (y0 : PySem.W.nsIn K mainGlobals "len" = some none)
    (y1 : PySem.W.nsIn K mainGlobals "enumerate" = some none)
    (y2 : PySem.W.nsIn K mainGlobals "min" = some none)
    (y3 : PySem.W.nsIn K mainGlobals "max" = some none)
    : ∃ fd : FuncData, (∀ (s : Shared) (us : List Value), us.length = (["w", "h", "a"] : List Str).length → BindsTo s fd ⟨us, []⟩ ((["w", "h", "a"] : List Str).zip us)) ∧ ∀ base : Heap, K.In base → base.Ns mainGlobals mg → FnOk P w K mg base CX0 3 fa fd ["w", "h", "a"] (spAns K) := by
  have e := hfa.symm.trans (PySem.W.mg_of X G a4)
  cases e
  have F_painted_places := fun_mk (st := sPp) l1 c1 k1
  have g_painted_places := PySem.W.mg_of X G a1
  have b_painted_places := F_painted_places.binds (ps := ["wide", "points"]) fun _ _ _ _ _ _ us hl => match us, hl with | [_, _], _ => rfl
  have F_is_side := fun_mk (st := sSide) l2 c2 k2
  have g_is_side := PySem.W.mg_of X G a2
  have b_is_side := F_is_side.binds (ps := ["number"]) fun _ _ _ _ _ _ us hl => match us, hl with | [_], _ => rfl
  have F_are_points := fun_mk (st := sPts) l3 c3 k3
  have g_are_points := PySem.W.mg_of X G a3
  have b_are_points := F_are_points.binds (ps := ["w", "h", "row"]) fun _ _ _ _ _ _ us hl => match us, hl with | [_, _, _], _ => rfl
  have F_box := fun_mk (st := sAns) l4 c4 k4
  have g_box := PySem.W.mg_of X G a4
  have b_box := F_box.binds (ps := ["w", "h", "a"]) fun _ _ _ _ _ _ us hl => match us, hl with | [_, _, _], _ => rfl
  have v_CLEAR := PySem.W.mg_of X G u0
  have v_MOST_SIDE := PySem.W.mg_of X G u1
  have v_BAD := PySem.W.mg_of X G u2
  have v_NONE_SUCH := PySem.W.mg_of X G u3
  have z_len := PySem.W.mg_none_of X G y0
  have z_enumerate := PySem.W.mg_none_of X G y1
  have z_min := PySem.W.mg_none_of X G y2
  have z_max := PySem.W.mg_none_of X G y3
  exact ⟨PySem.W.fnOf "box" "box" (defArgs sAns) (defBody sAns) (defScope sAns) .none kV4 dc4 pm4 an4 cd4 ct4, fun s us hu => match us, hu with | [_, _, _], _ => .of_eq rfl, fun base _ _ => ok_ans F_box (ok_pts F_are_points (ok_side F_is_side v_MOST_SIDE) g_is_side F_is_side.kp b_is_side z_len) g_are_points F_are_points.kp b_are_points (ok_pp F_painted_places v_CLEAR z_enumerate) g_painted_places F_painted_places.kp b_painted_places v_BAD v_NONE_SUCH z_min z_max⟩
end Wk
namespace Wk
open PySem.W
theorem in_int {lo hi z : Int} (h : Codec.inInt lo hi z = true) : lo ≤ z ∧ z ≤ hi := by
  unfold Codec.inInt at h
  rw [Bool.and_eq_true, decide_eq_true_iff, decide_eq_true_iff] at h
  exact h
theorem in_list {hi : Int} {most : Nat} {l : List Int} (h : Codec.inList 0 most (Codec.inInt 0 hi) l = true) : l.length ≤ most ∧ ∀ z, z ∈ l → 0 ≤ z ∧ z ≤ hi := by
  unfold Codec.inList Codec.inLen Codec.inNat at h
  rw [Bool.and_eq_true, Bool.and_eq_true, decide_eq_true_iff, decide_eq_true_iff] at h
  exact ⟨h.1.2, fun z hz => in_int (List.all_eq_true.mp h.2 z hz)⟩
end Wk
open PySem PySem.W PyProof.Rows
set_option maxRecDepth 100000 in
set_option maxHeartbeats 8000000 in
theorem PySem.Challenge.cw_paintsheets_s09_box_holds : PySem.Challenge.rw_paintsheets_s09_box.Holds := by
  w_on; k_headS; (case hw => exact ⟨[.int 1, .int 1, .list []], by decide +kernel, by decide +kernel⟩)
  k_fillS
  refine L2.walk_specK (r := PySem.Challenge.rw_paintsheets_s09_box) (k := 3) (CX := L2.CX0) (ps := ["w", "h", "a"]) (sp := Wk.spAns) (by decide +kernel) rfl rfl ⟨rfl, by decide, by decide⟩ (fun w h Y => PySem.W.kIn_of Y) ?F ?S (fun _ _ _ _ z => z)
  case F =>
    intro w mg fa h Y KX G hmg
    refine' Wk.all_mk KX G hmg ?a1 ?l1 ?c1 ?k1 ?a2 ?l2 ?c2 ?k2 ?a3 ?l3 ?c3 ?k3 ?a4 ?l4 ?c4 ?k4 ?u0 ?u1 ?u2 ?u3 ?y0 ?y1 ?y2 ?y3
    (case a1 => k_is)
    (case l1 => k_is)
    (case c1 => k_is)
    (case k1 => k_is)
    (case a2 => k_is)
    (case l2 => k_is)
    (case c2 => k_is)
    (case k2 => k_is)
    (case a3 => k_is)
    (case l3 => k_is)
    (case c3 => k_is)
    (case k3 => k_is)
    (case a4 => k_is)
    (case l4 => k_is)
    (case c4 => k_is)
    (case k4 => k_is)
    (case u0 => k_is)
    (case u1 => k_is)
    (case u2 => k_is)
    (case u3 => k_is)
    (case y0 => k_is)
    (case y1 => k_is)
    (case y2 => k_is)
    (case y3 => k_is)
  case S =>
    intro K H xs a hO hwi hask hx
    cases hx with
    | cons h0 hx =>
      cases h0
      cases hx with
      | cons h1 hx =>
        cases h1
        cases hx with
        | cons h2 hx =>
          cases h2 with
          | lst s2 d2 =>
            have e2 := L2.ints_dw a.2.2.1 _ d2
            subst e2
            cases hx
            have q := hwi
            have q0 := (Bool.and_eq_true_iff.mp q).1
            replace q := (Bool.and_eq_true_iff.mp q).2
            have n0 := Wk.in_int q0
            have q1 := (Bool.and_eq_true_iff.mp q).1
            replace q := (Bool.and_eq_true_iff.mp q).2
            have n1 := Wk.in_int q1
            have q2 := (Bool.and_eq_true_iff.mp q).1
            replace q := (Bool.and_eq_true_iff.mp q).2
            have m2 := (Wk.in_list q2).1
            have b2 := (Wk.in_list q2).2
            have e := (rfl : PyWqasbp.box a.1 a.2.1 a.2.2.1 = PyWqasbp.box a.1 a.2.1 a.2.2.1)
            refine ⟨a.1, a.2.1, _, a.2.2.1, rfl, s2, (by omega), b2, fun H' p hp => ?_⟩
            rw [← e] at hp
            exact .lst (L2.SqL.of hp) (L2.dw_ints _)
#print axioms PySem.Challenge.cw_paintsheets_s09_box_holds
