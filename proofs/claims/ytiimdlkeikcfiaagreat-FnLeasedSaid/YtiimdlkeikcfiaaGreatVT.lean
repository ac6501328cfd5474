/- States laid bare: what whnf has put off is done. -/
import Derived.Test.YtiimdlkeikcfiaaGreatVR
namespace Go.Proofs.YtiimdlkeikcfiaaGreat.V
open Go.RowKit M

def frcK (k : List Nat) (K : List Nat → Prop) : Prop :=
  match k with
  | [] => K []
  | a :: r => frcK r (fun r => K (a :: r))
theorem frcK_eq : ∀ (k : List Nat) (K : List Nat → Prop), frcK k K = K k
  | [], _ => rfl
  | a :: r, K => frcK_eq r (fun r => K (a :: r))
/-- A place's block: its number laid bare. -/
def frcH (k : List Nat) (K : List Nat → Prop) : Prop :=
  match k with
  | [] => K []
  | a :: r => frcN a (fun a => frcK r (fun r => K (a :: r)))
theorem frcH_eq : ∀ (k : List Nat) (K : List Nat → Prop), frcH k K = K k
  | [], _ => rfl
  | a :: r, K => by
    simp only [frcH, frcN_eq, frcK_eq]
def frcB (b : Bool) (K : Bool → Prop) : Prop :=
  match b with
  | true => K true
  | false => K false
theorem frcB_eq (b : Bool) (K : Bool → Prop) : frcB b K = K b := by cases b <;> rfl
def frcT (t : Ty) (K : Ty → Prop) : Prop :=
  match t with
  | .i64 => K .i64
  | .u8 => K .u8
  | .bool => K .bool
  | .str => K .str
  | .msg => K .msg
  | .obj => K .obj
  | .res => K .res
  | .tap => K .tap
  | .tree => K .tree
  | .part => K .part
  | .boot => K .boot
  | .entry => K .entry
  | .reply => K .reply
  | .call => K .call
theorem frcT_eq (t : Ty) (K : Ty → Prop) : frcT t K = K t := by cases t <;> rfl
def frcTL (t : Ty) (l : List (den t)) (K : (t : Ty) → List (den t) → Prop) : Prop :=
  match t, l with
  | .i64, l => K .i64 l
  | .u8, l => K .u8 l
  | .bool, l => K .bool l
  | .str, l => K .str l
  | .msg, l => K .msg l
  | .obj, l => K .obj l
  | .res, l => K .res l
  | .tap, l => K .tap l
  | .tree, l => K .tree l
  | .part, l => K .part l
  | .boot, l => K .boot l
  | .entry, l => K .entry l
  | .reply, l => K .reply l
  | .call, l => K .call l
theorem frcTL_eq (t : Ty) (l : List (den t)) (K : (t : Ty) → List (den t) → Prop) : frcTL t l K = K t l := by cases t <;> rfl
def frcW (w : Option (Nat × Nat)) (K : Option (Nat × Nat) → Prop) : Prop :=
  match w with
  | none => K none
  | some (a, b) => K (some (a, b))
theorem frcW_eq (w : Option (Nat × Nat)) (K : Option (Nat × Nat) → Prop) : frcW w K = K w := by cases w <;> rfl
def frcO (v : OV) (K : OV → Prop) : Prop :=
  match v with
  | .any => K .any
  | .nil => K .nil
  | .ref k t w => frcH k fun k => frcT t fun t => frcW w fun w => K (.ref k t w)
theorem frcO_eq (v : OV) (K : OV → Prop) : frcO v K = K v := by
  cases v <;> simp only [frcO, frcH_eq, frcT_eq, frcW_eq]
def frcOv (l : List (List Nat × OV)) (K : List (List Nat × OV) → Prop) : Prop :=
  match l with
  | [] => K []
  | (p, v) :: r => frcK p fun p => frcO v fun v => frcOv r fun r => K ((p, v) :: r)
theorem frcOv_eq : ∀ (l : List (List Nat × OV)) (K : List (List Nat × OV) → Prop), frcOv l K = K l
  | [], _ => rfl
  | (p, v) :: r, K => by
    unfold frcOv
    rw [frcK_eq, frcO_eq]
    exact frcOv_eq r _
def frcV (v : Value) (K : Value → Prop) : Prop :=
  match v with
  | .int k n => K (.int k n)
  | .bool b => K (.bool b)
  | .string s => K (.string s)
  | v => K v
theorem frcV_eq (v : Value) (K : Value → Prop) : frcV v K = K v := by cases v <;> rfl
def frcC (c : CV) (K : CV → Prop) : Prop :=
  match c with
  | .any => K .any
  | .sc v => frcV v fun v => K (.sc v)
  | .ro t l => frcTL t l fun t l => K (.ro t l)
  | .own t o l ov => frcB o fun o => frcOv ov fun ov => frcTL t l fun t l => K (.own t o l ov)
  | .ref k t w => frcH k fun k => frcT t fun t => frcW w fun w => K (.ref k t w)
  | .ptr k i j => frcH k fun k => K (.ptr k i j)
  | .rptr t l i j => frcTL t l fun t l => K (.rptr t l i j)
theorem frcC_eq (c : CV) (K : CV → Prop) : frcC c K = K c := by
  cases c <;> simp only [frcC, frcH_eq, frcT_eq, frcW_eq, frcV_eq, frcTL_eq, frcB_eq, frcOv_eq]
def frcL (l : List CV) (K : List CV → Prop) : Prop :=
  match l with
  | [] => K []
  | c :: r => frcC c fun c => frcL r fun r => K (c :: r)
theorem frcL_eq : ∀ (l : List CV) (K : List CV → Prop), frcL l K = K l
  | [], _ => rfl
  | c :: r, K => by
    unfold frcL
    rw [frcC_eq]
    exact frcL_eq r _
def frcA (a : AV) (K : AV → Prop) : Prop :=
  match a with
  | .one c => frcC c fun c => K (.one c)
  | .agg l => frcL l fun l => K (.agg l)
theorem frcA_eq (a : AV) (K : AV → Prop) : frcA a K = K a := by
  cases a <;> simp only [frcA, frcC_eq, frcL_eq]
def frcAL (l : List AV) (K : List AV → Prop) : Prop :=
  match l with
  | [] => K []
  | c :: r => frcA c fun c => frcAL r fun r => K (c :: r)
theorem frcAL_eq : ∀ (l : List AV) (K : List AV → Prop), frcAL l K = K l
  | [], _ => rfl
  | c :: r, K => by
    unfold frcAL
    rw [frcA_eq]
    exact frcAL_eq r _
def frcS (v : VV) (K : VV → Prop) : Prop :=
  match v with
  | .av a => frcA a fun a => K (.av a)
  | .tup l => frcAL l fun l => K (.tup l)
theorem frcS_eq (v : VV) (K : VV → Prop) : frcS v K = K v := by
  cases v <;> simp only [frcS, frcA_eq, frcAL_eq]
def frcBl (b : VB) (K : VB → Prop) : Prop :=
  match b with
  | .rows t o l ov => frcB o fun o => frcOv ov fun ov => frcTL t l fun t l => K (.rows t o l ov)
  | .box l => frcL l fun l => K (.box l)
theorem frcBl_eq (b : VB) (K : VB → Prop) : frcBl b K = K b := by
  cases b <;> simp only [frcBl, frcTL_eq, frcB_eq, frcOv_eq, frcL_eq]
def frcTm (l : List (Nat × VV)) (K : List (Nat × VV) → Prop) : Prop :=
  match l with
  | [] => K []
  | (t, v) :: r => frcS v fun v => frcTm r fun r => K ((t, v) :: r)
theorem frcTm_eq : ∀ (l : List (Nat × VV)) (K : List (Nat × VV) → Prop), frcTm l K = K l
  | [], _ => rfl
  | (t, v) :: r, K => by
    unfold frcTm
    rw [frcS_eq]
    exact frcTm_eq r _
def frcBs (l : List (Nat × Option VB)) (K : List (Nat × Option VB) → Prop) : Prop :=
  match l with
  | [] => K []
  | (n, none) :: r => frcBs r fun r => K ((n, none) :: r)
  | (n, some b) :: r => frcBl b fun b => frcBs r fun r => K ((n, some b) :: r)
theorem frcBs_eq : ∀ (l : List (Nat × Option VB)) (K : List (Nat × Option VB) → Prop), frcBs l K = K l
  | [], _ => rfl
  | (n, none) :: r, K => frcBs_eq r _
  | (n, some b) :: r, K => by
    unfold frcBs
    rw [frcBl_eq]
    exact frcBs_eq r _
def normV (s : VSt) (K : VSt → Prop) : Prop :=
  match s with
  | ⟨tm, bl, nt⟩ => frcTm tm fun tm => frcBs bl fun bl => K ⟨tm, bl, nt⟩
theorem normV_eq (s : VSt) (K : VSt → Prop) : normV s K = K s := by
  show frcTm s.tm _ = _
  rw [frcTm_eq, frcBs_eq]
/-- .. where something was written. -/
def normW (wr : List Nat) (s : VSt) (K : VSt → Prop) : Prop :=
  match wr with
  | [] => K s
  | _ :: _ => normV s K
theorem normW_eq (wr : List Nat) (s : VSt) (K : VSt → Prop) : normW wr s K = K s := by
  cases wr
  · rfl
  · exact normV_eq s K
end Go.Proofs.YtiimdlkeikcfiaaGreat.V
