/- All of them. -/
import Derived.Test.YtinhodpfgjddmaaDoorGZ1
