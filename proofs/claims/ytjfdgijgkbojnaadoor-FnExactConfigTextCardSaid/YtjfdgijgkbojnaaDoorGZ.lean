/- All of them. -/
import Derived.Test.YtjfdgijgkbojnaaDoorGZ1
